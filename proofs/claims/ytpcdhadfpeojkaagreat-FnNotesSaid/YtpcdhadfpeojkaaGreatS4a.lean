/-
  These laws hold: FnNotes: each answers true for every input, and nothing of its arguments is changed. Conditions: those of the given statements alone.
  Printed by a program of the proof's author: what each function does, by the plain machine (the texts Aw.. and Ax..), and the rows at the end.
-/
import Derived.Test.YtpcdhadfpeojkaaGreatRows
import Derived.JoinedOf
import Derived.Test.YtpcdhadfpeojkaaGreatPqc
namespace Go.Aw.Pl
open Go Go.Aw Go.Proofs
set_option linter.unusedVariables false
set_option maxRecDepth 20000
set_option maxHeartbeats 2000000
noncomputable section
noncomputable abbrev uu : ShS := .one .undef
noncomputable abbrev ui : ShS := .one (.dat (.int .i64))
noncomputable def un : Nat -> List ShS -> List ShS
  | 0, l => l
  | n + 1, l => uu :: un n l
abbrev tyS44 : Ty := .pair (.int .i64) (.pair (.sl 3 (.int .i64)) (.pair (.sl 3 (.int .i64)) (.pair (.sl 3 (.int .i64)) .unit)))
abbrev tyS47 : Ty := .pair (.int .i64) (.pair (.int .i64) .unit)
abbrev tyS45 : Ty := .pair (.int .i64) (.pair (.int .i64) (.pair (.int .i64) (.pair (.int .i64) (.pair (.sl 254 tyS47) .unit))))
abbrev tyS49 : Ty := .pair (.int .i64) (.pair (.int .i64) (.pair .str (.pair .str .unit)))
abbrev tyS42 : Ty := .pair (.int .i64) (.pair (.int .i64) (.pair (.int .i64) (.pair (.int .i64) tyS49)))
abbrev tyS46 : Ty := .pair (.int .i64) (.pair (.int .i64) (.pair (.int .i64) (.pair (.int .i64) (.pair (.sl 167 (.pair (.int .i64) (.pair tyS42 .unit))) (.pair .str .unit)))))
abbrev tyS410 : Ty := .pair (.sl 5 (.int .u8)) (.pair (.int .i64) (.pair .bool .unit))
abbrev tyS411 : Ty := .pair (.int .i64) (.pair .str (.pair .str tyS47))
abbrev tyS43 : Ty := .pair (.int .i64) (.pair (.int .i64) (.pair (.sl 44 tyS411) .unit))
abbrev tyS41 : Ty := .pair (.sl 42 tyS43) (.pair (.sl 156 tyS45) (.pair (.sl 159 tyS44) (.pair (.int .i64) (.pair (.sl 3 (.int .i64)) (.pair (.sl 48 tyS49) .unit)))))
abbrev tyS48 : Ty := .pair (.sl 325 (.pair (.int .i64) (.pair (.int .i64) (.pair (.sl 380 tyS411) .unit)))) (.pair (.sl 329 (.pair (.int .i64) (.pair (.int .i64) (.pair (.int .i64) (.pair (.int .i64) (.pair (.sl 383 tyS47) .unit)))))) (.pair (.sl 331 tyS44) (.pair (.int .i64) (.pair (.sl 3 (.int .i64)) (.pair (.sl 333 tyS49) .unit)))))
abbrev tyS412 : Ty := .pair (.int .i64) (.pair (.int .i64) (.pair (.int .i64) (.pair (.int .i64) (.pair (.int .i64) (.pair (.int .i64) (.pair (.int .i64) (.pair (.sl 167 (.pair (.int .i64) (.pair tyS42 .unit))) (.pair .bool (.pair .str .unit)))))))))
abbrev tyS413 : Ty := .pair (.int .i64) (.pair (.int .i64) (.pair (.int .i64) (.pair (.int .i64) (.pair (.int .i64) (.pair (.int .i64) (.pair (.int .i64) (.pair (.sl 293 (.pair (.int .i64) (.pair tyS42 .unit))) (.pair .bool (.pair .str .unit)))))))))
noncomputable def theta : List (TypeId × Ty) := [(1, .op),
  (2, (.int .i64)),
  (3, (.int .i64)),
  (4, .bool),
  (5, (.int .u8)),
  (6, (.int .u8)),
  (7, (.pair (.int .i64) (.pair (.int .i64) (.pair .bool (.pair (.int .u8) .unit))))),
  (8, (.pair (.int .i64) (.pair (.int .i64) (.pair .bool (.pair (.int .u8) .unit))))),
  (9, .str),
  (10, .str),
  (11, .str),
  (12, (.int .u64)),
  (15, .op),
  (16, .op),
  (17, .op),
  (21, (.int .i32)),
  (22, (.sl 5 (.int .u8))),
  (23, .op),
  (24, (.pair (.int .i64) (.pair (.int .i64) tyS47))),
  (25, (.pair (.int .i64) (.pair (.int .i64) tyS47))),
  (26, (.sl 46 tyS42)),
  (28, .op),
  (29, (.sl 42 tyS43)),
  (30, (.sl 156 tyS45)),
  (31, (.sl 159 tyS44)),
  (32, (.sl 3 (.int .i64))),
  (33, (.sl 48 tyS49)),
  (34, tyS41),
  (35, tyS41),
  (37, .op),
  (38, .op),
  (39, .op),
  (40, (.sl 44 tyS411)),
  (41, tyS43),
  (42, tyS43),
  (43, tyS411),
  (44, tyS411),
  (45, tyS42),
  (46, tyS42),
  (47, tyS49),
  (48, tyS49),
  (50, .op),
  (51, .op),
  (52, (.sl 58 tyS46)),
  (54, .op),
  (55, .op),
  (56, (.sl 167 (.pair (.int .i64) (.pair tyS42 .unit)))),
  (57, tyS46),
  (58, tyS46),
  (59, .op),
  (60, .op),
  (61, .op),
  (62, .op),
  (64, .op),
  (66, .op),
  (68, .op),
  (69, .op),
  (70, .op),
  (71, .op),
  (72, .op),
  (73, .op),
  (74, (.pair (.int .i64) (.pair (.int .i64) tyS47))),
  (75, (.pair (.int .i64) (.pair (.int .i64) (.pair (.sl 167 (.pair (.int .i64) (.pair tyS42 .unit))) .unit)))),
  (76, (.pair (.int .i64) (.pair (.int .i64) (.pair (.sl 167 (.pair (.int .i64) (.pair tyS42 .unit))) .unit)))),
  (77, (.pair (.int .i64) (.pair (.int .i64) (.pair (.pair (.int .i64) (.pair (.int .i64) (.pair (.sl 167 (.pair (.int .i64) (.pair tyS42 .unit))) .unit))) (.pair tyS41 .unit))))),
  (78, (.pair (.int .i64) (.pair (.int .i64) (.pair (.pair (.int .i64) (.pair (.int .i64) (.pair (.sl 167 (.pair (.int .i64) (.pair tyS42 .unit))) .unit))) (.pair tyS41 .unit))))),
  (79, (.sl 4 .bool)),
  (80, (.pair (.sl 5 (.int .u8)) (.pair (.int .i64) .unit))),
  (81, (.pair (.sl 5 (.int .u8)) (.pair (.int .i64) .unit))),
  (82, (.sl 113 tyS412)),
  (83, (.pair (.int .i64) (.pair (.pair (.int .i64) (.pair (.int .i64) (.pair (.pair (.int .i64) (.pair (.int .i64) (.pair (.sl 167 (.pair (.int .i64) (.pair tyS42 .unit))) .unit))) (.pair tyS41 .unit)))) (.pair (.int .i64) (.pair (.sl 4 .bool) (.pair (.sl 3 (.int .i64)) (.pair (.sl 3 (.int .i64)) (.pair (.int .i64) (.pair tyS41 (.pair (.pair (.sl 5 (.int .u8)) (.pair (.int .i64) .unit)) (.pair (.sl 113 tyS412) .unit))))))))))),
  (84, (.pair (.int .i64) (.pair (.pair (.int .i64) (.pair (.int .i64) (.pair (.pair (.int .i64) (.pair (.int .i64) (.pair (.sl 167 (.pair (.int .i64) (.pair tyS42 .unit))) .unit))) (.pair tyS41 .unit)))) (.pair (.int .i64) (.pair (.sl 4 .bool) (.pair (.sl 3 (.int .i64)) (.pair (.sl 3 (.int .i64)) (.pair (.int .i64) (.pair tyS41 (.pair (.pair (.sl 5 (.int .u8)) (.pair (.int .i64) .unit)) (.pair (.sl 113 tyS412) .unit))))))))))),
  (86, .op),
  (87, .op),
  (88, .op),
  (89, .op),
  (90, .op),
  (91, (.sl 293 (.pair (.int .i64) (.pair tyS42 .unit)))),
  (92, (.pair (.int .i64) (.pair (.int .i64) (.pair (.sl 293 (.pair (.int .i64) (.pair tyS42 .unit))) .unit)))),
  (93, (.pair (.int .i64) (.pair (.int .i64) (.pair (.sl 293 (.pair (.int .i64) (.pair tyS42 .unit))) .unit)))),
  (94, (.sl 325 (.pair (.int .i64) (.pair (.int .i64) (.pair (.sl 380 tyS411) .unit))))),
  (95, (.sl 329 (.pair (.int .i64) (.pair (.int .i64) (.pair (.int .i64) (.pair (.int .i64) (.pair (.sl 383 tyS47) .unit))))))),
  (96, (.sl 331 tyS44)),
  (97, (.sl 333 tyS49)),
  (98, tyS48),
  (99, tyS48),
  (100, (.pair (.int .i64) (.pair (.int .i64) (.pair (.pair (.int .i64) (.pair (.int .i64) (.pair (.sl 293 (.pair (.int .i64) (.pair tyS42 .unit))) .unit))) (.pair tyS48 .unit))))),
  (101, (.pair (.int .i64) (.pair (.int .i64) (.pair (.pair (.int .i64) (.pair (.int .i64) (.pair (.sl 293 (.pair (.int .i64) (.pair tyS42 .unit))) .unit))) (.pair tyS48 .unit))))),
  (102, (.pair (.sl 5 (.int .u8)) (.pair (.int .i64) .unit))),
  (103, (.sl 107 tyS413)),
  (104, (.pair (.int .i64) (.pair (.pair (.int .i64) (.pair (.int .i64) (.pair (.pair (.int .i64) (.pair (.int .i64) (.pair (.sl 293 (.pair (.int .i64) (.pair tyS42 .unit))) .unit))) (.pair tyS48 .unit)))) (.pair (.int .i64) (.pair (.sl 4 .bool) (.pair (.sl 3 (.int .i64)) (.pair (.sl 3 (.int .i64)) (.pair (.int .i64) (.pair tyS48 (.pair (.pair (.sl 5 (.int .u8)) (.pair (.int .i64) .unit)) (.pair (.sl 107 tyS413) .unit))))))))))),
  (105, (.pair (.int .i64) (.pair (.pair (.int .i64) (.pair (.int .i64) (.pair (.pair (.int .i64) (.pair (.int .i64) (.pair (.sl 293 (.pair (.int .i64) (.pair tyS42 .unit))) .unit))) (.pair tyS48 .unit)))) (.pair (.int .i64) (.pair (.sl 4 .bool) (.pair (.sl 3 (.int .i64)) (.pair (.sl 3 (.int .i64)) (.pair (.int .i64) (.pair tyS48 (.pair (.pair (.sl 5 (.int .u8)) (.pair (.int .i64) .unit)) (.pair (.sl 107 tyS413) .unit))))))))))),
  (106, tyS413),
  (107, tyS413),
  (108, .op),
  (109, .op),
  (110, .op),
  (111, .op),
  (112, tyS412),
  (113, tyS412),
  (114, .op),
  (115, .op),
  (116, .op),
  (117, .op),
  (118, (.sl 225 tyS42)),
  (119, .op),
  (120, .op),
  (121, .op),
  (122, .op),
  (123, .op),
  (124, .op),
  (125, .op),
  (126, .op),
  (127, .op),
  (128, .op),
  (129, .op),
  (130, .op),
  (131, .op),
  (133, .op),
  (134, .op),
  (135, .op),
  (137, .op),
  (138, .op),
  (140, .op),
  (141, .op),
  (142, .op),
  (143, .op),
  (144, .op),
  (145, .op),
  (146, .op),
  (147, .op),
  (148, .op),
  (149, .op),
  (150, .op),
  (151, .op),
  (152, .op),
  (153, .op),
  (154, (.sl 254 tyS47)),
  (155, tyS45),
  (156, tyS45),
  (157, .op),
  (158, tyS44),
  (159, tyS44),
  (160, .op),
  (161, .op),
  (162, .op),
  (163, .op),
  (164, .op),
  (165, .op),
  (166, (.pair (.int .i64) (.pair tyS42 .unit))),
  (167, (.pair (.int .i64) (.pair tyS42 .unit))),
  (168, .op),
  (169, .op),
  (170, .op),
  (171, (.int .u64)),
  (172, .op),
  (173, .op),
  (174, .op),
  (175, .op),
  (176, .op),
  (177, .op),
  (179, .op),
  (180, .op),
  (181, tyS410),
  (182, tyS410),
  (183, .op),
  (184, .op),
  (185, .op),
  (186, (.sl 9 .str)),
  (187, .op),
  (188, .op),
  (189, .op),
  (190, .op),
  (191, .op),
  (192, .op),
  (193, .op),
  (194, .op),
  (195, .op),
  (196, .op),
  (197, .op),
  (198, .op),
  (199, .op),
  (200, .op),
  (201, .op),
  (202, .op),
  (203, .op),
  (204, .op),
  (205, .op),
  (206, .op),
  (207, .op),
  (208, .op),
  (209, .op),
  (210, .op),
  (211, .op),
  (212, .op),
  (213, .op),
  (214, .op),
  (215, .op),
  (216, .op),
  (217, .op),
  (218, .op),
  (219, .op),
  (220, .op),
  (221, .op),
  (222, .op),
  (223, .op),
  (224, .op),
  (225, tyS42),
  (226, .op),
  (227, .op),
  (228, .op),
  (229, .op),
  (230, .op),
  (231, .op),
  (232, .op),
  (233, .op),
  (234, .op),
  (235, .op),
  (236, .op),
  (237, .op),
  (238, .op),
  (239, .op),
  (240, .op),
  (242, .op),
  (243, .op),
  (244, .op),
  (246, .op),
  (248, .op),
  (249, .op),
  (250, (.pair (.sl 5 (.int .u8)) tyS47)),
  (251, (.pair (.sl 5 (.int .u8)) tyS47)),
  (252, .op),
  (253, tyS47),
  (254, tyS47),
  (255, .op),
  (256, .op),
  (257, .op),
  (258, .op),
  (259, (.sl 22 (.sl 5 (.int .u8)))),
  (260, .op),
  (261, .op),
  (263, .op),
  (264, .op),
  (265, .op),
  (266, .op),
  (267, tyS410),
  (268, tyS410),
  (269, .op),
  (270, .op),
  (271, .op),
  (272, .op),
  (273, .op),
  (274, .op),
  (275, .op),
  (276, .op),
  (277, .op),
  (278, .op),
  (279, .op),
  (280, .op),
  (281, .op),
  (282, .op),
  (283, .op),
  (284, .op),
  (285, .op),
  (286, .op),
  (287, .op),
  (288, .op),
  (289, .op),
  (290, .op),
  (291, .op),
  (292, (.pair (.int .i64) (.pair tyS42 .unit))),
  (293, (.pair (.int .i64) (.pair tyS42 .unit))),
  (294, .op),
  (295, .op),
  (296, .op),
  (297, .op),
  (298, .op),
  (299, .op),
  (300, .op),
  (301, .op),
  (302, .op),
  (303, .op),
  (304, .op),
  (305, .op),
  (306, .op),
  (307, .op),
  (308, .op),
  (309, .op),
  (310, .op),
  (311, .op),
  (312, .op),
  (313, .op),
  (314, .op),
  (315, .op),
  (316, .op),
  (317, .op),
  (319, .op),
  (320, .op),
  (321, .op),
  (322, .op),
  (323, (.sl 380 tyS411)),
  (324, (.pair (.int .i64) (.pair (.int .i64) (.pair (.sl 380 tyS411) .unit)))),
  (325, (.pair (.int .i64) (.pair (.int .i64) (.pair (.sl 380 tyS411) .unit)))),
  (326, .op),
  (327, (.sl 383 tyS47)),
  (328, (.pair (.int .i64) (.pair (.int .i64) (.pair (.int .i64) (.pair (.int .i64) (.pair (.sl 383 tyS47) .unit)))))),
  (329, (.pair (.int .i64) (.pair (.int .i64) (.pair (.int .i64) (.pair (.int .i64) (.pair (.sl 383 tyS47) .unit)))))),
  (330, .op),
  (331, tyS44),
  (332, .op),
  (333, tyS49),
  (334, .op),
  (335, .op),
  (336, .op),
  (337, .op),
  (338, .op),
  (339, .op),
  (340, .op),
  (341, .op),
  (343, .op),
  (344, .op),
  (345, .op),
  (346, .op),
  (347, .op),
  (348, .op),
  (350, .op),
  (351, .op),
  (353, .op),
  (354, .op),
  (355, .op),
  (356, .op),
  (357, .op),
  (358, .op),
  (359, .op),
  (360, .op),
  (361, .op),
  (362, .op),
  (363, .op),
  (364, .op),
  (365, .op),
  (367, .op),
  (368, .op),
  (369, .op),
  (370, .op),
  (371, .op),
  (372, .op),
  (373, .op),
  (374, .op),
  (375, .op),
  (376, .op),
  (377, .op),
  (378, .op),
  (379, .op),
  (380, tyS411),
  (381, .op),
  (382, .op),
  (383, tyS47),
  (384, .op),
  (385, .op),
  (386, .op),
  (392, (.int .u32)),
  (393, (.int .u8)),
  (394, (.int .u8)),
  (395, .op),
  (396, .op),
  (397, (.int .i32)),
  (398, (.int .i32))]
theorem tys : ∀ t T, find theta t = some T -> tyF Tryz.prog T (.t t) = true := tys_of (by kernel_rfl)
theorem mixed : Tryz.prog.follows .mixedOrders = true := by kernel_rfl
namespace laws_big
noncomputable def fs : FS := ⟨[(.val (.sl 5 (.int .u8)) .f)], [(.bool, .o)], fun _ => true, fun x => ((), ((laws_big x.1), ()))⟩
noncomputable def E : Env := ⟨theta, [], []⟩
noncomputable def H : List LC := []
theorem env : EnvOk Tryz.prog E := env_nil tys
theorem loops : ∀ c, Tryz.f12.body = some c -> LoopsOk E H c := loops_none (by kernel_rfl)
theorem sound : Sound Tryz.prog 12 fs := fn_sound env mixed Tryz.func12 H loops fun ⟨x0, ()⟩ hw _ => (show runFn E H Tryz.f12 fs.ps fs.rs (x0, ()) = raw x0 from by kernel_rfl).trans (eq x0 hw)
theorem known : Seen Tryz.prog 12 fs := ⟨sound, _, Tryz.func12, by kernel_rfl, by kernel_rfl⟩
end laws_big
namespace spec_l1New
noncomputable def fs : FS := ⟨[(.val (.sl 5 (.int .u8)) .f)], [((.pair (.sl 5 (.int .u8)) tyS47), (.np .f))], fun x => spec_l1New.pre x.1, fun x => ((), ((spec_l1New x.1), ()))⟩
noncomputable def E : Env := ⟨theta, [], []⟩
noncomputable def sh3 : ShSt := ⟨((.one (.dat (.sl 5 (.int .u8)))) :: uu :: uu :: ui :: ui :: un 27 []), []⟩
noncomputable def outs3 : List OutC := [⟨(.exit 0), ⟨0, [0, 3], []⟩, ⟨((.one (.dat (.sl 5 (.int .u8)))) :: uu :: uu :: ui :: un 28 []), []⟩⟩]
noncomputable def L3 : LC := ⟨3, ⟨3, [0, 3, 4], []⟩, sh3, outs3, pre3, fn3⟩
noncomputable def H : List LC := [L3]
noncomputable def code (i : Nat) : Code := (loopsOf (bodyOf Tryz.f89)).getD i .skip
theorem lok3 : LoopOk E H (code 0) L3 := ⟨mu3, fun ⟨x1, x2, x3, ()⟩ hp => rounds_ok (show L3.step E H (code 0) (x1, (x2, (x3, ()))) = raw3 x1 x2 x3 from by kernel_rfl) (ok3 x1 x2 x3 hp)⟩
theorem env : EnvOk Tryz.prog E := env_nil tys
theorem loops : ∀ c, Tryz.f89.body = some c -> LoopsOk E H c := loops_of (by kernel_rfl) (by kernel_rfl) fun i l h => match i, h with
  | 0, h => Option.some.inj h ▸ lok3
  | n + 1, h => by cases h
theorem sound : Sound Tryz.prog 89 fs := fn_sound env mixed Tryz.func89 H loops fun ⟨x0, ()⟩ hw hp => (show runFn E H Tryz.f89 fs.ps fs.rs (x0, ()) = raw x0 from by kernel_rfl).trans (eq x0 hw hp)
theorem known : Seen Tryz.prog 89 fs := ⟨sound, _, Tryz.func89, by kernel_rfl, by kernel_rfl⟩
end spec_l1New
namespace spec_l1Byte
noncomputable def fs : FS := ⟨[(.ref (.pair (.sl 5 (.int .u8)) tyS47) .f)], [((.int .i64), .o)], fun x => spec_l1Byte.pre x.1, fun x => (((spec_l1Byte x.1).1, ()), ((spec_l1Byte x.1).2, ()))⟩
noncomputable def E : Env := ⟨theta, [], []⟩
noncomputable def H : List LC := []
theorem env : EnvOk Tryz.prog E := env_nil tys
theorem loops : ∀ c, Tryz.f236.body = some c -> LoopsOk E H c := loops_none (by kernel_rfl)
theorem sound : Sound Tryz.prog 236 fs := fn_sound env mixed Tryz.func236 H loops fun ⟨x0, ()⟩ hw hp => (show runFn E H Tryz.f236 fs.ps fs.rs (x0, ()) = raw x0 from by kernel_rfl).trans (eq x0 hw hp)
theorem known : Seen Tryz.prog 236 fs := ⟨sound, _, Tryz.func236, by kernel_rfl, by kernel_rfl⟩
end spec_l1Byte
namespace spec_l1Below
noncomputable def fs : FS := ⟨[(.ref (.pair (.sl 5 (.int .u8)) tyS47) .f), (.val (.int .i64) .f)], [((.int .i64), .o)], fun x => spec_l1Below.pre x.1 x.2.1, fun x => (((spec_l1Below x.1 x.2.1).1, ()), ((spec_l1Below x.1 x.2.1).2, ()))⟩
noncomputable def E : Env := ⟨theta, [(236, spec_l1Byte.fs)], []⟩
noncomputable def H : List LC := []
theorem env : EnvOk Tryz.prog E := env_cons spec_l1Byte.known (env_nil tys)
theorem loops : ∀ c, Tryz.f125.body = some c -> LoopsOk E H c := loops_none (by kernel_rfl)
theorem sound : Sound Tryz.prog 125 fs := fn_sound env mixed Tryz.func125 H loops fun ⟨x0, x1, ()⟩ hw hp => (show runFn E H Tryz.f125 fs.ps fs.rs (x0, (x1, ())) = raw x0 x1 from by kernel_rfl).trans (eq x0 x1 hw hp)
theorem known : Seen Tryz.prog 125 fs := ⟨sound, _, Tryz.func125, by kernel_rfl, by kernel_rfl⟩
end spec_l1Below
namespace spec_l1PickInt
noncomputable def fs : FS := ⟨[(.ref (.pair (.sl 5 (.int .u8)) tyS47) .f), (.val (.sl 3 (.int .i64)) .o)], [((.int .i64), .o)], fun x => spec_l1PickInt.pre x.1 x.2.1, fun x => (((spec_l1PickInt x.1 x.2.1).1, ()), ((spec_l1PickInt x.1 x.2.1).2, ()))⟩
noncomputable def E : Env := ⟨theta, [(125, spec_l1Below.fs)], []⟩
noncomputable def H : List LC := []
theorem env : EnvOk Tryz.prog E := env_cons spec_l1Below.known (env_nil tys)
theorem loops : ∀ c, Tryz.f121.body = some c -> LoopsOk E H c := loops_none (by kernel_rfl)
theorem sound : Sound Tryz.prog 121 fs := fn_sound env mixed Tryz.func121 H loops fun ⟨x0, x1, ()⟩ hw hp => (show runFn E H Tryz.f121 fs.ps fs.rs (x0, (x1, ())) = raw x0 x1 from by kernel_rfl).trans (eq x0 x1 hw hp)
theorem known : Seen Tryz.prog 121 fs := ⟨sound, _, Tryz.func121, by kernel_rfl, by kernel_rfl⟩
end spec_l1PickInt
namespace spec_l1DrawRight
noncomputable def fs : FS := ⟨[(.ref (.pair (.sl 5 (.int .u8)) tyS47) .f)], [((.pair (.int .i64) (.pair (.int .i64) tyS47)), .o)], fun x => spec_l1DrawRight.pre x.1, fun x => (((spec_l1DrawRight x.1).1, ()), ((spec_l1DrawRight x.1).2, ()))⟩
noncomputable def E : Env := ⟨theta, [(125, spec_l1Below.fs), (121, spec_l1PickInt.fs)], []⟩
noncomputable def H : List LC := []
theorem env : EnvOk Tryz.prog E := env_cons spec_l1Below.known (env_cons spec_l1PickInt.known (env_nil tys))
theorem loops : ∀ c, Tryz.f211.body = some c -> LoopsOk E H c := loops_none (by kernel_rfl)
theorem sound : Sound Tryz.prog 211 fs := fn_sound env mixed Tryz.func211 H loops fun ⟨x0, ()⟩ hw hp => (show runFn E H Tryz.f211 fs.ps fs.rs (x0, ()) = raw x0 from by kernel_rfl).trans (eq x0 hw hp)
theorem known : Seen Tryz.prog 211 fs := ⟨sound, _, Tryz.func211, by kernel_rfl, by kernel_rfl⟩
end spec_l1DrawRight
namespace spec_l1Once
noncomputable def fs : FS := ⟨[(.ref (.pair (.sl 5 (.int .u8)) tyS47) .f), (.val (.int .i64) .f)], [(.bool, .o)], fun x => spec_l1Once.pre x.1 x.2.1, fun x => (((spec_l1Once x.1 x.2.1).1, ()), ((spec_l1Once x.1 x.2.1).2, ()))⟩
noncomputable def E : Env := ⟨theta, [(125, spec_l1Below.fs)], []⟩
noncomputable def H : List LC := []
theorem env : EnvOk Tryz.prog E := env_cons spec_l1Below.known (env_nil tys)
theorem loops : ∀ c, Tryz.f92.body = some c -> LoopsOk E H c := loops_none (by kernel_rfl)
theorem sound : Sound Tryz.prog 92 fs := fn_sound env mixed Tryz.func92 H loops fun ⟨x0, x1, ()⟩ hw hp => (show runFn E H Tryz.f92 fs.ps fs.rs (x0, (x1, ())) = raw x0 x1 from by kernel_rfl).trans (eq x0 x1 hw hp)
theorem known : Seen Tryz.prog 92 fs := ⟨sound, _, Tryz.func92, by kernel_rfl, by kernel_rfl⟩
end spec_l1Once
namespace spec_l1Pick
noncomputable def fs : FS := ⟨[(.ref (.pair (.sl 5 (.int .u8)) tyS47) .f), (.val (.sl 9 .str) .o)], [(.str, .o)], fun x => spec_l1Pick.pre x.1 x.2.1, fun x => (((spec_l1Pick x.1 x.2.1).1, ()), ((spec_l1Pick x.1 x.2.1).2, ()))⟩
noncomputable def E : Env := ⟨theta, [(125, spec_l1Below.fs)], []⟩
noncomputable def H : List LC := []
theorem env : EnvOk Tryz.prog E := env_cons spec_l1Below.known (env_nil tys)
theorem loops : ∀ c, Tryz.f126.body = some c -> LoopsOk E H c := loops_none (by kernel_rfl)
theorem sound : Sound Tryz.prog 126 fs := fn_sound env mixed Tryz.func126 H loops fun ⟨x0, x1, ()⟩ hw hp => (show runFn E H Tryz.f126 fs.ps fs.rs (x0, (x1, ())) = raw x0 x1 from by kernel_rfl).trans (eq x0 x1 hw hp)
theorem known : Seen Tryz.prog 126 fs := ⟨sound, _, Tryz.func126, by kernel_rfl, by kernel_rfl⟩
end spec_l1Pick
namespace spec_l2DrawText
noncomputable def fs : FS := ⟨[(.ref (.pair (.sl 5 (.int .u8)) tyS47) .f)], [(.str, .o)], fun x => spec_l2DrawText.pre x.1, fun x => (((spec_l2DrawText x.1).1, ()), ((spec_l2DrawText x.1).2, ()))⟩
noncomputable def E : Env := ⟨theta, [(126, spec_l1Pick.fs)], []⟩
noncomputable def H : List LC := []
theorem env : EnvOk Tryz.prog E := env_cons spec_l1Pick.known (env_nil tys)
theorem loops : ∀ c, Tryz.f335.body = some c -> LoopsOk E H c := loops_none (by kernel_rfl)
theorem sound : Sound Tryz.prog 335 fs := fn_sound env mixed Tryz.func335 H loops fun ⟨x0, ()⟩ hw hp => (show runFn E H Tryz.f335 fs.ps fs.rs (x0, ()) = raw x0 from by kernel_rfl).trans (eq x0 hw hp)
theorem known : Seen Tryz.prog 335 fs := ⟨sound, _, Tryz.func335, by kernel_rfl, by kernel_rfl⟩
end spec_l2DrawText
namespace spec_l2DrawBody
noncomputable def fs : FS := ⟨[(.ref (.pair (.sl 5 (.int .u8)) tyS47) .f)], [(tyS42, .o)], fun x => spec_l2DrawBody.pre x.1, fun x => (((spec_l2DrawBody x.1).1, ()), ((spec_l2DrawBody x.1).2, ()))⟩
noncomputable def E : Env := ⟨theta, [(125, spec_l1Below.fs), (121, spec_l1PickInt.fs), (335, spec_l2DrawText.fs)], []⟩
noncomputable def H : List LC := []
theorem env : EnvOk Tryz.prog E := env_cons spec_l1Below.known (env_cons spec_l1PickInt.known (env_cons spec_l2DrawText.known (env_nil tys)))
theorem loops : ∀ c, Tryz.f297.body = some c -> LoopsOk E H c := loops_none (by kernel_rfl)
theorem sound : Sound Tryz.prog 297 fs := fn_sound env mixed Tryz.func297 H loops fun ⟨x0, ()⟩ hw hp => (show runFn E H Tryz.f297 fs.ps fs.rs (x0, ()) = raw x0 from by kernel_rfl).trans (eq x0 hw hp)
theorem known : Seen Tryz.prog 297 fs := ⟨sound, _, Tryz.func297, by kernel_rfl, by kernel_rfl⟩
end spec_l2DrawBody
namespace spec_l2DrawRight
noncomputable def fs : FS := ⟨[(.ref (.pair (.sl 5 (.int .u8)) tyS47) .f)], [(tyS42, .o)], fun x => spec_l2DrawRight.pre x.1, fun x => (((spec_l2DrawRight x.1).1, ()), ((spec_l2DrawRight x.1).2, ()))⟩
noncomputable def E : Env := ⟨theta, [(125, spec_l1Below.fs), (92, spec_l1Once.fs), (297, spec_l2DrawBody.fs)], []⟩
noncomputable def H : List LC := []
theorem env : EnvOk Tryz.prog E := env_cons spec_l1Below.known (env_cons spec_l1Once.known (env_cons spec_l2DrawBody.known (env_nil tys)))
theorem loops : ∀ c, Tryz.f212.body = some c -> LoopsOk E H c := loops_none (by kernel_rfl)
theorem sound : Sound Tryz.prog 212 fs := fn_sound env mixed Tryz.func212 H loops fun ⟨x0, ()⟩ hw hp => (show runFn E H Tryz.f212 fs.ps fs.rs (x0, ()) = raw x0 from by kernel_rfl).trans (eq x0 hw hp)
theorem known : Seen Tryz.prog 212 fs := ⟨sound, _, Tryz.func212, by kernel_rfl, by kernel_rfl⟩
end spec_l2DrawRight
namespace spec_l6DrawCmds
noncomputable def ob1 : List (Nat × ShO) := [(10000000, (.box (.pair (.sl 5 (.int .u8)) tyS47) (.dat (.pair (.sl 5 (.int .u8)) tyS47)))), (20000000, (.arr 46 tyS42))]
noncomputable def fs : FS := ⟨[(.ref (.pair (.sl 5 (.int .u8)) tyS47) .f), (.val (.int .i64) .f)], [((.sl 46 tyS42), .o)], fun x => spec_l6DrawCmds.pre x.1 x.2.1, fun x => (((spec_l6DrawCmds x.1 x.2.1).1, ()), ((spec_l6DrawCmds x.1 x.2.1).2, ()))⟩
noncomputable def E : Env := ⟨theta, [(125, spec_l1Below.fs), (92, spec_l1Once.fs), (212, spec_l2DrawRight.fs)], []⟩
noncomputable def sh4 : ShSt := ⟨((.one (.bptr 10000000 [] (.pair (.sl 5 (.int .u8)) tyS47))) :: un 4 ((.one (.arr 20000000)) :: ui :: ui :: un 29 [])), ob1⟩
noncomputable def outs4 : List OutC := [⟨(.exit 0), ⟨0, [5, 0], [(5, (46, tyS42))]⟩, ⟨((.one (.bptr 10000000 [] (.pair (.sl 5 (.int .u8)) tyS47))) :: un 4 ((.one (.arr 20000000)) :: un 31 [])), ob1⟩⟩]
noncomputable def L4 : LC := ⟨4, ⟨4, [0, 5, 6, 7], [(5, (46, tyS42))]⟩, sh4, outs4, pre4, fn4⟩
noncomputable def H : List LC := [L4]
noncomputable def code (i : Nat) : Code := (loopsOf (bodyOf Tryz.f91)).getD i .skip
theorem lok4 : LoopOk E H (code 0) L4 := ⟨mu4, fun ⟨x1, x2, x3, x4, ()⟩ hp => rounds_ok (show L4.step E H (code 0) (x1, (x2, (x3, (x4, ())))) = raw4 x1 x2 x3 x4 from by kernel_rfl) (ok4 x1 x2 x3 x4 hp)⟩
theorem env : EnvOk Tryz.prog E := env_cons spec_l1Below.known (env_cons spec_l1Once.known (env_cons spec_l2DrawRight.known (env_nil tys)))
theorem loops : ∀ c, Tryz.f91.body = some c -> LoopsOk E H c := loops_of (by kernel_rfl) (by kernel_rfl) fun i l h => match i, h with
  | 0, h => Option.some.inj h ▸ lok4
  | n + 1, h => by cases h
theorem sound : Sound Tryz.prog 91 fs := fn_sound env mixed Tryz.func91 H loops fun ⟨x0, x1, ()⟩ hw hp => (show runFn E H Tryz.f91 fs.ps fs.rs (x0, (x1, ())) = raw x0 x1 from by kernel_rfl).trans (eq x0 x1 hw hp)
theorem known : Seen Tryz.prog 91 fs := ⟨sound, _, Tryz.func91, by kernel_rfl, by kernel_rfl⟩
end spec_l6DrawCmds
namespace spec_l1In
noncomputable def fs : FS := ⟨[(.val (.int .i64) .f), (.val (.int .i64) .f), (.val (.int .i64) .f)], [(.bool, .o)], fun _ => true, fun x => ((), ((spec_l1In x.1 x.2.1 x.2.2.1), ()))⟩
noncomputable def E : Env := ⟨theta, [], []⟩
noncomputable def H : List LC := []
theorem env : EnvOk Tryz.prog E := env_nil tys
theorem loops : ∀ c, Tryz.f118.body = some c -> LoopsOk E H c := loops_none (by kernel_rfl)
theorem sound : Sound Tryz.prog 118 fs := fn_sound env mixed Tryz.func118 H loops fun ⟨x0, x1, x2, ()⟩ hw _ => (show runFn E H Tryz.f118 fs.ps fs.rs (x0, (x1, (x2, ()))) = raw x0 x1 x2 from by kernel_rfl).trans (eq x0 x1 x2 hw)
theorem known : Seen Tryz.prog 118 fs := ⟨sound, _, Tryz.func118, by kernel_rfl, by kernel_rfl⟩
end spec_l1In
namespace spec_SetupOk
noncomputable def fs : FS := ⟨[(.val (.pair (.int .i64) (.pair (.int .i64) tyS47)) .f)], [(.bool, .o)], fun _ => true, fun x => ((), ((spec_SetupOk x.1), ()))⟩
noncomputable def E : Env := ⟨theta, [(118, spec_l1In.fs)], []⟩
noncomputable def H : List LC := []
theorem env : EnvOk Tryz.prog E := env_cons spec_l1In.known (env_nil tys)
theorem loops : ∀ c, Tryz.f94.body = some c -> LoopsOk E H c := loops_none (by kernel_rfl)
theorem sound : Sound Tryz.prog 94 fs := fn_sound env mixed Tryz.func94 H loops fun ⟨x0, ()⟩ hw _ => (show runFn E H Tryz.f94 fs.ps fs.rs (x0, ()) = raw x0 from by kernel_rfl).trans (eq x0 hw)
theorem known : Seen Tryz.prog 94 fs := ⟨sound, _, Tryz.func94, by kernel_rfl, by kernel_rfl⟩
end spec_SetupOk
namespace spec_GroupNew
noncomputable def fs : FS := ⟨[(.val (.int .i64) .f)], [(tyS44, .o)], fun x => spec_GroupNew.pre x.1, fun x => ((), ((spec_GroupNew x.1), ()))⟩
noncomputable def E : Env := ⟨theta, [(118, spec_l1In.fs)], []⟩
noncomputable def H : List LC := []
theorem env : EnvOk Tryz.prog E := env_cons spec_l1In.known (env_nil tys)
theorem loops : ∀ c, Tryz.f128.body = some c -> LoopsOk E H c := loops_none (by kernel_rfl)
theorem sound : Sound Tryz.prog 128 fs := fn_sound env mixed Tryz.func128 H loops fun ⟨x0, ()⟩ hw hp => (show runFn E H Tryz.f128 fs.ps fs.rs (x0, ()) = raw x0 from by kernel_rfl).trans (eq x0 hw hp)
theorem known : Seen Tryz.prog 128 fs := ⟨sound, _, Tryz.func128, by kernel_rfl, by kernel_rfl⟩
end spec_GroupNew
namespace spec_KeepNew
noncomputable def fs : FS := ⟨[(.val (.pair (.int .i64) (.pair (.int .i64) tyS47)) .f)], [(tyS41, .o)], fun x => spec_KeepNew.pre x.1, fun x => ((), ((spec_KeepNew x.1), ()))⟩
noncomputable def E : Env := ⟨theta, [(94, spec_SetupOk.fs), (128, spec_GroupNew.fs)], []⟩
noncomputable def sh5 : ShSt := ⟨(uu :: (.one (.bptr 0 [] (.pair (.int .i64) (.pair (.int .i64) tyS47)))) :: (.one (.bptr 32 [] tyS41)) :: (.one (.bptr 24768 [] tyS41)) :: ui :: un 23 []), [(0, (.box (.pair (.int .i64) (.pair (.int .i64) tyS47)) (.dat (.pair (.int .i64) (.pair (.int .i64) tyS47))))), (32, (.box tyS41 (.pair (.arr 20000000) (.pair (.arr 20000001) (.pair (.arr 20000002) (.pair (.dat (.int .i64)) (.pair (.arr 20000003) (.pair (.arr 20000004) (.dat .unit))))))))), (20000000, (.arr 42 tyS43)), (20000001, (.arr 156 tyS45)), (20000002, (.arr 159 tyS44)), (20000003, (.arr 3 (.int .i64))), (20000004, (.arr 48 tyS49)), (24768, (.box tyS41 (.pair (.arr 20000005) (.pair (.arr 20000006) (.pair (.arr 20000007) (.pair (.dat (.int .i64)) (.pair (.arr 20000008) (.pair (.arr 20000009) (.dat .unit))))))))), (20000005, (.arr 42 tyS43)), (20000006, (.arr 156 tyS45)), (20000007, (.arr 159 tyS44)), (20000008, (.arr 3 (.int .i64))), (20000009, (.arr 48 tyS49))]⟩
noncomputable def outs5 : List OutC := [⟨(.exit 0), ⟨0, [2, 3], []⟩, ⟨(uu :: uu :: (.one (.bptr 32 [] tyS41)) :: (.one (.bptr 24768 [] tyS41)) :: un 24 []), [(32, (.box tyS41 (.pair (.arr 20000000) (.pair (.arr 20000001) (.pair (.arr 20000002) (.pair (.dat (.int .i64)) (.pair (.arr 20000003) (.pair (.arr 20000004) (.dat .unit))))))))), (20000000, (.arr 42 tyS43)), (20000001, (.arr 156 tyS45)), (20000002, (.arr 159 tyS44)), (20000003, (.arr 3 (.int .i64))), (20000004, (.arr 48 tyS49)), (24768, (.box tyS41 (.pair (.arr 20000005) (.pair (.arr 20000006) (.pair (.arr 20000007) (.pair (.dat (.int .i64)) (.pair (.arr 20000008) (.pair (.arr 20000009) (.dat .unit))))))))), (20000005, (.arr 42 tyS43)), (20000006, (.arr 156 tyS45)), (20000007, (.arr 159 tyS44)), (20000008, (.arr 3 (.int .i64))), (20000009, (.arr 48 tyS49))]⟩⟩]
noncomputable def L5 : LC := ⟨5, ⟨5, [1, 2, 3, 4], []⟩, sh5, outs5, pre5, fn5⟩
noncomputable def H : List LC := [L5]
noncomputable def code (i : Nat) : Code := (loopsOf (bodyOf Tryz.f39)).getD i .skip
theorem lok5 : LoopOk E H (code 0) L5 := ⟨mu5, fun ⟨x1, x2, x3, x4, x5, x6, x7, x8, x9, x10, x11, x12, x13, x14, x15, x16, ()⟩ hp => rounds_ok (show L5.step E H (code 0) (x1, (x2, (x3, (x4, (x5, (x6, (x7, (x8, (x9, (x10, (x11, (x12, (x13, (x14, (x15, (x16, ())))))))))))))))) = raw5 x1 x2 x3 x4 x5 x6 x7 x8 x9 x10 x11 x12 x13 x14 x15 x16 from by kernel_rfl) (ok5 x1 x2 x3 x4 x5 x6 x7 x8 x9 x10 x11 x12 x13 x14 x15 x16 hp)⟩
theorem env : EnvOk Tryz.prog E := env_cons spec_SetupOk.known (env_cons spec_GroupNew.known (env_nil tys))
theorem loops : ∀ c, Tryz.f39.body = some c -> LoopsOk E H c := loops_of (by kernel_rfl) (by kernel_rfl) fun i l h => match i, h with
  | 0, h => Option.some.inj h ▸ lok5
  | n + 1, h => by cases h
theorem sound : Sound Tryz.prog 39 fs := fn_sound env mixed Tryz.func39 H loops fun ⟨x0, ()⟩ hw hp => (show runFn E H Tryz.f39 fs.ps fs.rs (x0, ()) = raw x0 from by kernel_rfl).trans (eq x0 hw hp)
theorem known : Seen Tryz.prog 39 fs := ⟨sound, _, Tryz.func39, by kernel_rfl, by kernel_rfl⟩
end spec_KeepNew
namespace spec_l2Text
noncomputable def fs : FS := ⟨[(.val .str .f)], [(.bool, .o)], fun _ => true, fun x => ((), ((spec_l2Text x.1), ()))⟩
noncomputable def E : Env := ⟨theta, [], []⟩
noncomputable def sh2 : ShSt := ⟨((.one (.dat .str)) :: uu :: uu :: ui :: un 32 []), []⟩
noncomputable def outs2 : List OutC := [⟨.ret, ⟨0, [2], []⟩, ⟨(uu :: uu :: (.one (.dat .bool)) :: un 33 []), []⟩⟩, ⟨(.exit 0), ⟨0, [0], []⟩, ⟨((.one (.dat .str)) :: un 35 []), []⟩⟩]
noncomputable def L2 : LC := ⟨2, ⟨2, [0, 3], []⟩, sh2, outs2, pre2, fn2⟩
noncomputable def H : List LC := [L2]
noncomputable def code (i : Nat) : Code := (loopsOf (bodyOf Tryz.f130)).getD i .skip
theorem lok2 : LoopOk E H (code 0) L2 := ⟨mu2, fun ⟨x1, x2, ()⟩ hp => rounds_ok (show L2.step E H (code 0) (x1, (x2, ())) = raw2 x1 x2 from by kernel_rfl) (ok2 x1 x2 hp)⟩
theorem env : EnvOk Tryz.prog E := env_nil tys
theorem loops : ∀ c, Tryz.f130.body = some c -> LoopsOk E H c := loops_of (by kernel_rfl) (by kernel_rfl) fun i l h => match i, h with
  | 0, h => Option.some.inj h ▸ lok2
  | n + 1, h => by cases h
theorem sound : Sound Tryz.prog 130 fs := fn_sound env mixed Tryz.func130 H loops fun ⟨x0, ()⟩ hw _ => (show runFn E H Tryz.f130 fs.ps fs.rs (x0, ()) = raw x0 from by kernel_rfl).trans (eq x0 hw)
theorem known : Seen Tryz.prog 130 fs := ⟨sound, _, Tryz.func130, by kernel_rfl, by kernel_rfl⟩
end spec_l2Text
namespace spec_CmdOk
noncomputable def fs : FS := ⟨[(.val tyS42 .f)], [(.bool, .o)], fun _ => true, fun x => ((), ((spec_CmdOk x.1), ()))⟩
noncomputable def E : Env := ⟨theta, [(118, spec_l1In.fs), (130, spec_l2Text.fs)], []⟩
noncomputable def H : List LC := []
theorem env : EnvOk Tryz.prog E := env_cons spec_l1In.known (env_cons spec_l2Text.known (env_nil tys))
theorem loops : ∀ c, Tryz.f95.body = some c -> LoopsOk E H c := loops_none (by kernel_rfl)
theorem sound : Sound Tryz.prog 95 fs := fn_sound env mixed Tryz.func95 H loops fun ⟨x0, ()⟩ hw _ => (show runFn E H Tryz.f95 fs.ps fs.rs (x0, ()) = raw x0 from by kernel_rfl).trans (eq x0 hw)
theorem known : Seen Tryz.prog 95 fs := ⟨sound, _, Tryz.func95, by kernel_rfl, by kernel_rfl⟩
end spec_CmdOk
namespace spec_l3Copy
noncomputable def fs : FS := ⟨[(.val tyS43 .f)], [(tyS43, .o)], fun x => spec_l3Copy.pre x.1, fun x => ((), ((spec_l3Copy x.1), ()))⟩
noncomputable def E : Env := ⟨theta, [], []⟩
noncomputable def H : List LC := []
theorem env : EnvOk Tryz.prog E := env_nil tys
theorem loops : ∀ c, Tryz.f298.body = some c -> LoopsOk E H c := loops_none (by kernel_rfl)
theorem sound : Sound Tryz.prog 298 fs := fn_sound env mixed Tryz.func298 H loops fun ⟨x0, ()⟩ hw hp => (show runFn E H Tryz.f298 fs.ps fs.rs (x0, ()) = raw x0 from by kernel_rfl).trans (eq x0 hw hp)
theorem known : Seen Tryz.prog 298 fs := ⟨sound, _, Tryz.func298, by kernel_rfl, by kernel_rfl⟩
end spec_l3Copy
namespace spec_l4Copy
noncomputable def fs : FS := ⟨[(.val tyS45 .f)], [(tyS45, .o)], fun x => spec_l4Copy.pre x.1, fun x => ((), ((spec_l4Copy x.1), ()))⟩
noncomputable def E : Env := ⟨theta, [], []⟩
noncomputable def H : List LC := []
theorem env : EnvOk Tryz.prog E := env_nil tys
theorem loops : ∀ c, Tryz.f299.body = some c -> LoopsOk E H c := loops_none (by kernel_rfl)
theorem sound : Sound Tryz.prog 299 fs := fn_sound env mixed Tryz.func299 H loops fun ⟨x0, ()⟩ hw hp => (show runFn E H Tryz.f299 fs.ps fs.rs (x0, ()) = raw x0 from by kernel_rfl).trans (eq x0 hw hp)
theorem known : Seen Tryz.prog 299 fs := ⟨sound, _, Tryz.func299, by kernel_rfl, by kernel_rfl⟩
end spec_l4Copy
namespace spec_l5Copy
noncomputable def fs : FS := ⟨[(.val tyS44 .f)], [(tyS44, .o)], fun x => spec_l5Copy.pre x.1, fun x => ((), ((spec_l5Copy x.1), ()))⟩
noncomputable def E : Env := ⟨theta, [], []⟩
noncomputable def H : List LC := []
theorem env : EnvOk Tryz.prog E := env_nil tys
theorem loops : ∀ c, Tryz.f300.body = some c -> LoopsOk E H c := loops_none (by kernel_rfl)
theorem sound : Sound Tryz.prog 300 fs := fn_sound env mixed Tryz.func300 H loops fun ⟨x0, ()⟩ hw hp => (show runFn E H Tryz.f300 fs.ps fs.rs (x0, ()) = raw x0 from by kernel_rfl).trans (eq x0 hw hp)
theorem known : Seen Tryz.prog 300 fs := ⟨sound, _, Tryz.func300, by kernel_rfl, by kernel_rfl⟩
end spec_l5Copy
namespace spec_l6Copy
noncomputable def ob1 : List (Nat × ShO) := [(0, (.box tyS41 (.dat tyS41))), (32, (.box tyS41 (.pair (.arr 20000000) (.pair (.arr 20000001) (.pair (.arr 20000002) (.pair (.dat (.int .i64)) (.pair (.arr 20000003) (.pair (.arr 20000004) (.dat .unit))))))))), (20000000, (.arr 42 tyS43)), (20000001, (.arr 156 tyS45)), (20000002, (.arr 159 tyS44)), (20000003, (.arr 3 (.int .i64))), (20000004, (.arr 48 tyS49)), (8544, (.box tyS41 (.pair (.arr 20000005) (.pair (.arr 20000006) (.pair (.arr 20000007) (.pair (.dat (.int .i64)) (.pair (.arr 20000008) (.pair (.arr 20000009) (.dat .unit))))))))), (20000005, (.arr 42 tyS43)), (20000006, (.arr 156 tyS45)), (20000007, (.arr 159 tyS44)), (20000008, (.arr 3 (.int .i64))), (20000009, (.arr 48 tyS49))]
noncomputable def fs : FS := ⟨[(.val tyS41 .f)], [(tyS41, .o)], fun x => spec_l6Copy.pre x.1, fun x => ((), ((spec_l6Copy x.1), ()))⟩
noncomputable def E : Env := ⟨theta, [(298, spec_l3Copy.fs), (299, spec_l4Copy.fs), (300, spec_l5Copy.fs)], []⟩
noncomputable def sh3 : ShSt := ⟨(uu :: (.one (.bptr 0 [] tyS41)) :: (.one (.bptr 32 [] tyS41)) :: (.one (.bptr 8544 [] tyS41)) :: ui :: un 68 []), ob1⟩
noncomputable def outs3 : List OutC := [⟨(.exit 0), ⟨0, [1, 2, 3], []⟩, ⟨(uu :: (.one (.bptr 0 [] tyS41)) :: (.one (.bptr 32 [] tyS41)) :: (.one (.bptr 8544 [] tyS41)) :: un 69 []), ob1⟩⟩]
noncomputable def L3 : LC := ⟨3, ⟨3, [1, 2, 3, 4], []⟩, sh3, outs3, pre3, fn3⟩
noncomputable def sh7 : ShSt := ⟨(uu :: (.one (.bptr 0 [] tyS41)) :: (.one (.bptr 32 [] tyS41)) :: (.one (.bptr 8544 [] tyS41)) :: uu :: ui :: un 67 []), ob1⟩
noncomputable def outs7 : List OutC := [⟨(.exit 2), ⟨0, [1, 2, 3], []⟩, ⟨(uu :: (.one (.bptr 0 [] tyS41)) :: (.one (.bptr 32 [] tyS41)) :: (.one (.bptr 8544 [] tyS41)) :: un 69 []), ob1⟩⟩]
noncomputable def L7 : LC := ⟨7, ⟨7, [1, 2, 3, 5], []⟩, sh7, outs7, pre7, fn7⟩
noncomputable def sh11 : ShSt := ⟨(uu :: (.one (.bptr 0 [] tyS41)) :: (.one (.bptr 32 [] tyS41)) :: (.one (.bptr 8544 [] tyS41)) :: uu :: uu :: ui :: un 66 []), ob1⟩
noncomputable def outs11 : List OutC := [⟨(.exit 4), ⟨0, [2, 3], []⟩, ⟨(uu :: uu :: (.one (.bptr 32 [] tyS41)) :: (.one (.bptr 8544 [] tyS41)) :: un 69 []), [(32, (.box tyS41 (.pair (.arr 20000000) (.pair (.arr 20000001) (.pair (.arr 20000002) (.pair (.dat (.int .i64)) (.pair (.arr 20000003) (.pair (.arr 20000004) (.dat .unit))))))))), (20000000, (.arr 42 tyS43)), (20000001, (.arr 156 tyS45)), (20000002, (.arr 159 tyS44)), (20000003, (.arr 3 (.int .i64))), (20000004, (.arr 48 tyS49)), (8544, (.box tyS41 (.pair (.arr 20000005) (.pair (.arr 20000006) (.pair (.arr 20000007) (.pair (.dat (.int .i64)) (.pair (.arr 20000008) (.pair (.arr 20000009) (.dat .unit))))))))), (20000005, (.arr 42 tyS43)), (20000006, (.arr 156 tyS45)), (20000007, (.arr 159 tyS44)), (20000008, (.arr 3 (.int .i64))), (20000009, (.arr 48 tyS49))]⟩⟩]
noncomputable def L11 : LC := ⟨11, ⟨11, [1, 2, 3, 6], []⟩, sh11, outs11, pre11, fn11⟩
noncomputable def H : List LC := [L3, L7, L11]
noncomputable def code (i : Nat) : Code := (loopsOf (bodyOf Tryz.f213)).getD i .skip
theorem lok3 : LoopOk E H (code 0) L3 := ⟨mu3, fun ⟨x1, x2, x3, x4, x5, x6, x7, x8, x9, x10, x11, x12, x13, x14, x15, x16, ()⟩ hp => rounds_ok (show L3.step E H (code 0) (x1, (x2, (x3, (x4, (x5, (x6, (x7, (x8, (x9, (x10, (x11, (x12, (x13, (x14, (x15, (x16, ())))))))))))))))) = raw3 x1 x2 x3 x4 x5 x6 x7 x8 x9 x10 x11 x12 x13 x14 x15 x16 from by kernel_rfl) (ok3 x1 x2 x3 x4 x5 x6 x7 x8 x9 x10 x11 x12 x13 x14 x15 x16 hp)⟩
theorem lok7 : LoopOk E H (code 1) L7 := ⟨mu7, fun ⟨x1, x2, x3, x4, x5, x6, x7, x8, x9, x10, x11, x12, x13, x14, x15, x16, ()⟩ hp => rounds_ok (show L7.step E H (code 1) (x1, (x2, (x3, (x4, (x5, (x6, (x7, (x8, (x9, (x10, (x11, (x12, (x13, (x14, (x15, (x16, ())))))))))))))))) = raw7 x1 x2 x3 x4 x5 x6 x7 x8 x9 x10 x11 x12 x13 x14 x15 x16 from by kernel_rfl) (ok7 x1 x2 x3 x4 x5 x6 x7 x8 x9 x10 x11 x12 x13 x14 x15 x16 hp)⟩
theorem lok11 : LoopOk E H (code 2) L11 := ⟨mu11, fun ⟨x1, x2, x3, x4, x5, x6, x7, x8, x9, x10, x11, x12, x13, x14, x15, x16, ()⟩ hp => rounds_ok (show L11.step E H (code 2) (x1, (x2, (x3, (x4, (x5, (x6, (x7, (x8, (x9, (x10, (x11, (x12, (x13, (x14, (x15, (x16, ())))))))))))))))) = raw11 x1 x2 x3 x4 x5 x6 x7 x8 x9 x10 x11 x12 x13 x14 x15 x16 from by kernel_rfl) (ok11 x1 x2 x3 x4 x5 x6 x7 x8 x9 x10 x11 x12 x13 x14 x15 x16 hp)⟩
theorem env : EnvOk Tryz.prog E := env_cons spec_l3Copy.known (env_cons spec_l4Copy.known (env_cons spec_l5Copy.known (env_nil tys)))
theorem loops : ∀ c, Tryz.f213.body = some c -> LoopsOk E H c := loops_of (by kernel_rfl) (by kernel_rfl) fun i l h => match i, h with
  | 0, h => Option.some.inj h ▸ lok3
  | 1, h => Option.some.inj h ▸ lok7
  | 2, h => Option.some.inj h ▸ lok11
  | n + 3, h => by cases h
theorem sound : Sound Tryz.prog 213 fs := fn_sound env mixed Tryz.func213 H loops fun ⟨x0, ()⟩ hw hp => (show runFn E H Tryz.f213 fs.ps fs.rs (x0, ()) = raw x0 from by kernel_rfl).trans (eq x0 hw hp)
theorem known : Seen Tryz.prog 213 fs := ⟨sound, _, Tryz.func213, by kernel_rfl, by kernel_rfl⟩
end spec_l6Copy
namespace spec_l1Min
noncomputable def fs : FS := ⟨[(.val (.int .i64) .f), (.val (.int .i64) .f)], [((.int .i64), .o)], fun _ => true, fun x => ((), ((spec_l1Min x.1 x.2.1), ()))⟩
noncomputable def E : Env := ⟨theta, [], []⟩
noncomputable def H : List LC := []
theorem env : EnvOk Tryz.prog E := env_nil tys
theorem loops : ∀ c, Tryz.f280.body = some c -> LoopsOk E H c := loops_none (by kernel_rfl)
theorem sound : Sound Tryz.prog 280 fs := fn_sound env mixed Tryz.func280 H loops fun ⟨x0, x1, ()⟩ hw _ => (show runFn E H Tryz.f280 fs.ps fs.rs (x0, (x1, ())) = raw x0 x1 from by kernel_rfl).trans (eq x0 x1 hw)
theorem known : Seen Tryz.prog 280 fs := ⟨sound, _, Tryz.func280, by kernel_rfl, by kernel_rfl⟩
end spec_l1Min
namespace spec_l5Without
noncomputable def fs : FS := ⟨[(.val tyS44 .f), (.val (.int .i64) .f)], [(tyS44, .o)], fun x => spec_l5Without.pre x.1 x.2.1, fun x => ((), ((spec_l5Without x.1 x.2.1), ()))⟩
noncomputable def E : Env := ⟨theta, [(300, spec_l5Copy.fs)], []⟩
noncomputable def H : List LC := []
theorem env : EnvOk Tryz.prog E := env_cons spec_l5Copy.known (env_nil tys)
theorem loops : ∀ c, Tryz.f336.body = some c -> LoopsOk E H c := loops_none (by kernel_rfl)
theorem sound : Sound Tryz.prog 336 fs := fn_sound env mixed Tryz.func336 H loops fun ⟨x0, x1, ()⟩ hw hp => (show runFn E H Tryz.f336 fs.ps fs.rs (x0, (x1, ())) = raw x0 x1 from by kernel_rfl).trans (eq x0 x1 hw hp)
theorem known : Seen Tryz.prog 336 fs := ⟨sound, _, Tryz.func336, by kernel_rfl, by kernel_rfl⟩
end spec_l5Without
namespace spec_l5Up
noncomputable def fs : FS := ⟨[(.val (.int .i64) .f)], [((.int .i64), .o)], fun x => spec_l5Up.pre x.1, fun x => ((), ((spec_l5Up x.1), ()))⟩
noncomputable def E : Env := ⟨theta, [], []⟩
noncomputable def H : List LC := []
theorem env : EnvOk Tryz.prog E := env_nil tys
theorem loops : ∀ c, Tryz.f337.body = some c -> LoopsOk E H c := loops_none (by kernel_rfl)
theorem sound : Sound Tryz.prog 337 fs := fn_sound env mixed Tryz.func337 H loops fun ⟨x0, ()⟩ hw hp => (show runFn E H Tryz.f337 fs.ps fs.rs (x0, ()) = raw x0 from by kernel_rfl).trans (eq x0 hw hp)
theorem known : Seen Tryz.prog 337 fs := ⟨sound, _, Tryz.func337, by kernel_rfl, by kernel_rfl⟩
end spec_l5Up
namespace spec_GroupTick
noncomputable def ob1 : List (Nat × ShO) := [(0, (.box tyS44 (.dat tyS44))), (32, (.box tyS44 (.pair (.dat (.int .i64)) (.pair (.arr 20000000) (.pair (.arr 20000001) (.pair (.arr 20000002) (.dat .unit))))))), (20000000, (.arr 3 (.int .i64))), (20000001, (.arr 3 (.int .i64))), (20000002, (.arr 3 (.int .i64))), (8256, (.box tyS44 (.pair (.dat (.int .i64)) (.pair (.arr 20000003) (.pair (.arr 20000004) (.pair (.arr 20000005) (.dat .unit))))))), (20000003, (.arr 3 (.int .i64))), (20000004, (.arr 3 (.int .i64))), (20000005, (.arr 3 (.int .i64)))]
noncomputable def fs : FS := ⟨[(.val tyS44 .f), (.val (.int .i64) .f)], [(tyS44, .o)], fun x => spec_GroupTick.pre x.1 x.2.1, fun x => ((), ((spec_GroupTick x.1 x.2.1), ()))⟩
noncomputable def E : Env := ⟨theta, [(300, spec_l5Copy.fs), (336, spec_l5Without.fs), (337, spec_l5Up.fs)], []⟩
noncomputable def sh4 : ShSt := ⟨(uu :: ui :: (.one (.bptr 0 [] tyS44)) :: uu :: (.one (.bptr 32 [] tyS44)) :: (.one (.bptr 8256 [] tyS44)) :: (.one (.dat .bool)) :: ui :: un 53 []), ob1⟩
noncomputable def outs4 : List OutC := [⟨(.exit 0), ⟨0, [2, 4, 5, 6], []⟩, ⟨(uu :: uu :: (.one (.bptr 0 [] tyS44)) :: uu :: (.one (.bptr 32 [] tyS44)) :: (.one (.bptr 8256 [] tyS44)) :: (.one (.dat .bool)) :: un 54 []), ob1⟩⟩]
noncomputable def L4 : LC := ⟨4, ⟨4, [1, 2, 4, 5, 6, 7], []⟩, sh4, outs4, pre4, fn4⟩
noncomputable def H : List LC := [L4]
noncomputable def code (i : Nat) : Code := (loopsOf (bodyOf Tryz.f301)).getD i .skip
theorem lok4 : LoopOk E H (code 0) L4 := ⟨mu4, fun ⟨x1, x2, x3, x4, x5, x6, x7, x8, x9, x10, x11, x12, x13, x14, ()⟩ hp => rounds_ok (show L4.step E H (code 0) (x1, (x2, (x3, (x4, (x5, (x6, (x7, (x8, (x9, (x10, (x11, (x12, (x13, (x14, ())))))))))))))) = raw4 x1 x2 x3 x4 x5 x6 x7 x8 x9 x10 x11 x12 x13 x14 from by kernel_rfl) (ok4 x1 x2 x3 x4 x5 x6 x7 x8 x9 x10 x11 x12 x13 x14 hp)⟩
theorem env : EnvOk Tryz.prog E := env_cons spec_l5Copy.known (env_cons spec_l5Without.known (env_cons spec_l5Up.known (env_nil tys)))
theorem loops : ∀ c, Tryz.f301.body = some c -> LoopsOk E H c := loops_of (by kernel_rfl) (by kernel_rfl) fun i l h => match i, h with
  | 0, h => Option.some.inj h ▸ lok4
  | n + 1, h => by cases h
theorem sound : Sound Tryz.prog 301 fs := fn_sound env mixed Tryz.func301 H loops fun ⟨x0, x1, ()⟩ hw hp => (show runFn E H Tryz.f301 fs.ps fs.rs (x0, (x1, ())) = raw x0 x1 from by kernel_rfl).trans (eq x0 x1 hw hp)
theorem known : Seen Tryz.prog 301 fs := ⟨sound, _, Tryz.func301, by kernel_rfl, by kernel_rfl⟩
end spec_GroupTick
namespace spec_l5At
noncomputable def fs : FS := ⟨[(.val tyS44 .f), (.val (.int .i64) .f)], [((.int .i64), .o)], fun x => spec_l5At.pre x.1 x.2.1, fun x => ((), ((spec_l5At x.1 x.2.1), ()))⟩
noncomputable def E : Env := ⟨theta, [], []⟩
noncomputable def sh2 : ShSt := ⟨(uu :: ui :: (.one (.bptr 0 [] tyS44)) :: uu :: uu :: ui :: un 15 []), [(0, (.box tyS44 (.dat tyS44)))]⟩
noncomputable def outs2 : List OutC := [⟨.ret, ⟨0, [4], []⟩, ⟨(un 4 (ui :: un 16 [])), []⟩⟩, ⟨(.exit 0), ⟨0, [], []⟩, ⟨(un 21 []), []⟩⟩]
noncomputable def L2 : LC := ⟨2, ⟨2, [1, 2, 5], []⟩, sh2, outs2, pre2, fn2⟩
noncomputable def H : List LC := [L2]
noncomputable def code (i : Nat) : Code := (loopsOf (bodyOf Tryz.f370)).getD i .skip
theorem lok2 : LoopOk E H (code 0) L2 := ⟨mu2, fun ⟨x1, x2, x3, ()⟩ hp => rounds_ok (show L2.step E H (code 0) (x1, (x2, (x3, ()))) = raw2 x1 x2 x3 from by kernel_rfl) (ok2 x1 x2 x3 hp)⟩
theorem env : EnvOk Tryz.prog E := env_nil tys
theorem loops : ∀ c, Tryz.f370.body = some c -> LoopsOk E H c := loops_of (by kernel_rfl) (by kernel_rfl) fun i l h => match i, h with
  | 0, h => Option.some.inj h ▸ lok2
  | n + 1, h => by cases h
theorem sound : Sound Tryz.prog 370 fs := fn_sound env mixed Tryz.func370 H loops fun ⟨x0, x1, ()⟩ hw hp => (show runFn E H Tryz.f370 fs.ps fs.rs (x0, (x1, ())) = raw x0 x1 from by kernel_rfl).trans (eq x0 x1 hw hp)
theorem known : Seen Tryz.prog 370 fs := ⟨sound, _, Tryz.func370, by kernel_rfl, by kernel_rfl⟩
end spec_l5At
namespace spec_GroupJoin
noncomputable def ob1 : List (Nat × ShO) := [(0, (.box tyS44 (.dat tyS44))), (32, (.box tyS44 (.pair (.dat (.int .i64)) (.pair (.arr 20000000) (.pair (.arr 20000001) (.pair (.arr 20000002) (.dat .unit))))))), (20000000, (.arr 3 (.int .i64))), (20000001, (.arr 3 (.int .i64))), (20000002, (.arr 3 (.int .i64))), (8256, (.box tyS44 (.pair (.dat (.int .i64)) (.pair (.arr 20000003) (.pair (.arr 20000004) (.pair (.arr 20000005) (.dat .unit))))))), (20000003, (.arr 3 (.int .i64))), (20000004, (.arr 3 (.int .i64))), (20000005, (.arr 3 (.int .i64)))]
noncomputable def fs : FS := ⟨[(.val tyS44 .f), (.val (.int .i64) .f), (.val (.int .i64) .f)], [(tyS44, .o)], fun x => spec_GroupJoin.pre x.1 x.2.1 x.2.2.1, fun x => ((), ((spec_GroupJoin x.1 x.2.1 x.2.2.1), ()))⟩
noncomputable def E : Env := ⟨theta, [(118, spec_l1In.fs), (300, spec_l5Copy.fs), (337, spec_l5Up.fs), (370, spec_l5At.fs)], []⟩
noncomputable def sh10 : ShSt := ⟨(uu :: ui :: ui :: (.one (.bptr 0 [] tyS44)) :: uu :: uu :: (.one (.bptr 32 [] tyS44)) :: (.one (.bptr 8256 [] tyS44)) :: ui :: un 86 []), ob1⟩
noncomputable def outs10 : List OutC := [⟨(.exit 0), ⟨0, [1, 2, 3, 6, 7, 8], []⟩, ⟨(uu :: ui :: ui :: (.one (.bptr 0 [] tyS44)) :: uu :: uu :: (.one (.bptr 32 [] tyS44)) :: (.one (.bptr 8256 [] tyS44)) :: ui :: un 86 []), ob1⟩⟩]
noncomputable def L10 : LC := ⟨10, ⟨10, [1, 2, 3, 6, 7, 8], []⟩, sh10, outs10, pre10, fn10⟩
noncomputable def H : List LC := [L10]
noncomputable def code (i : Nat) : Code := (loopsOf (bodyOf Tryz.f338)).getD i .skip
theorem lok10 : LoopOk E H (code 0) L10 := ⟨mu10, fun ⟨x1, x2, x3, x4, x5, x6, x7, x8, x9, x10, x11, x12, x13, x14, ()⟩ hp => rounds_ok (show L10.step E H (code 0) (x1, (x2, (x3, (x4, (x5, (x6, (x7, (x8, (x9, (x10, (x11, (x12, (x13, (x14, ())))))))))))))) = raw10 x1 x2 x3 x4 x5 x6 x7 x8 x9 x10 x11 x12 x13 x14 from by kernel_rfl) (ok10 x1 x2 x3 x4 x5 x6 x7 x8 x9 x10 x11 x12 x13 x14 hp)⟩
theorem env : EnvOk Tryz.prog E := env_cons spec_l1In.known (env_cons spec_l5Copy.known (env_cons spec_l5Up.known (env_cons spec_l5At.known (env_nil tys))))
theorem loops : ∀ c, Tryz.f338.body = some c -> LoopsOk E H c := loops_of (by kernel_rfl) (by kernel_rfl) fun i l h => match i, h with
  | 0, h => Option.some.inj h ▸ lok10
  | n + 1, h => by cases h
theorem sound : Sound Tryz.prog 338 fs := fn_sound env mixed Tryz.func338 H loops fun ⟨x0, x1, x2, ()⟩ hw hp => (show runFn E H Tryz.f338 fs.ps fs.rs (x0, (x1, (x2, ()))) = raw x0 x1 x2 from by kernel_rfl).trans (eq x0 x1 x2 hw hp)
theorem known : Seen Tryz.prog 338 fs := ⟨sound, _, Tryz.func338, by kernel_rfl, by kernel_rfl⟩
end spec_GroupJoin
namespace spec_GroupLeave
noncomputable def fs : FS := ⟨[(.val tyS44 .f), (.val (.int .i64) .f)], [(tyS44, .o)], fun x => spec_GroupLeave.pre x.1 x.2.1, fun x => ((), ((spec_GroupLeave x.1 x.2.1), ()))⟩
noncomputable def E : Env := ⟨theta, [(118, spec_l1In.fs), (300, spec_l5Copy.fs), (336, spec_l5Without.fs), (337, spec_l5Up.fs), (370, spec_l5At.fs)], []⟩
noncomputable def H : List LC := []
theorem env : EnvOk Tryz.prog E := env_cons spec_l1In.known (env_cons spec_l5Copy.known (env_cons spec_l5Without.known (env_cons spec_l5Up.known (env_cons spec_l5At.known (env_nil tys)))))
theorem loops : ∀ c, Tryz.f339.body = some c -> LoopsOk E H c := loops_none (by kernel_rfl)
theorem sound : Sound Tryz.prog 339 fs := fn_sound env mixed Tryz.func339 H loops fun ⟨x0, x1, ()⟩ hw hp => (show runFn E H Tryz.f339 fs.ps fs.rs (x0, (x1, ())) = raw x0 x1 from by kernel_rfl).trans (eq x0 x1 hw hp)
theorem known : Seen Tryz.prog 339 fs := ⟨sound, _, Tryz.func339, by kernel_rfl, by kernel_rfl⟩
end spec_GroupLeave
namespace spec_OwnerOf
noncomputable def fs : FS := ⟨[(.val tyS44 .f), (.val (.int .i64) .f)], [((.int .i64), .o)], fun x => spec_OwnerOf.pre x.1 x.2.1, fun x => ((), ((spec_OwnerOf x.1 x.2.1), ()))⟩
noncomputable def E : Env := ⟨theta, [], []⟩
noncomputable def H : List LC := []
theorem env : EnvOk Tryz.prog E := env_nil tys
theorem loops : ∀ c, Tryz.f371.body = some c -> LoopsOk E H c := loops_none (by kernel_rfl)
theorem sound : Sound Tryz.prog 371 fs := fn_sound env mixed Tryz.func371 H loops fun ⟨x0, x1, ()⟩ hw hp => (show runFn E H Tryz.f371 fs.ps fs.rs (x0, (x1, ())) = raw x0 x1 from by kernel_rfl).trans (eq x0 x1 hw hp)
theorem known : Seen Tryz.prog 371 fs := ⟨sound, _, Tryz.func371, by kernel_rfl, by kernel_rfl⟩
end spec_OwnerOf
namespace spec_GroupMark
noncomputable def fs : FS := ⟨[(.val tyS44 .f), (.val (.int .i64) .f), (.val (.int .i64) .f), (.val (.int .i64) .f), (.val (.int .i64) .f)], [(tyS44, .o), (.bool, .o)], fun x => spec_GroupMark.pre x.1 x.2.1 x.2.2.1 x.2.2.2.1 x.2.2.2.2.1, fun x => ((), ((spec_GroupMark x.1 x.2.1 x.2.2.1 x.2.2.2.1 x.2.2.2.2.1).1, ((spec_GroupMark x.1 x.2.1 x.2.2.1 x.2.2.2.1 x.2.2.2.2.1).2, ())))⟩
noncomputable def E : Env := ⟨theta, [(118, spec_l1In.fs), (300, spec_l5Copy.fs), (371, spec_OwnerOf.fs)], []⟩
noncomputable def H : List LC := []
theorem env : EnvOk Tryz.prog E := env_cons spec_l1In.known (env_cons spec_l5Copy.known (env_cons spec_OwnerOf.known (env_nil tys)))
theorem loops : ∀ c, Tryz.f340.body = some c -> LoopsOk E H c := loops_none (by kernel_rfl)
theorem sound : Sound Tryz.prog 340 fs := fn_sound env mixed Tryz.func340 H loops fun ⟨x0, x1, x2, x3, x4, ()⟩ hw hp => (show runFn E H Tryz.f340 fs.ps fs.rs (x0, (x1, (x2, (x3, (x4, ()))))) = raw x0 x1 x2 x3 x4 from by kernel_rfl).trans (eq x0 x1 x2 x3 x4 hw hp)
theorem known : Seen Tryz.prog 340 fs := ⟨sound, _, Tryz.func340, by kernel_rfl, by kernel_rfl⟩
end spec_GroupMark
namespace spec_l6Group
noncomputable def fs : FS := ⟨[(.val (.pair (.int .i64) (.pair (.int .i64) tyS47)) .f), (.val tyS41 .o), (.val tyS42 .f)], [(tyS41, .o), (tyS49, .o)], fun x => spec_l6Group.pre x.1 x.2.1 x.2.2.1, fun x => ((), ((spec_l6Group x.1 x.2.1 x.2.2.1).1, ((spec_l6Group x.1 x.2.1 x.2.2.1).2, ())))⟩
noncomputable def E : Env := ⟨theta, [(338, spec_GroupJoin.fs), (339, spec_GroupLeave.fs), (340, spec_GroupMark.fs)], []⟩
noncomputable def H : List LC := []
theorem env : EnvOk Tryz.prog E := env_cons spec_GroupJoin.known (env_cons spec_GroupLeave.known (env_cons spec_GroupMark.known (env_nil tys)))
theorem loops : ∀ c, Tryz.f302.body = some c -> LoopsOk E H c := loops_none (by kernel_rfl)
theorem sound : Sound Tryz.prog 302 fs := fn_sound env mixed Tryz.func302 H loops fun ⟨x0, x1, x2, ()⟩ hw hp => (show runFn E H Tryz.f302 fs.ps fs.rs (x0, (x1, (x2, ()))) = raw x0 x1 x2 from by kernel_rfl).trans (eq x0 x1 x2 hw hp)
theorem known : Seen Tryz.prog 302 fs := ⟨sound, _, Tryz.func302, by kernel_rfl, by kernel_rfl⟩
end spec_l6Group
namespace spec_MakerOf
noncomputable def ob1 : List (Nat × ShO) := [(0, (.box tyS45 (.pair (.dat (.int .i64)) (.pair (.dat (.int .i64)) (.pair (.dat (.int .i64)) (.pair (.dat (.int .i64)) (.pair (.arr 20000000) (.dat .unit)))))))), (20000000, (.arr 254 tyS47))]
noncomputable def fs : FS := ⟨[(.val (.sl 156 tyS45) .f), (.val (.int .i64) .f), (.val (.int .i64) .f)], [(tyS45, .o)], fun x => spec_MakerOf.pre x.1 x.2.1 x.2.2.1, fun x => ((), ((spec_MakerOf x.1 x.2.1 x.2.2.1), ()))⟩
noncomputable def E : Env := ⟨theta, [(299, spec_l4Copy.fs)], []⟩
noncomputable def sh2 : ShSt := ⟨((.one (.dat (.sl 156 tyS45))) :: ui :: ui :: uu :: uu :: uu :: (.one (.bptr 0 [] tyS45)) :: ui :: un 30 []), ob1⟩
noncomputable def outs2 : List OutC := [⟨.ret, ⟨0, [6], []⟩, ⟨(un 6 ((.one (.bptr 0 [] tyS45)) :: un 31 [])), ob1⟩⟩, ⟨(.exit 0), ⟨0, [1, 2, 6], []⟩, ⟨(uu :: ui :: ui :: uu :: uu :: uu :: (.one (.bptr 0 [] tyS45)) :: un 31 []), ob1⟩⟩]
noncomputable def L2 : LC := ⟨2, ⟨2, [0, 1, 2, 6, 7], []⟩, sh2, outs2, pre2, fn2⟩
noncomputable def H : List LC := [L2]
noncomputable def code (i : Nat) : Code := (loopsOf (bodyOf Tryz.f372)).getD i .skip
theorem lok2 : LoopOk E H (code 0) L2 := ⟨mu2, fun ⟨x1, x2, x3, x4, x5, x6, x7, x8, x9, x10, ()⟩ hp => rounds_ok (show L2.step E H (code 0) (x1, (x2, (x3, (x4, (x5, (x6, (x7, (x8, (x9, (x10, ())))))))))) = raw2 x1 x2 x3 x4 x5 x6 x7 x8 x9 x10 from by kernel_rfl) (ok2 x1 x2 x3 x4 x5 x6 x7 x8 x9 x10 hp)⟩
theorem env : EnvOk Tryz.prog E := env_cons spec_l4Copy.known (env_nil tys)
theorem loops : ∀ c, Tryz.f372.body = some c -> LoopsOk E H c := loops_of (by kernel_rfl) (by kernel_rfl) fun i l h => match i, h with
  | 0, h => Option.some.inj h ▸ lok2
  | n + 1, h => by cases h
theorem sound : Sound Tryz.prog 372 fs := fn_sound env mixed Tryz.func372 H loops fun ⟨x0, x1, x2, ()⟩ hw hp => (show runFn E H Tryz.f372 fs.ps fs.rs (x0, (x1, (x2, ()))) = raw x0 x1 x2 from by kernel_rfl).trans (eq x0 x1 x2 hw hp)
theorem known : Seen Tryz.prog 372 fs := ⟨sound, _, Tryz.func372, by kernel_rfl, by kernel_rfl⟩
end spec_MakerOf
namespace spec_MakerAsk
noncomputable def fs : FS := ⟨[(.val tyS45 .f), (.val (.int .i64) .f), (.val (.int .i64) .f)], [((.int .i64), .o), ((.int .i64), .o)], fun x => spec_MakerAsk.pre x.1 x.2.1 x.2.2.1, fun x => ((), ((spec_MakerAsk x.1 x.2.1 x.2.2.1).1, ((spec_MakerAsk x.1 x.2.1 x.2.2.1).2, ())))⟩
noncomputable def E : Env := ⟨theta, [], []⟩
noncomputable def sh12 : ShSt := ⟨(uu :: uu :: ui :: (.one (.bptr 0 [] tyS45)) :: un 4 (ui :: un 40 [])), [(0, (.box tyS45 (.dat tyS45)))]⟩
noncomputable def outs12 : List OutC := [⟨.ret, ⟨0, [6, 7], []⟩, ⟨(un 6 (ui :: ui :: un 41 [])), []⟩⟩, ⟨(.exit 0), ⟨0, [], []⟩, ⟨(un 49 []), []⟩⟩]
noncomputable def L12 : LC := ⟨12, ⟨12, [2, 3, 8], []⟩, sh12, outs12, pre12, fn12⟩
noncomputable def H : List LC := [L12]
noncomputable def code (i : Nat) : Code := (loopsOf (bodyOf Tryz.f373)).getD i .skip
theorem lok12 : LoopOk E H (code 0) L12 := ⟨mu12, fun ⟨x1, x2, x3, ()⟩ hp => rounds_ok (show L12.step E H (code 0) (x1, (x2, (x3, ()))) = raw12 x1 x2 x3 from by kernel_rfl) (ok12 x1 x2 x3 hp)⟩
theorem env : EnvOk Tryz.prog E := env_nil tys
theorem loops : ∀ c, Tryz.f373.body = some c -> LoopsOk E H c := loops_of (by kernel_rfl) (by kernel_rfl) fun i l h => match i, h with
  | 0, h => Option.some.inj h ▸ lok12
  | n + 1, h => by cases h
theorem sound : Sound Tryz.prog 373 fs := fn_sound env mixed Tryz.func373 H loops fun ⟨x0, x1, x2, ()⟩ hw hp => (show runFn E H Tryz.f373 fs.ps fs.rs (x0, (x1, (x2, ()))) = raw x0 x1 x2 from by kernel_rfl).trans (eq x0 x1 x2 hw hp)
theorem known : Seen Tryz.prog 373 fs := ⟨sound, _, Tryz.func373, by kernel_rfl, by kernel_rfl⟩
end spec_MakerAsk
namespace spec_l3Item
noncomputable def fs : FS := ⟨[(.val tyS411 .f)], [(.bool, .o)], fun x => spec_l3Item.pre x.1, fun x => ((), ((spec_l3Item x.1), ()))⟩
noncomputable def E : Env := ⟨theta, [(118, spec_l1In.fs), (130, spec_l2Text.fs)], []⟩
noncomputable def H : List LC := []
theorem env : EnvOk Tryz.prog E := env_cons spec_l1In.known (env_cons spec_l2Text.known (env_nil tys))
theorem loops : ∀ c, Tryz.f329.body = some c -> LoopsOk E H c := loops_none (by kernel_rfl)
theorem sound : Sound Tryz.prog 329 fs := fn_sound env mixed Tryz.func329 H loops fun ⟨x0, ()⟩ hw hp => (show runFn E H Tryz.f329 fs.ps fs.rs (x0, ()) = raw x0 from by kernel_rfl).trans (eq x0 hw hp)
theorem known : Seen Tryz.prog 329 fs := ⟨sound, _, Tryz.func329, by kernel_rfl, by kernel_rfl⟩
end spec_l3Item
namespace spec_RowOk
noncomputable def ob1 : List (Nat × ShO) := [(0, (.box tyS43 (.dat tyS43)))]
noncomputable def fs : FS := ⟨[(.val tyS43 .f)], [(.bool, .o)], fun x => spec_RowOk.pre x.1, fun x => ((), ((spec_RowOk x.1), ()))⟩
noncomputable def E : Env := ⟨theta, [(118, spec_l1In.fs), (329, spec_l3Item.fs)], []⟩
noncomputable def sh2 : ShSt := ⟨(uu :: (.one (.bptr 0 [] tyS43)) :: uu :: ui :: un 65 []), ob1⟩
noncomputable def outs2 : List OutC := [⟨.ret, ⟨0, [2], []⟩, ⟨(uu :: uu :: (.one (.dat .bool)) :: un 66 []), []⟩⟩, ⟨(.exit 0), ⟨0, [1], []⟩, ⟨(uu :: (.one (.bptr 0 [] tyS43)) :: un 67 []), ob1⟩⟩]
noncomputable def L2 : LC := ⟨2, ⟨2, [1, 3], []⟩, sh2, outs2, pre2, fn2⟩
noncomputable def H : List LC := [L2]
noncomputable def code (i : Nat) : Code := (loopsOf (bodyOf Tryz.f282)).getD i .skip
theorem lok2 : LoopOk E H (code 0) L2 := ⟨mu2, fun ⟨x1, x2, ()⟩ hp => rounds_ok (show L2.step E H (code 0) (x1, (x2, ())) = raw2 x1 x2 from by kernel_rfl) (ok2 x1 x2 hp)⟩
theorem env : EnvOk Tryz.prog E := env_cons spec_l1In.known (env_cons spec_l3Item.known (env_nil tys))
theorem loops : ∀ c, Tryz.f282.body = some c -> LoopsOk E H c := loops_of (by kernel_rfl) (by kernel_rfl) fun i l h => match i, h with
  | 0, h => Option.some.inj h ▸ lok2
  | n + 1, h => by cases h
theorem sound : Sound Tryz.prog 282 fs := fn_sound env mixed Tryz.func282 H loops fun ⟨x0, ()⟩ hw hp => (show runFn E H Tryz.f282 fs.ps fs.rs (x0, ()) = raw x0 from by kernel_rfl).trans (eq x0 hw hp)
theorem known : Seen Tryz.prog 282 fs := ⟨sound, _, Tryz.func282, by kernel_rfl, by kernel_rfl⟩
end spec_RowOk
namespace spec_RowPut
noncomputable def fs : FS := ⟨[(.val tyS43 .f), (.val .str .f), (.val .str .f), (.val (.int .i64) .f), (.val (.int .i64) .f)], [(tyS43, .o), ((.int .i64), .o), (.bool, .o)], fun x => spec_RowPut.pre x.1 x.2.1 x.2.2.1 x.2.2.2.1 x.2.2.2.2.1, fun x => ((), ((spec_RowPut x.1 x.2.1 x.2.2.1 x.2.2.2.1 x.2.2.2.2.1).1, ((spec_RowPut x.1 x.2.1 x.2.2.1 x.2.2.2.1 x.2.2.2.2.1).2.1, ((spec_RowPut x.1 x.2.1 x.2.2.1 x.2.2.2.1 x.2.2.2.2.1).2.2, ()))))⟩
noncomputable def E : Env := ⟨theta, [(298, spec_l3Copy.fs), (282, spec_RowOk.fs)], []⟩
noncomputable def H : List LC := []
theorem env : EnvOk Tryz.prog E := env_cons spec_l3Copy.known (env_cons spec_RowOk.known (env_nil tys))
theorem loops : ∀ c, Tryz.f364.body = some c -> LoopsOk E H c := loops_none (by kernel_rfl)
theorem sound : Sound Tryz.prog 364 fs := fn_sound env mixed Tryz.func364 H loops fun ⟨x0, x1, x2, x3, x4, ()⟩ hw hp => (show runFn E H Tryz.f364 fs.ps fs.rs (x0, (x1, (x2, (x3, (x4, ()))))) = raw x0 x1 x2 x3 x4 from by kernel_rfl).trans (eq x0 x1 x2 x3 x4 hw hp)
theorem known : Seen Tryz.prog 364 fs := ⟨sound, _, Tryz.func364, by kernel_rfl, by kernel_rfl⟩
end spec_RowPut
namespace spec_l1Max
noncomputable def fs : FS := ⟨[(.val (.int .i64) .f), (.val (.int .i64) .f)], [((.int .i64), .o)], fun _ => true, fun x => ((), ((spec_l1Max x.1 x.2.1), ()))⟩
noncomputable def E : Env := ⟨theta, [], []⟩
noncomputable def H : List LC := []
theorem env : EnvOk Tryz.prog E := env_nil tys
theorem loops : ∀ c, Tryz.f392.body = some c -> LoopsOk E H c := loops_none (by kernel_rfl)
theorem sound : Sound Tryz.prog 392 fs := fn_sound env mixed Tryz.func392 H loops fun ⟨x0, x1, ()⟩ hw _ => (show runFn E H Tryz.f392 fs.ps fs.rs (x0, (x1, ())) = raw x0 x1 from by kernel_rfl).trans (eq x0 x1 hw)
theorem known : Seen Tryz.prog 392 fs := ⟨sound, _, Tryz.func392, by kernel_rfl, by kernel_rfl⟩
end spec_l1Max
namespace spec_MakerPut
noncomputable def fs : FS := ⟨[(.val tyS45 .f), (.val (.int .i64) .f), (.val (.int .i64) .f), (.val (.int .i64) .f), (.val (.int .i64) .f)], [(tyS45, .o)], fun x => spec_MakerPut.pre x.1 x.2.1 x.2.2.1 x.2.2.2.1 x.2.2.2.2.1, fun x => ((), ((spec_MakerPut x.1 x.2.1 x.2.2.1 x.2.2.2.1 x.2.2.2.2.1), ()))⟩
noncomputable def E : Env := ⟨theta, [(299, spec_l4Copy.fs), (373, spec_MakerAsk.fs), (392, spec_l1Max.fs)], []⟩
noncomputable def H : List LC := []
theorem env : EnvOk Tryz.prog E := env_cons spec_l4Copy.known (env_cons spec_MakerAsk.known (env_cons spec_l1Max.known (env_nil tys)))
theorem loops : ∀ c, Tryz.f375.body = some c -> LoopsOk E H c := loops_none (by kernel_rfl)
theorem sound : Sound Tryz.prog 375 fs := fn_sound env mixed Tryz.func375 H loops fun ⟨x0, x1, x2, x3, x4, ()⟩ hw hp => (show runFn E H Tryz.f375 fs.ps fs.rs (x0, (x1, (x2, (x3, (x4, ()))))) = raw x0 x1 x2 x3 x4 from by kernel_rfl).trans (eq x0 x1 x2 x3 x4 hw hp)
theorem known : Seen Tryz.prog 375 fs := ⟨sound, _, Tryz.func375, by kernel_rfl, by kernel_rfl⟩
end spec_MakerPut
namespace spec_MakerSet
noncomputable def ob1 : List (Nat × ShO) := [(0, (.box tyS45 (.dat tyS45))), (20000000, (.arr 156 tyS45))]
noncomputable def fs : FS := ⟨[(.val (.sl 156 tyS45) .f), (.val tyS45 .f)], [((.sl 156 tyS45), .o)], fun x => spec_MakerSet.pre x.1 x.2.1, fun x => ((), ((spec_MakerSet x.1 x.2.1), ()))⟩
noncomputable def E : Env := ⟨theta, [(299, spec_l4Copy.fs)], []⟩
noncomputable def sh4 : ShSt := ⟨((.one (.dat (.sl 156 tyS45))) :: uu :: uu :: (.one (.bptr 0 [] tyS45)) :: uu :: (.one (.arr 20000000)) :: (.one (.dat .bool)) :: ui :: un 72 []), ob1⟩
noncomputable def outs4 : List OutC := [⟨(.exit 0), ⟨0, [3, 5, 6], [(5, (156, tyS45))]⟩, ⟨(uu :: uu :: uu :: (.one (.bptr 0 [] tyS45)) :: uu :: (.one (.arr 20000000)) :: (.one (.dat .bool)) :: un 73 []), ob1⟩⟩]
noncomputable def L4 : LC := ⟨4, ⟨4, [0, 3, 5, 6, 7], [(5, (156, tyS45))]⟩, sh4, outs4, pre4, fn4⟩
noncomputable def H : List LC := [L4]
noncomputable def code (i : Nat) : Code := (loopsOf (bodyOf Tryz.f374)).getD i .skip
theorem lok4 : LoopOk E H (code 0) L4 := ⟨mu4, fun ⟨x1, x2, x3, x4, x5, ()⟩ hp => rounds_ok (show L4.step E H (code 0) (x1, (x2, (x3, (x4, (x5, ()))))) = raw4 x1 x2 x3 x4 x5 from by kernel_rfl) (ok4 x1 x2 x3 x4 x5 hp)⟩
theorem env : EnvOk Tryz.prog E := env_cons spec_l4Copy.known (env_nil tys)
theorem loops : ∀ c, Tryz.f374.body = some c -> LoopsOk E H c := loops_of (by kernel_rfl) (by kernel_rfl) fun i l h => match i, h with
  | 0, h => Option.some.inj h ▸ lok4
  | n + 1, h => by cases h
theorem sound : Sound Tryz.prog 374 fs := fn_sound env mixed Tryz.func374 H loops fun ⟨x0, x1, ()⟩ hw hp => (show runFn E H Tryz.f374 fs.ps fs.rs (x0, (x1, ())) = raw x0 x1 from by kernel_rfl).trans (eq x0 x1 hw hp)
theorem known : Seen Tryz.prog 374 fs := ⟨sound, _, Tryz.func374, by kernel_rfl, by kernel_rfl⟩
end spec_MakerSet
namespace spec_l6Put
noncomputable def fs : FS := ⟨[(.val (.pair (.int .i64) (.pair (.int .i64) tyS47)) .f), (.val tyS41 .o), (.val tyS42 .f)], [(tyS41, .o), (tyS49, .o)], fun x => spec_l6Put.pre x.1 x.2.1 x.2.2.1, fun x => ((), ((spec_l6Put x.1 x.2.1 x.2.2.1).1, ((spec_l6Put x.1 x.2.1 x.2.2.1).2, ())))⟩
noncomputable def E : Env := ⟨theta, [(372, spec_MakerOf.fs), (373, spec_MakerAsk.fs), (364, spec_RowPut.fs), (375, spec_MakerPut.fs), (374, spec_MakerSet.fs)], []⟩
noncomputable def H : List LC := []
theorem env : EnvOk Tryz.prog E := env_cons spec_MakerOf.known (env_cons spec_MakerAsk.known (env_cons spec_RowPut.known (env_cons spec_MakerPut.known (env_cons spec_MakerSet.known (env_nil tys)))))
theorem loops : ∀ c, Tryz.f341.body = some c -> LoopsOk E H c := loops_none (by kernel_rfl)
theorem sound : Sound Tryz.prog 341 fs := fn_sound env mixed Tryz.func341 H loops fun ⟨x0, x1, x2, ()⟩ hw hp => (show runFn E H Tryz.f341 fs.ps fs.rs (x0, (x1, (x2, ()))) = raw x0 x1 x2 from by kernel_rfl).trans (eq x0 x1 x2 hw hp)
theorem known : Seen Tryz.prog 341 fs := ⟨sound, _, Tryz.func341, by kernel_rfl, by kernel_rfl⟩
end spec_l6Put
namespace spec_l6Epoch
noncomputable def fs : FS := ⟨[(.val tyS41 .o), (.val tyS42 .f)], [(tyS41, .o), (tyS49, .o)], fun x => spec_l6Epoch.pre x.1 x.2.1, fun x => ((), ((spec_l6Epoch x.1 x.2.1).1, ((spec_l6Epoch x.1 x.2.1).2, ())))⟩
noncomputable def E : Env := ⟨theta, [(372, spec_MakerOf.fs), (374, spec_MakerSet.fs)], []⟩
noncomputable def H : List LC := []
theorem env : EnvOk Tryz.prog E := env_cons spec_MakerOf.known (env_cons spec_MakerSet.known (env_nil tys))
theorem loops : ∀ c, Tryz.f342.body = some c -> LoopsOk E H c := loops_none (by kernel_rfl)
theorem sound : Sound Tryz.prog 342 fs := fn_sound env mixed Tryz.func342 H loops fun ⟨x0, x1, ()⟩ hw hp => (show runFn E H Tryz.f342 fs.ps fs.rs (x0, (x1, ())) = raw x0 x1 from by kernel_rfl).trans (eq x0 x1 hw hp)
theorem known : Seen Tryz.prog 342 fs := ⟨sound, _, Tryz.func342, by kernel_rfl, by kernel_rfl⟩
end spec_l6Epoch
namespace spec_RowGet
noncomputable def ob1 : List (Nat × ShO) := [(32, (.box tyS411 (.dat tyS411)))]
noncomputable def fs : FS := ⟨[(.val tyS43 .f), (.val (.int .i64) .f)], [(tyS411, .o), ((.int .i64), .o)], fun x => spec_RowGet.pre x.1 x.2.1, fun x => ((), ((spec_RowGet x.1 x.2.1).1, ((spec_RowGet x.1 x.2.1).2, ())))⟩
noncomputable def E : Env := ⟨theta, [], []⟩
noncomputable def sh4 : ShSt := ⟨(uu :: ui :: (.one (.bptr 0 [] tyS43)) :: uu :: (.one (.bptr 32 [] tyS411)) :: uu :: ui :: un 26 []), [(0, (.box tyS43 (.dat tyS43))), (32, (.box tyS411 (.dat tyS411)))]⟩
noncomputable def outs4 : List OutC := [⟨.ret, ⟨0, [4, 5], []⟩, ⟨(un 4 ((.one (.bptr 32 [] tyS411)) :: ui :: un 27 [])), ob1⟩⟩, ⟨(.exit 0), ⟨0, [4], []⟩, ⟨(un 4 ((.one (.bptr 32 [] tyS411)) :: un 28 [])), ob1⟩⟩]
noncomputable def L4 : LC := ⟨4, ⟨4, [1, 2, 4, 6], []⟩, sh4, outs4, pre4, fn4⟩
noncomputable def H : List LC := [L4]
noncomputable def code (i : Nat) : Code := (loopsOf (bodyOf Tryz.f343)).getD i .skip
theorem lok4 : LoopOk E H (code 0) L4 := ⟨mu4, fun ⟨x1, x2, x3, x4, ()⟩ hp => rounds_ok (show L4.step E H (code 0) (x1, (x2, (x3, (x4, ())))) = raw4 x1 x2 x3 x4 from by kernel_rfl) (ok4 x1 x2 x3 x4 hp)⟩
theorem env : EnvOk Tryz.prog E := env_nil tys
theorem loops : ∀ c, Tryz.f343.body = some c -> LoopsOk E H c := loops_of (by kernel_rfl) (by kernel_rfl) fun i l h => match i, h with
  | 0, h => Option.some.inj h ▸ lok4
  | n + 1, h => by cases h
theorem sound : Sound Tryz.prog 343 fs := fn_sound env mixed Tryz.func343 H loops fun ⟨x0, x1, ()⟩ hw hp => (show runFn E H Tryz.f343 fs.ps fs.rs (x0, (x1, ())) = raw x0 x1 from by kernel_rfl).trans (eq x0 x1 hw hp)
theorem known : Seen Tryz.prog 343 fs := ⟨sound, _, Tryz.func343, by kernel_rfl, by kernel_rfl⟩
end spec_RowGet
namespace spec_RowTrim
noncomputable def ob1 : List (Nat × ShO) := [(0, (.box tyS43 (.dat tyS43))), (32, (.box tyS43 (.pair (.dat (.int .i64)) (.pair (.dat (.int .i64)) (.pair (.arr 20000000) (.dat .unit)))))), (20000000, (.arr 44 tyS411)), (8256, (.box tyS43 (.pair (.dat (.int .i64)) (.pair (.dat (.int .i64)) (.pair (.arr 20000001) (.dat .unit)))))), (20000001, (.arr 44 tyS411))]
noncomputable def fs : FS := ⟨[(.val tyS43 .f), (.val (.int .i64) .f), (.val (.int .i64) .f)], [(tyS43, .o)], fun x => spec_RowTrim.pre x.1 x.2.1 x.2.2.1, fun x => ((), ((spec_RowTrim x.1 x.2.1 x.2.2.1), ()))⟩
noncomputable def E : Env := ⟨theta, [(298, spec_l3Copy.fs), (282, spec_RowOk.fs)], []⟩
noncomputable def sh9 : ShSt := ⟨(uu :: ui :: ui :: (.one (.bptr 0 [] tyS43)) :: uu :: uu :: (.one (.bptr 32 [] tyS43)) :: (.one (.bptr 8256 [] tyS43)) :: ui :: ui :: un 66 []), ob1⟩
noncomputable def outs9 : List OutC := [⟨(.exit 2), ⟨0, [1, 2, 3, 6, 7, 8, 9], []⟩, ⟨(uu :: ui :: ui :: (.one (.bptr 0 [] tyS43)) :: uu :: uu :: (.one (.bptr 32 [] tyS43)) :: (.one (.bptr 8256 [] tyS43)) :: ui :: ui :: un 66 []), ob1⟩⟩]
noncomputable def L9 : LC := ⟨9, ⟨9, [1, 2, 3, 6, 7, 8, 9], []⟩, sh9, outs9, pre9, fn9⟩
noncomputable def sh4 : ShSt := ⟨(uu :: ui :: ui :: (.one (.bptr 0 [] tyS43)) :: uu :: uu :: (.one (.bptr 32 [] tyS43)) :: (.one (.bptr 8256 [] tyS43)) :: un 68 []), ob1⟩
noncomputable def outs4 : List OutC := [⟨.ret, ⟨0, [6], []⟩, ⟨(un 6 ((.one (.bptr 32 [] tyS43)) :: un 69 [])), [(32, (.box tyS43 (.pair (.dat (.int .i64)) (.pair (.dat (.int .i64)) (.pair (.arr 20000000) (.dat .unit)))))), (20000000, (.arr 44 tyS411))]⟩⟩, ⟨(.exit 0), ⟨0, [6, 7], []⟩, ⟨(un 6 ((.one (.bptr 32 [] tyS43)) :: (.one (.bptr 8256 [] tyS43)) :: un 68 [])), [(32, (.box tyS43 (.pair (.dat (.int .i64)) (.pair (.dat (.int .i64)) (.pair (.arr 20000000) (.dat .unit)))))), (20000000, (.arr 44 tyS411)), (8256, (.box tyS43 (.pair (.dat (.int .i64)) (.pair (.dat (.int .i64)) (.pair (.arr 20000001) (.dat .unit)))))), (20000001, (.arr 44 tyS411))]⟩⟩]
noncomputable def L4 : LC := ⟨4, ⟨4, [1, 2, 3, 6, 7], []⟩, sh4, outs4, pre4, fn4⟩
noncomputable def H : List LC := [L4, L9]
noncomputable def code (i : Nat) : Code := (loopsOf (bodyOf Tryz.f344)).getD i .skip
theorem lok4 : LoopOk E H (code 0) L4 := ⟨mu4, fun ⟨x1, x2, x3, x4, x5, x6, x7, x8, x9, x10, x11, ()⟩ hp => rounds_ok (show L4.step E H (code 0) (x1, (x2, (x3, (x4, (x5, (x6, (x7, (x8, (x9, (x10, (x11, ()))))))))))) = raw4 x1 x2 x3 x4 x5 x6 x7 x8 x9 x10 x11 from by kernel_rfl) (ok4 x1 x2 x3 x4 x5 x6 x7 x8 x9 x10 x11 hp)⟩
theorem lok9 : LoopOk E H (code 1) L9 := ⟨mu9, fun ⟨x1, x2, x3, x4, x5, x6, x7, x8, x9, x10, x11, x12, x13, ()⟩ hp => rounds_ok (show L9.step E H (code 1) (x1, (x2, (x3, (x4, (x5, (x6, (x7, (x8, (x9, (x10, (x11, (x12, (x13, ()))))))))))))) = raw9 x1 x2 x3 x4 x5 x6 x7 x8 x9 x10 x11 x12 x13 from by kernel_rfl) (ok9 x1 x2 x3 x4 x5 x6 x7 x8 x9 x10 x11 x12 x13 hp)⟩
theorem env : EnvOk Tryz.prog E := env_cons spec_l3Copy.known (env_cons spec_RowOk.known (env_nil tys))
theorem loops : ∀ c, Tryz.f344.body = some c -> LoopsOk E H c := loops_of (by kernel_rfl) (by kernel_rfl) fun i l h => match i, h with
  | 0, h => Option.some.inj h ▸ lok4
  | 1, h => Option.some.inj h ▸ lok9
  | n + 2, h => by cases h
theorem sound : Sound Tryz.prog 344 fs := fn_sound env mixed Tryz.func344 H loops fun ⟨x0, x1, x2, ()⟩ hw hp => (show runFn E H Tryz.f344 fs.ps fs.rs (x0, (x1, (x2, ()))) = raw x0 x1 x2 from by kernel_rfl).trans (eq x0 x1 x2 hw hp)
theorem known : Seen Tryz.prog 344 fs := ⟨sound, _, Tryz.func344, by kernel_rfl, by kernel_rfl⟩
end spec_RowTrim
namespace spec_l3Behind
noncomputable def fs : FS := ⟨[(.val tyS43 .f), (.val (.int .i64) .f)], [(.bool, .o)], fun x => spec_l3Behind.pre x.1 x.2.1, fun x => ((), ((spec_l3Behind x.1 x.2.1), ()))⟩
noncomputable def E : Env := ⟨theta, [], []⟩
noncomputable def sh2 : ShSt := ⟨(uu :: ui :: (.one (.bptr 0 [] tyS43)) :: uu :: uu :: ui :: un 22 []), [(0, (.box tyS43 (.dat tyS43)))]⟩
noncomputable def outs2 : List OutC := [⟨.ret, ⟨0, [4], []⟩, ⟨(un 4 ((.one (.dat .bool)) :: un 23 [])), []⟩⟩, ⟨(.exit 0), ⟨0, [], []⟩, ⟨(un 28 []), []⟩⟩]
noncomputable def L2 : LC := ⟨2, ⟨2, [1, 2, 5], []⟩, sh2, outs2, pre2, fn2⟩
noncomputable def H : List LC := [L2]
noncomputable def code (i : Nat) : Code := (loopsOf (bodyOf Tryz.f376)).getD i .skip
theorem lok2 : LoopOk E H (code 0) L2 := ⟨mu2, fun ⟨x1, x2, x3, ()⟩ hp => rounds_ok (show L2.step E H (code 0) (x1, (x2, (x3, ()))) = raw2 x1 x2 x3 from by kernel_rfl) (ok2 x1 x2 x3 hp)⟩
theorem env : EnvOk Tryz.prog E := env_nil tys
theorem loops : ∀ c, Tryz.f376.body = some c -> LoopsOk E H c := loops_of (by kernel_rfl) (by kernel_rfl) fun i l h => match i, h with
  | 0, h => Option.some.inj h ▸ lok2
  | n + 1, h => by cases h
theorem sound : Sound Tryz.prog 376 fs := fn_sound env mixed Tryz.func376 H loops fun ⟨x0, x1, ()⟩ hw hp => (show runFn E H Tryz.f376 fs.ps fs.rs (x0, (x1, ())) = raw x0 x1 from by kernel_rfl).trans (eq x0 x1 hw hp)
theorem known : Seen Tryz.prog 376 fs := ⟨sound, _, Tryz.func376, by kernel_rfl, by kernel_rfl⟩
end spec_l3Behind
namespace spec_RowPack
noncomputable def fs : FS := ⟨[(.val tyS43 .f), (.val (.int .i64) .f)], [(tyS43, .o)], fun x => spec_RowPack.pre x.1 x.2.1, fun x => ((), ((spec_RowPack x.1 x.2.1), ()))⟩
noncomputable def E : Env := ⟨theta, [(298, spec_l3Copy.fs), (282, spec_RowOk.fs), (376, spec_l3Behind.fs)], []⟩
noncomputable def sh5 : ShSt := ⟨(uu :: ui :: (.one (.bptr 0 [] tyS43)) :: uu :: (.one (.bptr 32 [] tyS43)) :: (.one (.bptr 24736 [] tyS43)) :: ui :: un 55 []), [(0, (.box tyS43 (.dat tyS43))), (32, (.box tyS43 (.pair (.dat (.int .i64)) (.pair (.dat (.int .i64)) (.pair (.arr 20000000) (.dat .unit)))))), (20000000, (.arr 44 tyS411)), (24736, (.box tyS43 (.pair (.dat (.int .i64)) (.pair (.dat (.int .i64)) (.pair (.arr 20000001) (.dat .unit)))))), (20000001, (.arr 44 tyS411))]⟩
noncomputable def outs5 : List OutC := [⟨(.exit 0), ⟨0, [4, 5], []⟩, ⟨(un 4 ((.one (.bptr 32 [] tyS43)) :: (.one (.bptr 24736 [] tyS43)) :: un 56 [])), [(32, (.box tyS43 (.pair (.dat (.int .i64)) (.pair (.dat (.int .i64)) (.pair (.arr 20000000) (.dat .unit)))))), (20000000, (.arr 44 tyS411)), (24736, (.box tyS43 (.pair (.dat (.int .i64)) (.pair (.dat (.int .i64)) (.pair (.arr 20000001) (.dat .unit)))))), (20000001, (.arr 44 tyS411))]⟩⟩]
noncomputable def L5 : LC := ⟨5, ⟨5, [1, 2, 4, 5, 6], []⟩, sh5, outs5, pre5, fn5⟩
noncomputable def H : List LC := [L5]
noncomputable def code (i : Nat) : Code := (loopsOf (bodyOf Tryz.f345)).getD i .skip
theorem lok5 : LoopOk E H (code 0) L5 := ⟨mu5, fun ⟨x1, x2, x3, x4, x5, x6, x7, x8, x9, x10, x11, ()⟩ hp => rounds_ok (show L5.step E H (code 0) (x1, (x2, (x3, (x4, (x5, (x6, (x7, (x8, (x9, (x10, (x11, ()))))))))))) = raw5 x1 x2 x3 x4 x5 x6 x7 x8 x9 x10 x11 from by kernel_rfl) (ok5 x1 x2 x3 x4 x5 x6 x7 x8 x9 x10 x11 hp)⟩
theorem env : EnvOk Tryz.prog E := env_cons spec_l3Copy.known (env_cons spec_RowOk.known (env_cons spec_l3Behind.known (env_nil tys)))
theorem loops : ∀ c, Tryz.f345.body = some c -> LoopsOk E H c := loops_of (by kernel_rfl) (by kernel_rfl) fun i l h => match i, h with
  | 0, h => Option.some.inj h ▸ lok5
  | n + 1, h => by cases h
theorem sound : Sound Tryz.prog 345 fs := fn_sound env mixed Tryz.func345 H loops fun ⟨x0, x1, ()⟩ hw hp => (show runFn E H Tryz.f345 fs.ps fs.rs (x0, (x1, ())) = raw x0 x1 from by kernel_rfl).trans (eq x0 x1 hw hp)
theorem known : Seen Tryz.prog 345 fs := ⟨sound, _, Tryz.func345, by kernel_rfl, by kernel_rfl⟩
end spec_RowPack
namespace spec_l6Row
noncomputable def fs : FS := ⟨[(.val (.pair (.int .i64) (.pair (.int .i64) tyS47)) .f), (.val tyS41 .o), (.val tyS42 .f)], [(tyS41, .o), (tyS49, .o)], fun x => spec_l6Row.pre x.1 x.2.1 x.2.2.1, fun x => ((), ((spec_l6Row x.1 x.2.1 x.2.2.1).1, ((spec_l6Row x.1 x.2.1 x.2.2.1).2, ())))⟩
noncomputable def E : Env := ⟨theta, [(341, spec_l6Put.fs), (342, spec_l6Epoch.fs), (343, spec_RowGet.fs), (344, spec_RowTrim.fs), (345, spec_RowPack.fs)], []⟩
noncomputable def H : List LC := []
theorem env : EnvOk Tryz.prog E := env_cons spec_l6Put.known (env_cons spec_l6Epoch.known (env_cons spec_RowGet.known (env_cons spec_RowTrim.known (env_cons spec_RowPack.known (env_nil tys)))))
theorem loops : ∀ c, Tryz.f303.body = some c -> LoopsOk E H c := loops_none (by kernel_rfl)
theorem sound : Sound Tryz.prog 303 fs := fn_sound env mixed Tryz.func303 H loops fun ⟨x0, x1, x2, ()⟩ hw hp => (show runFn E H Tryz.f303 fs.ps fs.rs (x0, (x1, (x2, ()))) = raw x0 x1 x2 from by kernel_rfl).trans (eq x0 x1 x2 hw hp)
theorem known : Seen Tryz.prog 303 fs := ⟨sound, _, Tryz.func303, by kernel_rfl, by kernel_rfl⟩
end spec_l6Row
namespace spec_l6New
noncomputable def ob1 : List (Nat × ShO) := [(32, (.box tyS41 (.pair (.arr 20000000) (.pair (.arr 20000001) (.pair (.arr 20000002) (.pair (.dat (.int .i64)) (.pair (.arr 20000003) (.pair (.arr 20000004) (.dat .unit))))))))), (20000000, (.arr 42 tyS43)), (20000001, (.arr 156 tyS45)), (20000002, (.arr 159 tyS44)), (20000003, (.arr 3 (.int .i64))), (20000004, (.arr 48 tyS49)), (96, (.box tyS41 (.pair (.arr 20000005) (.pair (.arr 20000006) (.pair (.arr 20000007) (.pair (.dat (.int .i64)) (.pair (.arr 20000008) (.pair (.arr 20000009) (.dat .unit))))))))), (20000005, (.arr 42 tyS43)), (20000006, (.arr 156 tyS45)), (20000007, (.arr 159 tyS44)), (20000008, (.arr 3 (.int .i64))), (20000009, (.arr 48 tyS49)), (128, (.box tyS49 (.dat tyS49)))]
noncomputable def fs : FS := ⟨[(.val (.pair (.int .i64) (.pair (.int .i64) tyS47)) .f), (.val tyS41 .o), (.val tyS42 .f)], [(tyS41, .o), (tyS49, .o)], fun x => spec_l6New.pre x.1 x.2.1 x.2.2.1, fun x => ((), ((spec_l6New x.1 x.2.1 x.2.2.1).1, ((spec_l6New x.1 x.2.1 x.2.2.1).2, ())))⟩
noncomputable def E : Env := ⟨theta, [(118, spec_l1In.fs), (280, spec_l1Min.fs), (301, spec_GroupTick.fs), (302, spec_l6Group.fs), (303, spec_l6Row.fs)], []⟩
noncomputable def sh4 : ShSt := ⟨(un 4 ((.one (.bptr 32 [] tyS41)) :: uu :: (.one (.bptr 96 [] tyS41)) :: (.one (.bptr 128 [] tyS49)) :: ui :: un 70 [])), ob1⟩
noncomputable def outs4 : List OutC := [⟨(.exit 0), ⟨0, [4, 6, 7], []⟩, ⟨(un 4 ((.one (.bptr 32 [] tyS41)) :: uu :: (.one (.bptr 96 [] tyS41)) :: (.one (.bptr 128 [] tyS49)) :: un 71 [])), ob1⟩⟩]
noncomputable def L4 : LC := ⟨4, ⟨4, [4, 6, 7, 8], []⟩, sh4, outs4, pre4, fn4⟩
noncomputable def H : List LC := [L4]
noncomputable def code (i : Nat) : Code := (loopsOf (bodyOf Tryz.f214)).getD i .skip
theorem lok4 : LoopOk E H (code 0) L4 := ⟨mu4, fun ⟨x1, x2, x3, x4, x5, x6, x7, x8, x9, x10, x11, x12, x13, x14, x15, x16, ()⟩ hp => rounds_ok (show L4.step E H (code 0) (x1, (x2, (x3, (x4, (x5, (x6, (x7, (x8, (x9, (x10, (x11, (x12, (x13, (x14, (x15, (x16, ())))))))))))))))) = raw4 x1 x2 x3 x4 x5 x6 x7 x8 x9 x10 x11 x12 x13 x14 x15 x16 from by kernel_rfl) (ok4 x1 x2 x3 x4 x5 x6 x7 x8 x9 x10 x11 x12 x13 x14 x15 x16 hp)⟩
theorem env : EnvOk Tryz.prog E := env_cons spec_l1In.known (env_cons spec_l1Min.known (env_cons spec_GroupTick.known (env_cons spec_l6Group.known (env_cons spec_l6Row.known (env_nil tys)))))
theorem loops : ∀ c, Tryz.f214.body = some c -> LoopsOk E H c := loops_of (by kernel_rfl) (by kernel_rfl) fun i l h => match i, h with
  | 0, h => Option.some.inj h ▸ lok4
  | n + 1, h => by cases h
theorem sound : Sound Tryz.prog 214 fs := fn_sound env mixed Tryz.func214 H loops fun ⟨x0, x1, x2, ()⟩ hw hp => (show runFn E H Tryz.f214 fs.ps fs.rs (x0, (x1, (x2, ()))) = raw x0 x1 x2 from by kernel_rfl).trans (eq x0 x1 x2 hw hp)
theorem known : Seen Tryz.prog 214 fs := ⟨sound, _, Tryz.func214, by kernel_rfl, by kernel_rfl⟩
end spec_l6New
namespace spec_l6Do
noncomputable def fs : FS := ⟨[(.val (.pair (.int .i64) (.pair (.int .i64) tyS47)) .f), (.val tyS41 .f), (.val tyS42 .f)], [(tyS41, .o), (tyS49, .o)], fun x => spec_l6Do.pre x.1 x.2.1 x.2.2.1, fun x => ((), ((spec_l6Do x.1 x.2.1 x.2.2.1).1, ((spec_l6Do x.1 x.2.1 x.2.2.1).2, ())))⟩
noncomputable def E : Env := ⟨theta, [(213, spec_l6Copy.fs), (214, spec_l6New.fs)], []⟩
noncomputable def H : List LC := []
theorem env : EnvOk Tryz.prog E := env_cons spec_l6Copy.known (env_cons spec_l6New.known (env_nil tys))
theorem loops : ∀ c, Tryz.f96.body = some c -> LoopsOk E H c := loops_none (by kernel_rfl)
theorem sound : Sound Tryz.prog 96 fs := fn_sound env mixed Tryz.func96 H loops fun ⟨x0, x1, x2, ()⟩ hw hp => (show runFn E H Tryz.f96 fs.ps fs.rs (x0, (x1, (x2, ()))) = raw x0 x1 x2 from by kernel_rfl).trans (eq x0 x1 x2 hw hp)
theorem known : Seen Tryz.prog 96 fs := ⟨sound, _, Tryz.func96, by kernel_rfl, by kernel_rfl⟩
end spec_l6Do
namespace spec_KeepAll
noncomputable def fs : FS := ⟨[(.val (.pair (.int .i64) (.pair (.int .i64) tyS47)) .f), (.val (.sl 46 tyS42) .f)], [(tyS41, .o), ((.sl 48 tyS49), .o)], fun x => spec_KeepAll.pre x.1 x.2.1, fun x => ((), ((spec_KeepAll x.1 x.2.1).1, ((spec_KeepAll x.1 x.2.1).2, ())))⟩
noncomputable def E : Env := ⟨theta, [(94, spec_SetupOk.fs), (39, spec_KeepNew.fs), (95, spec_CmdOk.fs), (96, spec_l6Do.fs)], []⟩
noncomputable def sh4 : ShSt := ⟨(uu :: (.one (.dat (.sl 46 tyS42))) :: (.one (.bptr 0 [] (.pair (.int .i64) (.pair (.int .i64) tyS47)))) :: uu :: (.one (.bptr 32 [] tyS41)) :: uu :: (.one (.arr 20000005)) :: (.one (.bptr 16448 [] tyS41)) :: ui :: un 40 []), [(0, (.box (.pair (.int .i64) (.pair (.int .i64) tyS47)) (.dat (.pair (.int .i64) (.pair (.int .i64) tyS47))))), (32, (.box tyS41 (.pair (.arr 20000000) (.pair (.arr 20000001) (.pair (.arr 20000002) (.pair (.dat (.int .i64)) (.pair (.arr 20000003) (.pair (.arr 20000004) (.dat .unit))))))))), (20000000, (.arr 42 tyS43)), (20000001, (.arr 156 tyS45)), (20000002, (.arr 159 tyS44)), (20000003, (.arr 3 (.int .i64))), (20000004, (.arr 48 tyS49)), (20000005, (.arr 48 tyS49)), (16448, (.box tyS41 (.pair (.arr 20000006) (.pair (.arr 20000007) (.pair (.arr 20000008) (.pair (.dat (.int .i64)) (.pair (.arr 20000009) (.pair (.arr 20000010) (.dat .unit))))))))), (20000006, (.arr 42 tyS43)), (20000007, (.arr 156 tyS45)), (20000008, (.arr 159 tyS44)), (20000009, (.arr 3 (.int .i64))), (20000010, (.arr 48 tyS49))]⟩
noncomputable def outs4 : List OutC := [⟨(.exit 0), ⟨0, [4, 6, 7], [(6, (48, tyS49))]⟩, ⟨(un 4 ((.one (.bptr 32 [] tyS41)) :: uu :: (.one (.arr 20000005)) :: (.one (.bptr 16448 [] tyS41)) :: un 41 [])), [(32, (.box tyS41 (.pair (.arr 20000000) (.pair (.arr 20000001) (.pair (.arr 20000002) (.pair (.dat (.int .i64)) (.pair (.arr 20000003) (.pair (.arr 20000004) (.dat .unit))))))))), (20000000, (.arr 42 tyS43)), (20000001, (.arr 156 tyS45)), (20000002, (.arr 159 tyS44)), (20000003, (.arr 3 (.int .i64))), (20000004, (.arr 48 tyS49)), (20000005, (.arr 48 tyS49)), (16448, (.box tyS41 (.pair (.arr 20000006) (.pair (.arr 20000007) (.pair (.arr 20000008) (.pair (.dat (.int .i64)) (.pair (.arr 20000009) (.pair (.arr 20000010) (.dat .unit))))))))), (20000006, (.arr 42 tyS43)), (20000007, (.arr 156 tyS45)), (20000008, (.arr 159 tyS44)), (20000009, (.arr 3 (.int .i64))), (20000010, (.arr 48 tyS49))]⟩⟩]
noncomputable def L4 : LC := ⟨4, ⟨4, [1, 2, 4, 6, 7, 8], [(6, (48, tyS49))]⟩, sh4, outs4, pre4, fn4⟩
noncomputable def H : List LC := [L4]
noncomputable def code (i : Nat) : Code := (loopsOf (bodyOf Tryz.f15)).getD i .skip
theorem lok4 : LoopOk E H (code 0) L4 := ⟨mu4, fun ⟨x1, x2, x3, x4, x5, x6, x7, x8, x9, x10, x11, x12, x13, x14, x15, x16, x17, x18, ()⟩ hp => rounds_ok (show L4.step E H (code 0) (x1, (x2, (x3, (x4, (x5, (x6, (x7, (x8, (x9, (x10, (x11, (x12, (x13, (x14, (x15, (x16, (x17, (x18, ())))))))))))))))))) = raw4 x1 x2 x3 x4 x5 x6 x7 x8 x9 x10 x11 x12 x13 x14 x15 x16 x17 x18 from by kernel_rfl) (ok4 x1 x2 x3 x4 x5 x6 x7 x8 x9 x10 x11 x12 x13 x14 x15 x16 x17 x18 hp)⟩
theorem env : EnvOk Tryz.prog E := env_cons spec_SetupOk.known (env_cons spec_KeepNew.known (env_cons spec_CmdOk.known (env_cons spec_l6Do.known (env_nil tys))))
theorem loops : ∀ c, Tryz.f15.body = some c -> LoopsOk E H c := loops_of (by kernel_rfl) (by kernel_rfl) fun i l h => match i, h with
  | 0, h => Option.some.inj h ▸ lok4
  | n + 1, h => by cases h
theorem sound : Sound Tryz.prog 15 fs := fn_sound env mixed Tryz.func15 H loops fun ⟨x0, x1, ()⟩ hw hp => (show runFn E H Tryz.f15 fs.ps fs.rs (x0, (x1, ())) = raw x0 x1 from by kernel_rfl).trans (eq x0 x1 hw hp)
theorem known : Seen Tryz.prog 15 fs := ⟨sound, _, Tryz.func15, by kernel_rfl, by kernel_rfl⟩
end spec_KeepAll
namespace spec_l6DrawRight
noncomputable def fs : FS := ⟨[(.ref (.pair (.sl 5 (.int .u8)) tyS47) .f)], [((.pair (.int .i64) (.pair (.int .i64) tyS47)), .o), (tyS41, .o)], fun x => spec_l6DrawRight.pre x.1, fun x => (((spec_l6DrawRight x.1).1, ()), ((spec_l6DrawRight x.1).2.1, ((spec_l6DrawRight x.1).2.2, ())))⟩
noncomputable def E : Env := ⟨theta, [(211, spec_l1DrawRight.fs), (91, spec_l6DrawCmds.fs), (15, spec_KeepAll.fs)], []⟩
noncomputable def H : List LC := []
theorem env : EnvOk Tryz.prog E := env_cons spec_l1DrawRight.known (env_cons spec_l6DrawCmds.known (env_cons spec_KeepAll.known (env_nil tys)))
theorem loops : ∀ c, Tryz.f225.body = some c -> LoopsOk E H c := loops_none (by kernel_rfl)
theorem sound : Sound Tryz.prog 225 fs := fn_sound env mixed Tryz.func225 H loops fun ⟨x0, ()⟩ hw hp => (show runFn E H Tryz.f225 fs.ps fs.rs (x0, ()) = raw x0 from by kernel_rfl).trans (eq x0 hw hp)
theorem known : Seen Tryz.prog 225 fs := ⟨sound, _, Tryz.func225, by kernel_rfl, by kernel_rfl⟩
end spec_l6DrawRight
namespace spec_PutNum
noncomputable def fs : FS := ⟨[(.val (.int .i64) .f)], [((.sl 5 (.int .u8)), .o)], fun _ => true, fun x => ((), ((spec_PutNum x.1), ()))⟩
noncomputable def E : Env := ⟨theta, [(118, spec_l1In.fs)], []⟩
noncomputable def sh4 : ShSt := ⟨(ui :: uu :: uu :: (.one (.arr 20000000)) :: un 21 []), [(20000000, (.arr 5 (.int .u8)))]⟩
noncomputable def outs4 : List OutC := [⟨(.exit 0), ⟨0, [0, 3], [(3, (5, (.int .u8)))]⟩, ⟨(ui :: uu :: uu :: (.one (.arr 20000000)) :: un 21 []), [(20000000, (.arr 5 (.int .u8)))]⟩⟩]
noncomputable def L4 : LC := ⟨4, ⟨4, [0, 3], [(3, (5, (.int .u8)))]⟩, sh4, outs4, pre4, fn4⟩
noncomputable def H : List LC := [L4]
noncomputable def code (i : Nat) : Code := (loopsOf (bodyOf Tryz.f114)).getD i .skip
theorem lok4 : LoopOk E H (code 0) L4 := ⟨mu4, fun ⟨x1, x2, ()⟩ hp => rounds_ok (show L4.step E H (code 0) (x1, (x2, ())) = raw4 x1 x2 from by kernel_rfl) (ok4 x1 x2 hp)⟩
theorem env : EnvOk Tryz.prog E := env_cons spec_l1In.known (env_nil tys)
theorem loops : ∀ c, Tryz.f114.body = some c -> LoopsOk E H c := loops_of (by kernel_rfl) (by kernel_rfl) fun i l h => match i, h with
  | 0, h => Option.some.inj h ▸ lok4
  | n + 1, h => by cases h
theorem sound : Sound Tryz.prog 114 fs := fn_sound env mixed Tryz.func114 H loops fun ⟨x0, ()⟩ hw _ => (show runFn E H Tryz.f114 fs.ps fs.rs (x0, ()) = raw x0 from by kernel_rfl).trans (eq x0 hw)
theorem known : Seen Tryz.prog 114 fs := ⟨sound, _, Tryz.func114, by kernel_rfl, by kernel_rfl⟩
end spec_PutNum
namespace spec_l7Nums
noncomputable def fs : FS := ⟨[(.val (.sl 3 (.int .i64)) .f)], [((.sl 5 (.int .u8)), .o)], fun x => spec_l7Nums.pre x.1, fun x => ((), ((spec_l7Nums x.1), ()))⟩
noncomputable def E : Env := ⟨theta, [(114, spec_PutNum.fs)], []⟩
noncomputable def sh3 : ShSt := ⟨((.one (.dat (.sl 3 (.int .i64)))) :: uu :: uu :: (.one (.arr 20000000)) :: ui :: un 15 []), [(20000000, (.arr 5 (.int .u8)))]⟩
noncomputable def outs3 : List OutC := [⟨(.exit 0), ⟨0, [3], [(3, (5, (.int .u8)))]⟩, ⟨(uu :: uu :: uu :: (.one (.arr 20000000)) :: un 16 []), [(20000000, (.arr 5 (.int .u8)))]⟩⟩]
noncomputable def L3 : LC := ⟨3, ⟨3, [0, 3, 4], [(3, (5, (.int .u8)))]⟩, sh3, outs3, pre3, fn3⟩
noncomputable def H : List LC := [L3]
noncomputable def code (i : Nat) : Code := (loopsOf (bodyOf Tryz.f308)).getD i .skip
theorem lok3 : LoopOk E H (code 0) L3 := ⟨mu3, fun ⟨x1, x2, x3, ()⟩ hp => rounds_ok (show L3.step E H (code 0) (x1, (x2, (x3, ()))) = raw3 x1 x2 x3 from by kernel_rfl) (ok3 x1 x2 x3 hp)⟩
theorem env : EnvOk Tryz.prog E := env_cons spec_PutNum.known (env_nil tys)
theorem loops : ∀ c, Tryz.f308.body = some c -> LoopsOk E H c := loops_of (by kernel_rfl) (by kernel_rfl) fun i l h => match i, h with
  | 0, h => Option.some.inj h ▸ lok3
  | n + 1, h => by cases h
theorem sound : Sound Tryz.prog 308 fs := fn_sound env mixed Tryz.func308 H loops fun ⟨x0, ()⟩ hw hp => (show runFn E H Tryz.f308 fs.ps fs.rs (x0, ()) = raw x0 from by kernel_rfl).trans (eq x0 hw hp)
theorem known : Seen Tryz.prog 308 fs := ⟨sound, _, Tryz.func308, by kernel_rfl, by kernel_rfl⟩
end spec_l7Nums
namespace spec_PutText
noncomputable def fs : FS := ⟨[(.val .str .f)], [((.sl 5 (.int .u8)), .o)], fun x => spec_PutText.pre x.1, fun x => ((), ((spec_PutText x.1), ()))⟩
noncomputable def E : Env := ⟨theta, [(114, spec_PutNum.fs)], []⟩
noncomputable def H : List LC := []
theorem env : EnvOk Tryz.prog E := env_cons spec_PutNum.known (env_nil tys)
theorem loops : ∀ c, Tryz.f223.body = some c -> LoopsOk E H c := loops_none (by kernel_rfl)
theorem sound : Sound Tryz.prog 223 fs := fn_sound env mixed Tryz.func223 H loops fun ⟨x0, ()⟩ hw hp => (show runFn E H Tryz.f223 fs.ps fs.rs (x0, ()) = raw x0 from by kernel_rfl).trans (eq x0 hw hp)
theorem known : Seen Tryz.prog 223 fs := ⟨sound, _, Tryz.func223, by kernel_rfl, by kernel_rfl⟩
end spec_PutText
namespace spec_l7Bytes
noncomputable def ob1 : List (Nat × ShO) := [(0, (.box tyS41 (.dat tyS41))), (20000000, (.arr 5 (.int .u8)))]
noncomputable def ob2 : List (Nat × ShO) := [(0, (.box tyS41 (.dat tyS41))), (20000000, (.arr 5 (.int .u8))), (237728, (.box tyS44 (.dat tyS44)))]
noncomputable def fs : FS := ⟨[(.val tyS41 .f)], [((.sl 5 (.int .u8)), .o)], fun x => spec_l7Bytes.pre x.1, fun x => ((), ((spec_l7Bytes x.1), ()))⟩
noncomputable def E : Env := ⟨theta, [(114, spec_PutNum.fs), (308, spec_l7Nums.fs), (223, spec_PutText.fs)], []⟩
noncomputable def sh8 : ShSt := ⟨(uu :: (.one (.bptr 0 [] tyS41)) :: uu :: (.one (.arr 20000000)) :: ui :: (.one (.bptr 41120 [] tyS43)) :: ui :: un 223 []), [(0, (.box tyS41 (.dat tyS41))), (20000000, (.arr 5 (.int .u8))), (41120, (.box tyS43 (.dat tyS43)))]⟩
noncomputable def outs8 : List OutC := [⟨(.exit 2), ⟨0, [1, 3, 4], [(3, (5, (.int .u8)))]⟩, ⟨(uu :: (.one (.bptr 0 [] tyS41)) :: uu :: (.one (.arr 20000000)) :: ui :: un 225 []), ob1⟩⟩]
noncomputable def L8 : LC := ⟨8, ⟨8, [1, 3, 4, 5, 6], [(3, (5, (.int .u8)))]⟩, sh8, outs8, pre8, fn8⟩
noncomputable def sh3 : ShSt := ⟨(uu :: (.one (.bptr 0 [] tyS41)) :: uu :: (.one (.arr 20000000)) :: ui :: un 225 []), ob1⟩
noncomputable def outs3 : List OutC := [⟨(.exit 0), ⟨0, [1, 3], [(3, (5, (.int .u8)))]⟩, ⟨(uu :: (.one (.bptr 0 [] tyS41)) :: uu :: (.one (.arr 20000000)) :: un 226 []), ob1⟩⟩]
noncomputable def L3 : LC := ⟨3, ⟨3, [1, 3, 4], [(3, (5, (.int .u8)))]⟩, sh3, outs3, pre3, fn3⟩
noncomputable def sh22 : ShSt := ⟨(uu :: (.one (.bptr 0 [] tyS41)) :: uu :: (.one (.arr 20000000)) :: un 4 (ui :: (.one (.bptr 155808 [] tyS45)) :: ui :: un 219 [])), [(0, (.box tyS41 (.dat tyS41))), (20000000, (.arr 5 (.int .u8))), (155808, (.box tyS45 (.dat tyS45)))]⟩
noncomputable def outs22 : List OutC := [⟨(.exit 6), ⟨0, [1, 3, 8], [(3, (5, (.int .u8)))]⟩, ⟨(uu :: (.one (.bptr 0 [] tyS41)) :: uu :: (.one (.arr 20000000)) :: un 4 (ui :: un 221 [])), ob1⟩⟩]
noncomputable def L22 : LC := ⟨22, ⟨22, [1, 3, 8, 9, 10], [(3, (5, (.int .u8)))]⟩, sh22, outs22, pre22, fn22⟩
noncomputable def sh17 : ShSt := ⟨(uu :: (.one (.bptr 0 [] tyS41)) :: uu :: (.one (.arr 20000000)) :: un 4 (ui :: un 221 [])), ob1⟩
noncomputable def outs17 : List OutC := [⟨(.exit 4), ⟨0, [1, 3], [(3, (5, (.int .u8)))]⟩, ⟨(uu :: (.one (.bptr 0 [] tyS41)) :: uu :: (.one (.arr 20000000)) :: un 226 []), ob1⟩⟩]
noncomputable def L17 : LC := ⟨17, ⟨17, [1, 3, 8], [(3, (5, (.int .u8)))]⟩, sh17, outs17, pre17, fn17⟩
noncomputable def sh32 : ShSt := ⟨(uu :: (.one (.bptr 0 [] tyS41)) :: uu :: (.one (.arr 20000000)) :: un 7 (ui :: (.one (.bptr 237728 [] tyS44)) :: ui :: un 216 [])), ob2⟩
noncomputable def outs32 : List OutC := [⟨(.exit 10), ⟨0, [1, 3, 11, 12], [(3, (5, (.int .u8)))]⟩, ⟨(uu :: (.one (.bptr 0 [] tyS41)) :: uu :: (.one (.arr 20000000)) :: un 7 (ui :: (.one (.bptr 237728 [] tyS44)) :: un 217 [])), ob2⟩⟩]
noncomputable def L32 : LC := ⟨32, ⟨32, [1, 3, 11, 12, 13], [(3, (5, (.int .u8)))]⟩, sh32, outs32, pre32, fn32⟩
noncomputable def sh27 : ShSt := ⟨(uu :: (.one (.bptr 0 [] tyS41)) :: uu :: (.one (.arr 20000000)) :: un 7 (ui :: un 218 [])), ob1⟩
noncomputable def outs27 : List OutC := [⟨(.exit 8), ⟨0, [1, 3], [(3, (5, (.int .u8)))]⟩, ⟨(uu :: (.one (.bptr 0 [] tyS41)) :: uu :: (.one (.arr 20000000)) :: un 226 []), ob1⟩⟩]
noncomputable def L27 : LC := ⟨27, ⟨27, [1, 3, 11], [(3, (5, (.int .u8)))]⟩, sh27, outs27, pre27, fn27⟩
noncomputable def sh38 : ShSt := ⟨(uu :: (.one (.bptr 0 [] tyS41)) :: uu :: (.one (.arr 20000000)) :: un 10 (ui :: un 215 [])), ob1⟩
noncomputable def outs38 : List OutC := [⟨(.exit 12), ⟨0, [3], [(3, (5, (.int .u8)))]⟩, ⟨(uu :: uu :: uu :: (.one (.arr 20000000)) :: un 226 []), [(20000000, (.arr 5 (.int .u8)))]⟩⟩]
noncomputable def L38 : LC := ⟨38, ⟨38, [1, 3, 14], [(3, (5, (.int .u8)))]⟩, sh38, outs38, pre38, fn38⟩
noncomputable def H : List LC := [L3, L8, L17, L22, L27, L32, L38]
noncomputable def code (i : Nat) : Code := (loopsOf (bodyOf Tryz.f226)).getD i .skip
theorem lok3 : LoopOk E H (code 0) L3 := ⟨mu3, fun ⟨x1, x2, x3, ()⟩ hp => rounds_ok (show L3.step E H (code 0) (x1, (x2, (x3, ()))) = raw3 x1 x2 x3 from by kernel_rfl) (ok3 x1 x2 x3 hp)⟩
theorem lok8 : LoopOk E H (code 1) L8 := ⟨mu8, fun ⟨x1, x2, x3, x4, x5, ()⟩ hp => rounds_ok (show L8.step E H (code 1) (x1, (x2, (x3, (x4, (x5, ()))))) = raw8 x1 x2 x3 x4 x5 from by kernel_rfl) (ok8 x1 x2 x3 x4 x5 hp)⟩
theorem lok17 : LoopOk E H (code 2) L17 := ⟨mu17, fun ⟨x1, x2, x3, ()⟩ hp => rounds_ok (show L17.step E H (code 2) (x1, (x2, (x3, ()))) = raw17 x1 x2 x3 from by kernel_rfl) (ok17 x1 x2 x3 hp)⟩
theorem lok22 : LoopOk E H (code 3) L22 := ⟨mu22, fun ⟨x1, x2, x3, x4, x5, ()⟩ hp => rounds_ok (show L22.step E H (code 3) (x1, (x2, (x3, (x4, (x5, ()))))) = raw22 x1 x2 x3 x4 x5 from by kernel_rfl) (ok22 x1 x2 x3 x4 x5 hp)⟩
theorem lok27 : LoopOk E H (code 4) L27 := ⟨mu27, fun ⟨x1, x2, x3, ()⟩ hp => rounds_ok (show L27.step E H (code 4) (x1, (x2, (x3, ()))) = raw27 x1 x2 x3 from by kernel_rfl) (ok27 x1 x2 x3 hp)⟩
theorem lok32 : LoopOk E H (code 5) L32 := ⟨mu32, fun ⟨x1, x2, x3, x4, x5, ()⟩ hp => rounds_ok (show L32.step E H (code 5) (x1, (x2, (x3, (x4, (x5, ()))))) = raw32 x1 x2 x3 x4 x5 from by kernel_rfl) (ok32 x1 x2 x3 x4 x5 hp)⟩
theorem lok38 : LoopOk E H (code 6) L38 := ⟨mu38, fun ⟨x1, x2, x3, ()⟩ hp => rounds_ok (show L38.step E H (code 6) (x1, (x2, (x3, ()))) = raw38 x1 x2 x3 from by kernel_rfl) (ok38 x1 x2 x3 hp)⟩
theorem env : EnvOk Tryz.prog E := env_cons spec_PutNum.known (env_cons spec_l7Nums.known (env_cons spec_PutText.known (env_nil tys)))
theorem loops : ∀ c, Tryz.f226.body = some c -> LoopsOk E H c := loops_of (by kernel_rfl) (by kernel_rfl) fun i l h => match i, h with
  | 0, h => Option.some.inj h ▸ lok3
  | 1, h => Option.some.inj h ▸ lok8
  | 2, h => Option.some.inj h ▸ lok17
  | 3, h => Option.some.inj h ▸ lok22
  | 4, h => Option.some.inj h ▸ lok27
  | 5, h => Option.some.inj h ▸ lok32
  | 6, h => Option.some.inj h ▸ lok38
  | n + 7, h => by cases h
theorem sound : Sound Tryz.prog 226 fs := fn_sound env mixed Tryz.func226 H loops fun ⟨x0, ()⟩ hw hp => (show runFn E H Tryz.f226 fs.ps fs.rs (x0, ()) = raw x0 from by kernel_rfl).trans (eq x0 hw hp)
theorem known : Seen Tryz.prog 226 fs := ⟨sound, _, Tryz.func226, by kernel_rfl, by kernel_rfl⟩
end spec_l7Bytes
namespace spec_l8DrawEntries
noncomputable def ob1 : List (Nat × ShO) := [(10000000, (.box (.pair (.sl 5 (.int .u8)) tyS47) (.dat (.pair (.sl 5 (.int .u8)) tyS47)))), (20000000, (.arr 167 (.pair (.int .i64) (.pair tyS42 .unit))))]
noncomputable def fs : FS := ⟨[(.ref (.pair (.sl 5 (.int .u8)) tyS47) .f), (.val (.int .i64) .f), (.val (.int .i64) .f)], [((.sl 167 (.pair (.int .i64) (.pair tyS42 .unit))), .o)], fun x => spec_l8DrawEntries.pre x.1 x.2.1 x.2.2.1, fun x => (((spec_l8DrawEntries x.1 x.2.1 x.2.2.1).1, ()), ((spec_l8DrawEntries x.1 x.2.1 x.2.2.1).2, ()))⟩
noncomputable def E : Env := ⟨theta, [(125, spec_l1Below.fs), (212, spec_l2DrawRight.fs)], []⟩
noncomputable def sh4 : ShSt := ⟨((.one (.bptr 10000000 [] (.pair (.sl 5 (.int .u8)) tyS47))) :: ui :: un 5 ((.one (.arr 20000000)) :: ui :: ui :: un 22 [])), ob1⟩
noncomputable def outs4 : List OutC := [⟨(.exit 0), ⟨0, [7, 0], [(7, (167, (.pair (.int .i64) (.pair tyS42 .unit))))]⟩, ⟨((.one (.bptr 10000000 [] (.pair (.sl 5 (.int .u8)) tyS47))) :: un 6 ((.one (.arr 20000000)) :: un 24 [])), ob1⟩⟩]
noncomputable def L4 : LC := ⟨4, ⟨4, [0, 1, 7, 8, 9], [(7, (167, (.pair (.int .i64) (.pair tyS42 .unit))))]⟩, sh4, outs4, pre4, fn4⟩
noncomputable def H : List LC := [L4]
noncomputable def code (i : Nat) : Code := (loopsOf (bodyOf Tryz.f227)).getD i .skip
theorem lok4 : LoopOk E H (code 0) L4 := ⟨mu4, fun ⟨x1, x2, x3, x4, x5, ()⟩ hp => rounds_ok (show L4.step E H (code 0) (x1, (x2, (x3, (x4, (x5, ()))))) = raw4 x1 x2 x3 x4 x5 from by kernel_rfl) (ok4 x1 x2 x3 x4 x5 hp)⟩
theorem env : EnvOk Tryz.prog E := env_cons spec_l1Below.known (env_cons spec_l2DrawRight.known (env_nil tys))
theorem loops : ∀ c, Tryz.f227.body = some c -> LoopsOk E H c := loops_of (by kernel_rfl) (by kernel_rfl) fun i l h => match i, h with
  | 0, h => Option.some.inj h ▸ lok4
  | n + 1, h => by cases h
theorem sound : Sound Tryz.prog 227 fs := fn_sound env mixed Tryz.func227 H loops fun ⟨x0, x1, x2, ()⟩ hw hp => (show runFn E H Tryz.f227 fs.ps fs.rs (x0, (x1, (x2, ()))) = raw x0 x1 x2 from by kernel_rfl).trans (eq x0 x1 x2 hw hp)
theorem known : Seen Tryz.prog 227 fs := ⟨sound, _, Tryz.func227, by kernel_rfl, by kernel_rfl⟩
end spec_l8DrawEntries
namespace spec_l9DrawRight
noncomputable def fs : FS := ⟨[(.ref (.pair (.sl 5 (.int .u8)) tyS47) .f)], [(tyS46, .o)], fun x => spec_l9DrawRight.pre x.1, fun x => (((spec_l9DrawRight x.1).1, ()), ((spec_l9DrawRight x.1).2, ()))⟩
noncomputable def E : Env := ⟨theta, [(125, spec_l1Below.fs), (225, spec_l6DrawRight.fs), (226, spec_l7Bytes.fs), (227, spec_l8DrawEntries.fs)], []⟩
noncomputable def H : List LC := []
theorem env : EnvOk Tryz.prog E := env_cons spec_l1Below.known (env_cons spec_l6DrawRight.known (env_cons spec_l7Bytes.known (env_cons spec_l8DrawEntries.known (env_nil tys))))
theorem loops : ∀ c, Tryz.f120.body = some c -> LoopsOk E H c := loops_none (by kernel_rfl)
theorem sound : Sound Tryz.prog 120 fs := fn_sound env mixed Tryz.func120 H loops fun ⟨x0, ()⟩ hw hp => (show runFn E H Tryz.f120 fs.ps fs.rs (x0, ()) = raw x0 from by kernel_rfl).trans (eq x0 hw hp)
theorem known : Seen Tryz.prog 120 fs := ⟨sound, _, Tryz.func120, by kernel_rfl, by kernel_rfl⟩
end spec_l9DrawRight
namespace spec_l9List
noncomputable def fs : FS := ⟨[(.val (.sl 167 (.pair (.int .i64) (.pair tyS42 .unit))) .f), (.val (.int .i64) .f)], [(.bool, .o)], fun _ => true, fun x => ((), ((spec_l9List x.1 x.2.1), ()))⟩
noncomputable def E : Env := ⟨theta, [(118, spec_l1In.fs), (95, spec_CmdOk.fs)], []⟩
noncomputable def sh2 : ShSt := ⟨((.one (.dat (.sl 167 (.pair (.int .i64) (.pair tyS42 .unit))))) :: ui :: uu :: uu :: uu :: ui :: un 26 []), []⟩
noncomputable def outs2 : List OutC := [⟨.ret, ⟨0, [4], []⟩, ⟨(un 4 ((.one (.dat .bool)) :: un 27 [])), []⟩⟩, ⟨(.exit 0), ⟨0, [0], []⟩, ⟨((.one (.dat (.sl 167 (.pair (.int .i64) (.pair tyS42 .unit))))) :: un 31 []), []⟩⟩]
noncomputable def L2 : LC := ⟨2, ⟨2, [0, 1, 5], []⟩, sh2, outs2, pre2, fn2⟩
noncomputable def H : List LC := [L2]
noncomputable def code (i : Nat) : Code := (loopsOf (bodyOf Tryz.f119)).getD i .skip
theorem lok2 : LoopOk E H (code 0) L2 := ⟨mu2, fun ⟨x1, x2, x3, ()⟩ hp => rounds_ok (show L2.step E H (code 0) (x1, (x2, (x3, ()))) = raw2 x1 x2 x3 from by kernel_rfl) (ok2 x1 x2 x3 hp)⟩
theorem env : EnvOk Tryz.prog E := env_cons spec_l1In.known (env_cons spec_CmdOk.known (env_nil tys))
theorem loops : ∀ c, Tryz.f119.body = some c -> LoopsOk E H c := loops_of (by kernel_rfl) (by kernel_rfl) fun i l h => match i, h with
  | 0, h => Option.some.inj h ▸ lok2
  | n + 1, h => by cases h
theorem sound : Sound Tryz.prog 119 fs := fn_sound env mixed Tryz.func119 H loops fun ⟨x0, x1, ()⟩ hw _ => (show runFn E H Tryz.f119 fs.ps fs.rs (x0, (x1, ())) = raw x0 x1 from by kernel_rfl).trans (eq x0 x1 hw)
theorem known : Seen Tryz.prog 119 fs := ⟨sound, _, Tryz.func119, by kernel_rfl, by kernel_rfl⟩
end spec_l9List
namespace spec_NoteOk
noncomputable def fs : FS := ⟨[(.val tyS46 .f)], [(.bool, .o)], fun _ => true, fun x => ((), ((spec_NoteOk x.1), ()))⟩
noncomputable def E : Env := ⟨theta, [(118, spec_l1In.fs), (119, spec_l9List.fs)], []⟩
noncomputable def H : List LC := []
theorem env : EnvOk Tryz.prog E := env_cons spec_l1In.known (env_cons spec_l9List.known (env_nil tys))
theorem loops : ∀ c, Tryz.f29.body = some c -> LoopsOk E H c := loops_none (by kernel_rfl)
theorem sound : Sound Tryz.prog 29 fs := fn_sound env mixed Tryz.func29 H loops fun ⟨x0, ()⟩ hw _ => (show runFn E H Tryz.f29 fs.ps fs.rs (x0, ()) = raw x0 from by kernel_rfl).trans (eq x0 hw)
theorem known : Seen Tryz.prog 29 fs := ⟨sound, _, Tryz.func29, by kernel_rfl, by kernel_rfl⟩
end spec_NoteOk
namespace spec_CmdBytes
noncomputable def fs : FS := ⟨[(.val tyS42 .f)], [((.sl 5 (.int .u8)), .o)], fun _ => true, fun x => ((), ((spec_CmdBytes x.1), ()))⟩
noncomputable def E : Env := ⟨theta, [(95, spec_CmdOk.fs), (308, spec_l7Nums.fs), (223, spec_PutText.fs)], []⟩
noncomputable def H : List LC := []
theorem env : EnvOk Tryz.prog E := env_cons spec_CmdOk.known (env_cons spec_l7Nums.known (env_cons spec_PutText.known (env_nil tys)))
theorem loops : ∀ c, Tryz.f222.body = some c -> LoopsOk E H c := loops_none (by kernel_rfl)
theorem sound : Sound Tryz.prog 222 fs := fn_sound env mixed Tryz.func222 H loops fun ⟨x0, ()⟩ hw _ => (show runFn E H Tryz.f222 fs.ps fs.rs (x0, ()) = raw x0 from by kernel_rfl).trans (eq x0 hw)
theorem known : Seen Tryz.prog 222 fs := ⟨sound, _, Tryz.func222, by kernel_rfl, by kernel_rfl⟩
end spec_CmdBytes
namespace spec_l9Body
noncomputable def ob1 : List (Nat × ShO) := [(0, (.box tyS46 (.dat tyS46))), (20000000, (.arr 5 (.int .u8)))]
noncomputable def fs : FS := ⟨[(.val tyS46 .f)], [((.sl 5 (.int .u8)), .o)], fun x => spec_l9Body.pre x.1, fun x => ((), ((spec_l9Body x.1), ()))⟩
noncomputable def E : Env := ⟨theta, [(114, spec_PutNum.fs), (223, spec_PutText.fs), (222, spec_CmdBytes.fs)], []⟩
noncomputable def sh6 : ShSt := ⟨(uu :: (.one (.bptr 0 [] tyS46)) :: uu :: (.one (.arr 20000000)) :: ui :: un 52 []), ob1⟩
noncomputable def outs6 : List OutC := [⟨(.exit 0), ⟨0, [1, 3], [(3, (5, (.int .u8)))]⟩, ⟨(uu :: (.one (.bptr 0 [] tyS46)) :: uu :: (.one (.arr 20000000)) :: un 53 []), ob1⟩⟩]
noncomputable def L6 : LC := ⟨6, ⟨6, [1, 3, 4], [(3, (5, (.int .u8)))]⟩, sh6, outs6, pre6, fn6⟩
noncomputable def H : List LC := [L6]
noncomputable def code (i : Nat) : Code := (loopsOf (bodyOf Tryz.f113)).getD i .skip
theorem lok6 : LoopOk E H (code 0) L6 := ⟨mu6, fun ⟨x1, x2, x3, ()⟩ hp => rounds_ok (show L6.step E H (code 0) (x1, (x2, (x3, ()))) = raw6 x1 x2 x3 from by kernel_rfl) (ok6 x1 x2 x3 hp)⟩
theorem env : EnvOk Tryz.prog E := env_cons spec_PutNum.known (env_cons spec_PutText.known (env_cons spec_CmdBytes.known (env_nil tys)))
theorem loops : ∀ c, Tryz.f113.body = some c -> LoopsOk E H c := loops_of (by kernel_rfl) (by kernel_rfl) fun i l h => match i, h with
  | 0, h => Option.some.inj h ▸ lok6
  | n + 1, h => by cases h
theorem sound : Sound Tryz.prog 113 fs := fn_sound env mixed Tryz.func113 H loops fun ⟨x0, ()⟩ hw hp => (show runFn E H Tryz.f113 fs.ps fs.rs (x0, ()) = raw x0 from by kernel_rfl).trans (eq x0 hw hp)
theorem known : Seen Tryz.prog 113 fs := ⟨sound, _, Tryz.func113, by kernel_rfl, by kernel_rfl⟩
end spec_l9Body
namespace spec_SumOf
noncomputable def fs : FS := ⟨[(.val (.sl 5 (.int .u8)) .f)], [((.int .i64), .o)], fun _ => true, fun x => ((), ((spec_SumOf x.1), ()))⟩
noncomputable def E : Env := ⟨theta, [], []⟩
noncomputable def sh3 : ShSt := ⟨((.one (.dat (.sl 5 (.int .u8)))) :: uu :: uu :: ui :: ui :: ui :: un 22 []), []⟩
noncomputable def outs3 : List OutC := [⟨(.exit 0), ⟨0, [3, 4], []⟩, ⟨(uu :: uu :: uu :: ui :: ui :: un 23 []), []⟩⟩]
noncomputable def L3 : LC := ⟨3, ⟨3, [0, 3, 4, 5], []⟩, sh3, outs3, pre3, fn3⟩
noncomputable def H : List LC := [L3]
noncomputable def code (i : Nat) : Code := (loopsOf (bodyOf Tryz.f31)).getD i .skip
theorem lok3 : LoopOk E H (code 0) L3 := ⟨mu3, fun ⟨x1, x2, x3, x4, ()⟩ hp => rounds_ok (show L3.step E H (code 0) (x1, (x2, (x3, (x4, ())))) = raw3 x1 x2 x3 x4 from by kernel_rfl) (ok3 x1 x2 x3 x4 hp)⟩
theorem env : EnvOk Tryz.prog E := env_nil tys
theorem loops : ∀ c, Tryz.f31.body = some c -> LoopsOk E H c := loops_of (by kernel_rfl) (by kernel_rfl) fun i l h => match i, h with
  | 0, h => Option.some.inj h ▸ lok3
  | n + 1, h => by cases h
theorem sound : Sound Tryz.prog 31 fs := fn_sound env mixed Tryz.func31 H loops fun ⟨x0, ()⟩ hw _ => (show runFn E H Tryz.f31 fs.ps fs.rs (x0, ()) = raw x0 from by kernel_rfl).trans (eq x0 hw)
theorem known : Seen Tryz.prog 31 fs := ⟨sound, _, Tryz.func31, by kernel_rfl, by kernel_rfl⟩
end spec_SumOf
namespace spec_l9Sum
noncomputable def fs : FS := ⟨[(.val (.sl 5 (.int .u8)) .f)], [((.sl 5 (.int .u8)), .o)], fun _ => true, fun x => ((), ((spec_l9Sum x.1), ()))⟩
noncomputable def E : Env := ⟨theta, [(31, spec_SumOf.fs)], []⟩
noncomputable def H : List LC := []
theorem env : EnvOk Tryz.prog E := env_cons spec_SumOf.known (env_nil tys)
theorem loops : ∀ c, Tryz.f115.body = some c -> LoopsOk E H c := loops_none (by kernel_rfl)
theorem sound : Sound Tryz.prog 115 fs := fn_sound env mixed Tryz.func115 H loops fun ⟨x0, ()⟩ hw _ => (show runFn E H Tryz.f115 fs.ps fs.rs (x0, ()) = raw x0 from by kernel_rfl).trans (eq x0 hw)
theorem known : Seen Tryz.prog 115 fs := ⟨sound, _, Tryz.func115, by kernel_rfl, by kernel_rfl⟩
end spec_l9Sum
namespace spec_NoteBytes
noncomputable def fs : FS := ⟨[(.val tyS46 .f)], [((.sl 5 (.int .u8)), .o)], fun _ => true, fun x => ((), ((spec_NoteBytes x.1), ()))⟩
noncomputable def E : Env := ⟨theta, [(114, spec_PutNum.fs), (29, spec_NoteOk.fs), (113, spec_l9Body.fs), (115, spec_l9Sum.fs)], []⟩
noncomputable def H : List LC := []
theorem env : EnvOk Tryz.prog E := env_cons spec_PutNum.known (env_cons spec_NoteOk.known (env_cons spec_l9Body.known (env_cons spec_l9Sum.known (env_nil tys))))
theorem loops : ∀ c, Tryz.f27.body = some c -> LoopsOk E H c := loops_none (by kernel_rfl)
theorem sound : Sound Tryz.prog 27 fs := fn_sound env mixed Tryz.func27 H loops fun ⟨x0, ()⟩ hw _ => (show runFn E H Tryz.f27 fs.ps fs.rs (x0, ()) = raw x0 from by kernel_rfl).trans (eq x0 hw)
theorem known : Seen Tryz.prog 27 fs := ⟨sound, _, Tryz.func27, by kernel_rfl, by kernel_rfl⟩
end spec_NoteBytes
namespace spec_l9DrawBytes
noncomputable def ob1 : List (Nat × ShO) := [(10000000, (.box (.pair (.sl 5 (.int .u8)) tyS47) (.dat (.pair (.sl 5 (.int .u8)) tyS47)))), (20000000, (.arr 5 (.int .u8)))]
noncomputable def fs : FS := ⟨[(.ref (.pair (.sl 5 (.int .u8)) tyS47) .f)], [((.sl 5 (.int .u8)), .o)], fun x => spec_l9DrawBytes.pre x.1, fun x => (((spec_l9DrawBytes x.1).1, ()), ((spec_l9DrawBytes x.1).2, ()))⟩
noncomputable def E : Env := ⟨theta, [(125, spec_l1Below.fs), (120, spec_l9DrawRight.fs), (27, spec_NoteBytes.fs)], []⟩
noncomputable def sh3 : ShSt := ⟨((.one (.bptr 10000000 [] (.pair (.sl 5 (.int .u8)) tyS47))) :: uu :: uu :: (.one (.arr 20000000)) :: ui :: un 13 []), ob1⟩
noncomputable def outs3 : List OutC := [⟨(.exit 0), ⟨0, [3, 0], [(3, (5, (.int .u8)))]⟩, ⟨((.one (.bptr 10000000 [] (.pair (.sl 5 (.int .u8)) tyS47))) :: uu :: uu :: (.one (.arr 20000000)) :: un 14 []), ob1⟩⟩]
noncomputable def L3 : LC := ⟨3, ⟨3, [0, 3, 4], [(3, (5, (.int .u8)))]⟩, sh3, outs3, pre3, fn3⟩
noncomputable def H : List LC := [L3]
noncomputable def code (i : Nat) : Code := (loopsOf (bodyOf Tryz.f106)).getD i .skip
theorem lok3 : LoopOk E H (code 0) L3 := ⟨mu3, fun ⟨x1, x2, x3, ()⟩ hp => rounds_ok (show L3.step E H (code 0) (x1, (x2, (x3, ()))) = raw3 x1 x2 x3 from by kernel_rfl) (ok3 x1 x2 x3 hp)⟩
theorem env : EnvOk Tryz.prog E := env_cons spec_l1Below.known (env_cons spec_l9DrawRight.known (env_cons spec_NoteBytes.known (env_nil tys)))
theorem loops : ∀ c, Tryz.f106.body = some c -> LoopsOk E H c := loops_of (by kernel_rfl) (by kernel_rfl) fun i l h => match i, h with
  | 0, h => Option.some.inj h ▸ lok3
  | n + 1, h => by cases h
theorem sound : Sound Tryz.prog 106 fs := fn_sound env mixed Tryz.func106 H loops fun ⟨x0, ()⟩ hw hp => (show runFn E H Tryz.f106 fs.ps fs.rs (x0, ()) = raw x0 from by kernel_rfl).trans (eq x0 hw hp)
theorem known : Seen Tryz.prog 106 fs := ⟨sound, _, Tryz.func106, by kernel_rfl, by kernel_rfl⟩
end spec_l9DrawBytes
namespace impl_within
noncomputable def fs : FS := ⟨[(.val (.int .i64) .f), (.val (.int .i64) .f), (.val (.int .i64) .f)], [(.bool, .o)], fun _ => true, fun x => ((), ((impl_within x.1 x.2.1 x.2.2.1), ()))⟩
noncomputable def E : Env := ⟨theta, [], []⟩
noncomputable def H : List LC := []
theorem env : EnvOk Tryz.prog E := env_nil tys
theorem loops : ∀ c, Tryz.f101.body = some c -> LoopsOk E H c := loops_none (by kernel_rfl)
theorem sound : Sound Tryz.prog 101 fs := fn_sound env mixed Tryz.func101 H loops fun ⟨x0, x1, x2, ()⟩ hw _ => (show runFn E H Tryz.f101 fs.ps fs.rs (x0, (x1, (x2, ()))) = raw x0 x1 x2 from by kernel_rfl).trans (eq x0 x1 x2 hw)
theorem known : Seen Tryz.prog 101 fs := ⟨sound, _, Tryz.func101, by kernel_rfl, by kernel_rfl⟩
end impl_within
namespace spec_l7Dent
noncomputable def fs : FS := ⟨[(.ref (.pair (.sl 5 (.int .u8)) tyS47) .f), (.val (.sl 5 (.int .u8)) .o)], [((.sl 5 (.int .u8)), .o)], fun x => spec_l7Dent.pre x.1 x.2.1, fun x => (((spec_l7Dent x.1 x.2.1).1, ()), ((spec_l7Dent x.1 x.2.1).2, ()))⟩
noncomputable def E : Env := ⟨theta, [(125, spec_l1Below.fs), (121, spec_l1PickInt.fs)], []⟩
noncomputable def H : List LC := []
theorem env : EnvOk Tryz.prog E := env_cons spec_l1Below.known (env_cons spec_l1PickInt.known (env_nil tys))
theorem loops : ∀ c, Tryz.f105.body = some c -> LoopsOk E H c := loops_none (by kernel_rfl)
theorem sound : Sound Tryz.prog 105 fs := fn_sound env mixed Tryz.func105 H loops fun ⟨x0, x1, ()⟩ hw hp => (show runFn E H Tryz.f105 fs.ps fs.rs (x0, (x1, ())) = raw x0 x1 from by kernel_rfl).trans (eq x0 x1 hw hp)
theorem known : Seen Tryz.prog 105 fs := ⟨sound, _, Tryz.func105, by kernel_rfl, by kernel_rfl⟩
end spec_l7Dent
namespace spec_DrawNoteOf
noncomputable def fs : FS := ⟨[(.val (.sl 5 (.int .u8)) .f)], [((.sl 5 (.int .u8)), .o), ((.int .i64), .o)], fun x => spec_DrawNoteOf.pre x.1, fun x => ((), ((spec_DrawNoteOf x.1).1, ((spec_DrawNoteOf x.1).2, ())))⟩
noncomputable def E : Env := ⟨theta, [(89, spec_l1New.fs), (121, spec_l1PickInt.fs), (120, spec_l9DrawRight.fs), (27, spec_NoteBytes.fs), (106, spec_l9DrawBytes.fs), (105, spec_l7Dent.fs)], []⟩
noncomputable def H : List LC := []
theorem env : EnvOk Tryz.prog E := env_cons spec_l1New.known (env_cons spec_l1PickInt.known (env_cons spec_l9DrawRight.known (env_cons spec_NoteBytes.known (env_cons spec_l9DrawBytes.known (env_cons spec_l7Dent.known (env_nil tys))))))
theorem loops : ∀ c, Tryz.f32.body = some c -> LoopsOk E H c := loops_none (by kernel_rfl)
theorem sound : Sound Tryz.prog 32 fs := fn_sound env mixed Tryz.func32 H loops fun ⟨x0, ()⟩ hw hp => (show runFn E H Tryz.f32 fs.ps fs.rs (x0, ()) = raw x0 from by kernel_rfl).trans (eq x0 hw hp)
theorem known : Seen Tryz.prog 32 fs := ⟨sound, _, Tryz.func32, by kernel_rfl, by kernel_rfl⟩
end spec_DrawNoteOf
namespace spec_GetNum
noncomputable def fs : FS := ⟨[(.val (.sl 5 (.int .u8)) .f), (.val (.int .i64) .f)], [((.int .i64), .o), ((.int .i64), .o), (.bool, .o)], fun _ => true, fun x => ((), ((spec_GetNum x.1 x.2.1).1, ((spec_GetNum x.1 x.2.1).2.1, ((spec_GetNum x.1 x.2.1).2.2, ()))))⟩
noncomputable def E : Env := ⟨theta, [], []⟩
noncomputable def sh3 : ShSt := ⟨((.one (.dat (.sl 5 (.int .u8)))) :: ui :: un 5 (ui :: ui :: un 46 [])), []⟩
noncomputable def outs3 : List OutC := [⟨.ret, ⟨0, [4, 5, 6], []⟩, ⟨(un 4 (ui :: ui :: (.one (.dat .bool)) :: un 48 [])), []⟩⟩, ⟨(.exit 0), ⟨0, [], []⟩, ⟨(un 55 []), []⟩⟩]
noncomputable def L3 : LC := ⟨3, ⟨3, [0, 1, 7, 8], []⟩, sh3, outs3, pre3, fn3⟩
noncomputable def H : List LC := [L3]
noncomputable def code (i : Nat) : Code := (loopsOf (bodyOf Tryz.f123)).getD i .skip
theorem lok3 : LoopOk E H (code 0) L3 := ⟨mu3, fun ⟨x1, x2, x3, x4, ()⟩ hp => rounds_ok (show L3.step E H (code 0) (x1, (x2, (x3, (x4, ())))) = raw3 x1 x2 x3 x4 from by kernel_rfl) (ok3 x1 x2 x3 x4 hp)⟩
theorem env : EnvOk Tryz.prog E := env_nil tys
theorem loops : ∀ c, Tryz.f123.body = some c -> LoopsOk E H c := loops_of (by kernel_rfl) (by kernel_rfl) fun i l h => match i, h with
  | 0, h => Option.some.inj h ▸ lok3
  | n + 1, h => by cases h
theorem sound : Sound Tryz.prog 123 fs := fn_sound env mixed Tryz.func123 H loops fun ⟨x0, x1, ()⟩ hw _ => (show runFn E H Tryz.f123 fs.ps fs.rs (x0, (x1, ())) = raw x0 x1 from by kernel_rfl).trans (eq x0 x1 hw)
theorem known : Seen Tryz.prog 123 fs := ⟨sound, _, Tryz.func123, by kernel_rfl, by kernel_rfl⟩
end spec_GetNum
namespace spec_l7Num
noncomputable def fs : FS := ⟨[(.ref tyS410 .f)], [((.int .i64), .o)], fun _ => true, fun x => (((spec_l7Num x.1).1, ()), ((spec_l7Num x.1).2, ()))⟩
noncomputable def E : Env := ⟨theta, [(123, spec_GetNum.fs)], []⟩
noncomputable def H : List LC := []
theorem env : EnvOk Tryz.prog E := env_cons spec_GetNum.known (env_nil tys)
theorem loops : ∀ c, Tryz.f233.body = some c -> LoopsOk E H c := loops_none (by kernel_rfl)
theorem sound : Sound Tryz.prog 233 fs := fn_sound env mixed Tryz.func233 H loops fun ⟨x0, ()⟩ hw _ => (show runFn E H Tryz.f233 fs.ps fs.rs (x0, ()) = raw x0 from by kernel_rfl).trans (eq x0 hw)
theorem known : Seen Tryz.prog 233 fs := ⟨sound, _, Tryz.func233, by kernel_rfl, by kernel_rfl⟩
end spec_l7Num
namespace spec_GetText
noncomputable def fs : FS := ⟨[(.val (.sl 5 (.int .u8)) .f), (.val (.int .i64) .f)], [(.str, .o), ((.int .i64), .o), (.bool, .o)], fun _ => true, fun x => ((), ((spec_GetText x.1 x.2.1).1, ((spec_GetText x.1 x.2.1).2.1, ((spec_GetText x.1 x.2.1).2.2, ()))))⟩
noncomputable def E : Env := ⟨theta, [(123, spec_GetNum.fs)], []⟩
noncomputable def H : List LC := []
theorem env : EnvOk Tryz.prog E := env_cons spec_GetNum.known (env_nil tys)
theorem loops : ∀ c, Tryz.f310.body = some c -> LoopsOk E H c := loops_none (by kernel_rfl)
theorem sound : Sound Tryz.prog 310 fs := fn_sound env mixed Tryz.func310 H loops fun ⟨x0, x1, ()⟩ hw _ => (show runFn E H Tryz.f310 fs.ps fs.rs (x0, (x1, ())) = raw x0 x1 from by kernel_rfl).trans (eq x0 x1 hw)
theorem known : Seen Tryz.prog 310 fs := ⟨sound, _, Tryz.func310, by kernel_rfl, by kernel_rfl⟩
end spec_GetText
namespace spec_l7Text
noncomputable def fs : FS := ⟨[(.ref tyS410 .f)], [(.str, .o)], fun _ => true, fun x => (((spec_l7Text x.1).1, ()), ((spec_l7Text x.1).2, ()))⟩
noncomputable def E : Env := ⟨theta, [(310, spec_GetText.fs)], []⟩
noncomputable def H : List LC := []
theorem env : EnvOk Tryz.prog E := env_cons spec_GetText.known (env_nil tys)
theorem loops : ∀ c, Tryz.f235.body = some c -> LoopsOk E H c := loops_none (by kernel_rfl)
theorem sound : Sound Tryz.prog 235 fs := fn_sound env mixed Tryz.func235 H loops fun ⟨x0, ()⟩ hw _ => (show runFn E H Tryz.f235 fs.ps fs.rs (x0, ()) = raw x0 from by kernel_rfl).trans (eq x0 hw)
theorem known : Seen Tryz.prog 235 fs := ⟨sound, _, Tryz.func235, by kernel_rfl, by kernel_rfl⟩
end spec_l7Text
namespace spec_l7Cmd
noncomputable def fs : FS := ⟨[(.ref tyS410 .f)], [(tyS42, .o)], fun _ => true, fun x => (((spec_l7Cmd x.1).1, ()), ((spec_l7Cmd x.1).2, ()))⟩
noncomputable def E : Env := ⟨theta, [(233, spec_l7Num.fs), (235, spec_l7Text.fs)], []⟩
noncomputable def H : List LC := []
theorem env : EnvOk Tryz.prog E := env_cons spec_l7Num.known (env_cons spec_l7Text.known (env_nil tys))
theorem loops : ∀ c, Tryz.f234.body = some c -> LoopsOk E H c := loops_none (by kernel_rfl)
theorem sound : Sound Tryz.prog 234 fs := fn_sound env mixed Tryz.func234 H loops fun ⟨x0, ()⟩ hw _ => (show runFn E H Tryz.f234 fs.ps fs.rs (x0, ()) = raw x0 from by kernel_rfl).trans (eq x0 hw)
theorem known : Seen Tryz.prog 234 fs := ⟨sound, _, Tryz.func234, by kernel_rfl, by kernel_rfl⟩
end spec_l7Cmd
namespace spec_l9Read
noncomputable def ob1 : List (Nat × ShO) := [(10000000, (.box tyS410 (.dat tyS410))), (0, (.box tyS46 (.pair (.dat (.int .i64)) (.pair (.dat (.int .i64)) (.pair (.dat (.int .i64)) (.pair (.dat (.int .i64)) (.pair (.arr 20000000) (.dat (.pair .str .unit))))))))), (20000000, (.arr 167 (.pair (.int .i64) (.pair tyS42 .unit)))), (8224, (.box tyS46 (.pair (.dat (.int .i64)) (.pair (.dat (.int .i64)) (.pair (.dat (.int .i64)) (.pair (.dat (.int .i64)) (.pair (.arr 20000001) (.dat (.pair .str .unit))))))))), (20000001, (.arr 167 (.pair (.int .i64) (.pair tyS42 .unit))))]
noncomputable def fs : FS := ⟨[(.ref tyS410 .f)], [(tyS46, .o)], fun x => spec_l9Read.pre x.1, fun x => (((spec_l9Read x.1).1, ()), ((spec_l9Read x.1).2, ()))⟩
noncomputable def E : Env := ⟨theta, [(233, spec_l7Num.fs), (235, spec_l7Text.fs), (234, spec_l7Cmd.fs)], []⟩
noncomputable def sh8 : ShSt := ⟨((.one (.bptr 10000000 [] tyS410)) :: uu :: (.one (.bptr 0 [] tyS46)) :: (.one (.bptr 8224 [] tyS46)) :: ui :: ui :: un 45 []), ob1⟩
noncomputable def outs8 : List OutC := [⟨(.exit 0), ⟨0, [0, 2, 3], []⟩, ⟨((.one (.bptr 10000000 [] tyS410)) :: uu :: (.one (.bptr 0 [] tyS46)) :: (.one (.bptr 8224 [] tyS46)) :: un 47 []), ob1⟩⟩]
noncomputable def L8 : LC := ⟨8, ⟨8, [0, 2, 3, 4, 5], []⟩, sh8, outs8, pre8, fn8⟩
noncomputable def H : List LC := [L8]
noncomputable def code (i : Nat) : Code := (loopsOf (bodyOf Tryz.f124)).getD i .skip
theorem lok8 : LoopOk E H (code 0) L8 := ⟨mu8, fun ⟨x1, x2, x3, x4, x5, x6, x7, x8, x9, x10, x11, x12, x13, x14, x15, ()⟩ hp => rounds_ok (show L8.step E H (code 0) (x1, (x2, (x3, (x4, (x5, (x6, (x7, (x8, (x9, (x10, (x11, (x12, (x13, (x14, (x15, ()))))))))))))))) = raw8 x1 x2 x3 x4 x5 x6 x7 x8 x9 x10 x11 x12 x13 x14 x15 from by kernel_rfl) (ok8 x1 x2 x3 x4 x5 x6 x7 x8 x9 x10 x11 x12 x13 x14 x15 hp)⟩
theorem env : EnvOk Tryz.prog E := env_cons spec_l7Num.known (env_cons spec_l7Text.known (env_cons spec_l7Cmd.known (env_nil tys)))
theorem loops : ∀ c, Tryz.f124.body = some c -> LoopsOk E H c := loops_of (by kernel_rfl) (by kernel_rfl) fun i l h => match i, h with
  | 0, h => Option.some.inj h ▸ lok8
  | n + 1, h => by cases h
theorem sound : Sound Tryz.prog 124 fs := fn_sound env mixed Tryz.func124 H loops fun ⟨x0, ()⟩ hw hp => (show runFn E H Tryz.f124 fs.ps fs.rs (x0, ()) = raw x0 from by kernel_rfl).trans (eq x0 hw hp)
theorem known : Seen Tryz.prog 124 fs := ⟨sound, _, Tryz.func124, by kernel_rfl, by kernel_rfl⟩
end spec_l9Read
end
end Go.Aw.Pl
