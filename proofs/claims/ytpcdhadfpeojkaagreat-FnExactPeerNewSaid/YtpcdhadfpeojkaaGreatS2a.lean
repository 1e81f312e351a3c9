/-
  These laws hold: FnExactPeerNew: each answers true for every input, and nothing of its arguments is changed. Conditions: those of the given statements alone.
  Printed by a program of the proof's author: what each function does, by the plain machine (the texts Aw.. and Ax..), and the rows at the end.
-/
import Derived.Test.YtpcdhadfpeojkaaGreatRows
import Derived.JoinedOf
import Derived.Test.YtpcdhadfpeojkaaGreatPnb
namespace Go.Aw.Pl
open Go Go.Aw Go.Proofs
set_option linter.unusedVariables false
set_option maxRecDepth 20000
set_option maxHeartbeats 2000000
noncomputable section
noncomputable abbrev uu : ShS := .one .undef
noncomputable abbrev ui : ShS := .one (.dat (.int .i64))
noncomputable def un : Nat → List ShS → List ShS
  | 0, l => l
  | n + 1, l => uu :: un n l
abbrev tyS24 : Ty := .pair (.int .i64) (.pair (.int .i64) .unit)
abbrev tyS25 : Ty := .pair (.int .i64) (.pair (.sl 3 (.int .i64)) (.pair (.sl 3 (.int .i64)) (.pair (.sl 3 (.int .i64)) .unit)))
abbrev tyS28 : Ty := .pair (.int .i64) (.pair (.int .i64) (.pair (.int .i64) (.pair (.int .i64) (.pair (.sl 254 tyS24) .unit))))
abbrev tyS29 : Ty := .pair (.int .i64) (.pair (.int .i64) (.pair .str (.pair .str .unit)))
abbrev tyS22 : Ty := .pair (.int .i64) (.pair (.pair (.int .i64) (.pair (.int .i64) (.pair (.int .i64) (.pair (.int .i64) tyS29)))) .unit)
abbrev tyS26 : Ty := .pair (.int .i64) (.pair (.int .i64) (.pair (.int .i64) (.pair (.int .i64) (.pair (.int .i64) (.pair (.int .i64) (.pair (.int .i64) (.pair (.sl 167 tyS22) (.pair .bool (.pair .str .unit)))))))))
abbrev tyS211 : Ty := .pair (.int .i64) (.pair (.int .i64) tyS24)
abbrev tyS212 : Ty := .pair (.int .i64) (.pair (.int .i64) (.pair (.sl 167 tyS22) .unit))
abbrev tyS213 : Ty := .pair (.int .i64) (.pair .str (.pair .str tyS24))
abbrev tyS27 : Ty := .pair (.int .i64) (.pair (.int .i64) (.pair (.sl 44 tyS213) .unit))
abbrev tyS21 : Ty := .pair (.sl 42 tyS27) (.pair (.sl 156 tyS28) (.pair (.sl 159 tyS25) (.pair (.int .i64) (.pair (.sl 3 (.int .i64)) (.pair (.sl 48 tyS29) .unit)))))
abbrev tyS23 : Ty := .pair (.int .i64) (.pair (.pair (.int .i64) (.pair (.int .i64) (.pair tyS212 (.pair tyS21 .unit)))) (.pair (.int .i64) (.pair (.sl 4 .bool) (.pair (.sl 3 (.int .i64)) (.pair (.sl 3 (.int .i64)) (.pair (.int .i64) (.pair tyS21 (.pair (.pair (.sl 5 (.int .u8)) (.pair (.int .i64) .unit)) (.pair (.sl 113 tyS26) .unit)))))))))
abbrev tyS210 : Ty := .pair (.sl 325 (.pair (.int .i64) (.pair (.int .i64) (.pair (.sl 380 tyS213) .unit)))) (.pair (.sl 329 (.pair (.int .i64) (.pair (.int .i64) (.pair (.int .i64) (.pair (.int .i64) (.pair (.sl 383 tyS24) .unit)))))) (.pair (.sl 331 tyS25) (.pair (.int .i64) (.pair (.sl 3 (.int .i64)) (.pair (.sl 333 tyS29) .unit)))))
abbrev tyS214 : Ty := .pair (.int .i64) (.pair (.int .i64) (.pair (.int .i64) (.pair (.int .i64) (.pair (.int .i64) (.pair (.int .i64) (.pair (.int .i64) (.pair (.sl 293 tyS22) (.pair .bool (.pair .str .unit)))))))))
noncomputable def theta : List (TypeId × Ty) := [(1, .op),
  (2, (.int .i64)),
  (3, (.int .i64)),
  (4, .bool),
  (5, (.int .u8)),
  (6, (.int .u8)),
  (7, (.pair (.int .i64) (.pair (.int .i64) (.pair .bool (.pair (.int .u8) .unit))))),
  (8, (.pair (.int .i64) (.pair (.int .i64) (.pair .bool (.pair (.int .u8) .unit))))),
  (9, .str),
  (10, .str),
  (11, .str),
  (12, (.int .u64)),
  (15, .op),
  (16, .op),
  (17, .op),
  (21, (.int .i32)),
  (22, (.sl 5 (.int .u8))),
  (23, .op),
  (24, tyS211),
  (25, tyS211),
  (26, (.sl 46 (.pair (.int .i64) (.pair (.int .i64) (.pair (.int .i64) (.pair (.int .i64) tyS29)))))),
  (28, .op),
  (29, (.sl 42 tyS27)),
  (30, (.sl 156 tyS28)),
  (31, (.sl 159 tyS25)),
  (32, (.sl 3 (.int .i64))),
  (33, (.sl 48 tyS29)),
  (34, tyS21),
  (35, tyS21),
  (37, .op),
  (38, .op),
  (39, .op),
  (40, (.sl 44 tyS213)),
  (41, tyS27),
  (42, tyS27),
  (43, tyS213),
  (44, tyS213),
  (45, (.pair (.int .i64) (.pair (.int .i64) (.pair (.int .i64) (.pair (.int .i64) tyS29))))),
  (46, (.pair (.int .i64) (.pair (.int .i64) (.pair (.int .i64) (.pair (.int .i64) tyS29))))),
  (47, tyS29),
  (48, tyS29),
  (50, .op),
  (51, .op),
  (52, (.sl 58 (.pair (.int .i64) (.pair (.int .i64) (.pair (.int .i64) (.pair (.int .i64) (.pair (.sl 167 tyS22) (.pair .str .unit)))))))),
  (54, .op),
  (55, .op),
  (56, (.sl 167 tyS22)),
  (57, (.pair (.int .i64) (.pair (.int .i64) (.pair (.int .i64) (.pair (.int .i64) (.pair (.sl 167 tyS22) (.pair .str .unit))))))),
  (58, (.pair (.int .i64) (.pair (.int .i64) (.pair (.int .i64) (.pair (.int .i64) (.pair (.sl 167 tyS22) (.pair .str .unit))))))),
  (59, .op),
  (60, .op),
  (61, .op),
  (62, .op),
  (64, .op),
  (66, .op),
  (68, .op),
  (69, .op),
  (70, .op),
  (71, .op),
  (72, .op),
  (73, .op),
  (74, tyS211),
  (75, tyS212),
  (76, tyS212),
  (77, (.pair (.int .i64) (.pair (.int .i64) (.pair tyS212 (.pair tyS21 .unit))))),
  (78, (.pair (.int .i64) (.pair (.int .i64) (.pair tyS212 (.pair tyS21 .unit))))),
  (79, (.sl 4 .bool)),
  (80, (.pair (.sl 5 (.int .u8)) (.pair (.int .i64) .unit))),
  (81, (.pair (.sl 5 (.int .u8)) (.pair (.int .i64) .unit))),
  (82, (.sl 113 tyS26)),
  (83, tyS23),
  (84, tyS23),
  (86, .op),
  (87, .op),
  (88, .op),
  (89, .op),
  (90, .op),
  (91, (.sl 293 tyS22)),
  (92, (.pair (.int .i64) (.pair (.int .i64) (.pair (.sl 293 tyS22) .unit)))),
  (93, (.pair (.int .i64) (.pair (.int .i64) (.pair (.sl 293 tyS22) .unit)))),
  (94, (.sl 325 (.pair (.int .i64) (.pair (.int .i64) (.pair (.sl 380 tyS213) .unit))))),
  (95, (.sl 329 (.pair (.int .i64) (.pair (.int .i64) (.pair (.int .i64) (.pair (.int .i64) (.pair (.sl 383 tyS24) .unit))))))),
  (96, (.sl 331 tyS25)),
  (97, (.sl 333 tyS29)),
  (98, tyS210),
  (99, tyS210),
  (100, (.pair (.int .i64) (.pair (.int .i64) (.pair (.pair (.int .i64) (.pair (.int .i64) (.pair (.sl 293 tyS22) .unit))) (.pair tyS210 .unit))))),
  (101, (.pair (.int .i64) (.pair (.int .i64) (.pair (.pair (.int .i64) (.pair (.int .i64) (.pair (.sl 293 tyS22) .unit))) (.pair tyS210 .unit))))),
  (102, (.pair (.sl 5 (.int .u8)) (.pair (.int .i64) .unit))),
  (103, (.sl 107 tyS214)),
  (104, (.pair (.int .i64) (.pair (.pair (.int .i64) (.pair (.int .i64) (.pair (.pair (.int .i64) (.pair (.int .i64) (.pair (.sl 293 tyS22) .unit))) (.pair tyS210 .unit)))) (.pair (.int .i64) (.pair (.sl 4 .bool) (.pair (.sl 3 (.int .i64)) (.pair (.sl 3 (.int .i64)) (.pair (.int .i64) (.pair tyS210 (.pair (.pair (.sl 5 (.int .u8)) (.pair (.int .i64) .unit)) (.pair (.sl 107 tyS214) .unit))))))))))),
  (105, (.pair (.int .i64) (.pair (.pair (.int .i64) (.pair (.int .i64) (.pair (.pair (.int .i64) (.pair (.int .i64) (.pair (.sl 293 tyS22) .unit))) (.pair tyS210 .unit)))) (.pair (.int .i64) (.pair (.sl 4 .bool) (.pair (.sl 3 (.int .i64)) (.pair (.sl 3 (.int .i64)) (.pair (.int .i64) (.pair tyS210 (.pair (.pair (.sl 5 (.int .u8)) (.pair (.int .i64) .unit)) (.pair (.sl 107 tyS214) .unit))))))))))),
  (106, tyS214),
  (107, tyS214),
  (108, .op),
  (109, .op),
  (110, .op),
  (111, .op),
  (112, tyS26),
  (113, tyS26),
  (114, .op),
  (115, .op),
  (116, .op),
  (117, .op),
  (118, (.sl 225 (.pair (.int .i64) (.pair (.int .i64) (.pair (.int .i64) (.pair (.int .i64) tyS29)))))),
  (119, .op),
  (120, .op),
  (121, .op),
  (122, .op),
  (123, .op),
  (124, .op),
  (125, .op),
  (126, .op),
  (127, .op),
  (128, .op),
  (129, .op),
  (130, .op),
  (131, .op),
  (133, .op),
  (134, .op),
  (135, .op),
  (137, .op),
  (138, .op),
  (140, .op),
  (141, .op),
  (142, .op),
  (143, .op),
  (144, .op),
  (145, .op),
  (146, .op),
  (147, .op),
  (148, .op),
  (149, .op),
  (150, .op),
  (151, .op),
  (152, .op),
  (153, .op),
  (154, (.sl 254 tyS24)),
  (155, tyS28),
  (156, tyS28),
  (157, .op),
  (158, tyS25),
  (159, tyS25),
  (160, .op),
  (161, .op),
  (162, .op),
  (163, .op),
  (164, .op),
  (165, .op),
  (166, tyS22),
  (167, tyS22),
  (168, .op),
  (169, .op),
  (170, .op),
  (171, (.int .u64)),
  (172, .op),
  (173, .op),
  (174, .op),
  (175, .op),
  (176, .op),
  (177, .op),
  (179, .op),
  (180, .op),
  (181, (.pair (.sl 5 (.int .u8)) (.pair (.int .i64) (.pair .bool .unit)))),
  (182, (.pair (.sl 5 (.int .u8)) (.pair (.int .i64) (.pair .bool .unit)))),
  (183, .op),
  (184, .op),
  (185, .op),
  (186, (.sl 9 .str)),
  (187, .op),
  (188, .op),
  (189, .op),
  (190, .op),
  (191, .op),
  (192, .op),
  (193, .op),
  (194, .op),
  (195, .op),
  (196, .op),
  (197, .op),
  (198, .op),
  (199, .op),
  (200, .op),
  (201, .op),
  (202, .op),
  (203, .op),
  (204, .op),
  (205, .op),
  (206, .op),
  (207, .op),
  (208, .op),
  (209, .op),
  (210, .op),
  (211, .op),
  (212, .op),
  (213, .op),
  (214, .op),
  (215, .op),
  (216, .op),
  (217, .op),
  (218, .op),
  (219, .op),
  (220, .op),
  (221, .op),
  (222, .op),
  (223, .op),
  (224, .op),
  (225, (.pair (.int .i64) (.pair (.int .i64) (.pair (.int .i64) (.pair (.int .i64) tyS29))))),
  (226, .op),
  (227, .op),
  (228, .op),
  (229, .op),
  (230, .op),
  (231, .op),
  (232, .op),
  (233, .op),
  (234, .op),
  (235, .op),
  (236, .op),
  (237, .op),
  (238, .op),
  (239, .op),
  (240, .op),
  (242, .op),
  (243, .op),
  (244, .op),
  (246, .op),
  (248, .op),
  (249, .op),
  (250, (.pair (.sl 5 (.int .u8)) tyS24)),
  (251, (.pair (.sl 5 (.int .u8)) tyS24)),
  (252, .op),
  (253, tyS24),
  (254, tyS24),
  (255, .op),
  (256, .op),
  (257, .op),
  (258, .op),
  (259, (.sl 22 (.sl 5 (.int .u8)))),
  (260, .op),
  (261, .op),
  (263, .op),
  (264, .op),
  (265, .op),
  (266, .op),
  (267, (.pair (.sl 5 (.int .u8)) (.pair (.int .i64) (.pair .bool .unit)))),
  (268, (.pair (.sl 5 (.int .u8)) (.pair (.int .i64) (.pair .bool .unit)))),
  (269, .op),
  (270, .op),
  (271, .op),
  (272, .op),
  (273, .op),
  (274, .op),
  (275, .op),
  (276, .op),
  (277, .op),
  (278, .op),
  (279, .op),
  (280, .op),
  (281, .op),
  (282, .op),
  (283, .op),
  (284, .op),
  (285, .op),
  (286, .op),
  (287, .op),
  (288, .op),
  (289, .op),
  (290, .op),
  (291, .op),
  (292, tyS22),
  (293, tyS22),
  (294, .op),
  (295, .op),
  (296, .op),
  (297, .op),
  (298, .op),
  (299, .op),
  (300, .op),
  (301, .op),
  (302, .op),
  (303, .op),
  (304, .op),
  (305, .op),
  (306, .op),
  (307, .op),
  (308, .op),
  (309, .op),
  (310, .op),
  (311, .op),
  (312, .op),
  (313, .op),
  (314, .op),
  (315, .op),
  (316, .op),
  (317, .op),
  (319, .op),
  (320, .op),
  (321, .op),
  (322, .op),
  (323, (.sl 380 tyS213)),
  (324, (.pair (.int .i64) (.pair (.int .i64) (.pair (.sl 380 tyS213) .unit)))),
  (325, (.pair (.int .i64) (.pair (.int .i64) (.pair (.sl 380 tyS213) .unit)))),
  (326, .op),
  (327, (.sl 383 tyS24)),
  (328, (.pair (.int .i64) (.pair (.int .i64) (.pair (.int .i64) (.pair (.int .i64) (.pair (.sl 383 tyS24) .unit)))))),
  (329, (.pair (.int .i64) (.pair (.int .i64) (.pair (.int .i64) (.pair (.int .i64) (.pair (.sl 383 tyS24) .unit)))))),
  (330, .op),
  (331, tyS25),
  (332, .op),
  (333, tyS29),
  (334, .op),
  (335, .op),
  (336, .op),
  (337, .op),
  (338, .op),
  (339, .op),
  (340, .op),
  (341, .op),
  (343, .op),
  (344, .op),
  (345, .op),
  (346, .op),
  (347, .op),
  (348, .op),
  (350, .op),
  (351, .op),
  (353, .op),
  (354, .op),
  (355, .op),
  (356, .op),
  (357, .op),
  (358, .op),
  (359, .op),
  (360, .op),
  (361, .op),
  (362, .op),
  (363, .op),
  (364, .op),
  (365, .op),
  (367, .op),
  (368, .op),
  (369, .op),
  (370, .op),
  (371, .op),
  (372, .op),
  (373, .op),
  (374, .op),
  (375, .op),
  (376, .op),
  (377, .op),
  (378, .op),
  (379, .op),
  (380, tyS213),
  (381, .op),
  (382, .op),
  (383, tyS24),
  (384, .op),
  (385, .op),
  (386, .op),
  (392, (.int .u32)),
  (393, (.int .u8)),
  (394, (.int .u8)),
  (395, .op),
  (396, .op),
  (397, (.int .i32)),
  (398, (.int .i32))]
theorem tys : ∀ t T, find theta t = some T → tyF Tryz.prog T (.t t) = true := tys_of (by kernel_rfl)
theorem mixed : Tryz.prog.follows .mixedOrders = true := by kernel_rfl
namespace spec_l1In
noncomputable def fs : FS := ⟨[(.val (.int .i64) .f), (.val (.int .i64) .f), (.val (.int .i64) .f)], [(.bool, .o)], fun _ => true, fun x => ((), ((spec_l1In x.1 x.2.1 x.2.2.1), ()))⟩
noncomputable def E : Env := ⟨theta, [], []⟩
noncomputable def H : List LC := []
theorem env : EnvOk Tryz.prog E := env_nil tys
theorem loops : ∀ c, Tryz.f118.body = some c → LoopsOk E H c := loops_none (by kernel_rfl)
theorem sound : Sound Tryz.prog 118 fs := fn_sound env mixed Tryz.func118 H loops fun ⟨x0, x1, x2, ()⟩ hw _ => (show runFn E H Tryz.f118 fs.ps fs.rs (x0, (x1, (x2, ()))) = raw x0 x1 x2 from by kernel_rfl).trans (eq x0 x1 x2 hw)
theorem known : Seen Tryz.prog 118 fs := ⟨sound, _, Tryz.func118, by kernel_rfl, by kernel_rfl⟩
end spec_l1In
namespace spec_SetupOk
noncomputable def fs : FS := ⟨[(.val tyS211 .f)], [(.bool, .o)], fun _ => true, fun x => ((), ((spec_SetupOk x.1), ()))⟩
noncomputable def E : Env := ⟨theta, [(118, spec_l1In.fs)], []⟩
noncomputable def H : List LC := []
theorem env : EnvOk Tryz.prog E := env_cons spec_l1In.known (env_nil tys)
theorem loops : ∀ c, Tryz.f94.body = some c → LoopsOk E H c := loops_none (by kernel_rfl)
theorem sound : Sound Tryz.prog 94 fs := fn_sound env mixed Tryz.func94 H loops fun ⟨x0, ()⟩ hw _ => (show runFn E H Tryz.f94 fs.ps fs.rs (x0, ()) = raw x0 from by kernel_rfl).trans (eq x0 hw)
theorem known : Seen Tryz.prog 94 fs := ⟨sound, _, Tryz.func94, by kernel_rfl, by kernel_rfl⟩
end spec_SetupOk
namespace spec_GroupNew
noncomputable def fs : FS := ⟨[(.val (.int .i64) .f)], [(tyS25, .o)], fun x => spec_GroupNew.pre x.1, fun x => ((), ((spec_GroupNew x.1), ()))⟩
noncomputable def E : Env := ⟨theta, [(118, spec_l1In.fs)], []⟩
noncomputable def H : List LC := []
theorem env : EnvOk Tryz.prog E := env_cons spec_l1In.known (env_nil tys)
theorem loops : ∀ c, Tryz.f128.body = some c → LoopsOk E H c := loops_none (by kernel_rfl)
theorem sound : Sound Tryz.prog 128 fs := fn_sound env mixed Tryz.func128 H loops fun ⟨x0, ()⟩ hw hp => (show runFn E H Tryz.f128 fs.ps fs.rs (x0, ()) = raw x0 from by kernel_rfl).trans (eq x0 hw hp)
theorem known : Seen Tryz.prog 128 fs := ⟨sound, _, Tryz.func128, by kernel_rfl, by kernel_rfl⟩
end spec_GroupNew
namespace spec_KeepNew
noncomputable def fs : FS := ⟨[(.val tyS211 .f)], [(tyS21, .o)], fun x => spec_KeepNew.pre x.1, fun x => ((), ((spec_KeepNew x.1), ()))⟩
noncomputable def E : Env := ⟨theta, [(94, spec_SetupOk.fs), (128, spec_GroupNew.fs)], []⟩
noncomputable def sh5 : ShSt := ⟨(uu :: (.one (.bptr 0 [] tyS211)) :: (.one (.bptr 32 [] tyS21)) :: (.one (.bptr 24768 [] tyS21)) :: ui :: un 23 []), [(0, (.box tyS211 (.dat tyS211))), (32, (.box tyS21 (.pair (.arr 20000000) (.pair (.arr 20000001) (.pair (.arr 20000002) (.pair (.dat (.int .i64)) (.pair (.arr 20000003) (.pair (.arr 20000004) (.dat .unit))))))))), (20000000, (.arr 42 tyS27)), (20000001, (.arr 156 tyS28)), (20000002, (.arr 159 tyS25)), (20000003, (.arr 3 (.int .i64))), (20000004, (.arr 48 tyS29)), (24768, (.box tyS21 (.pair (.arr 20000005) (.pair (.arr 20000006) (.pair (.arr 20000007) (.pair (.dat (.int .i64)) (.pair (.arr 20000008) (.pair (.arr 20000009) (.dat .unit))))))))), (20000005, (.arr 42 tyS27)), (20000006, (.arr 156 tyS28)), (20000007, (.arr 159 tyS25)), (20000008, (.arr 3 (.int .i64))), (20000009, (.arr 48 tyS29))]⟩
noncomputable def outs5 : List OutC := [⟨(.exit 0), ⟨0, [2, 3], []⟩, ⟨(uu :: uu :: (.one (.bptr 32 [] tyS21)) :: (.one (.bptr 24768 [] tyS21)) :: un 24 []), [(32, (.box tyS21 (.pair (.arr 20000000) (.pair (.arr 20000001) (.pair (.arr 20000002) (.pair (.dat (.int .i64)) (.pair (.arr 20000003) (.pair (.arr 20000004) (.dat .unit))))))))), (20000000, (.arr 42 tyS27)), (20000001, (.arr 156 tyS28)), (20000002, (.arr 159 tyS25)), (20000003, (.arr 3 (.int .i64))), (20000004, (.arr 48 tyS29)), (24768, (.box tyS21 (.pair (.arr 20000005) (.pair (.arr 20000006) (.pair (.arr 20000007) (.pair (.dat (.int .i64)) (.pair (.arr 20000008) (.pair (.arr 20000009) (.dat .unit))))))))), (20000005, (.arr 42 tyS27)), (20000006, (.arr 156 tyS28)), (20000007, (.arr 159 tyS25)), (20000008, (.arr 3 (.int .i64))), (20000009, (.arr 48 tyS29))]⟩⟩]
noncomputable def L5 : LC := ⟨5, ⟨5, [1, 2, 3, 4], []⟩, sh5, outs5, pre5, fn5⟩
noncomputable def H : List LC := [L5]
noncomputable def code (i : Nat) : Code := (loopsOf (bodyOf Tryz.f39)).getD i .skip
theorem lok5 : LoopOk E H (code 0) L5 := ⟨mu5, fun ⟨x1, x2, x3, x4, x5, x6, x7, x8, x9, x10, x11, x12, x13, x14, x15, x16, ()⟩ hp => rounds_ok (show L5.step E H (code 0) (x1, (x2, (x3, (x4, (x5, (x6, (x7, (x8, (x9, (x10, (x11, (x12, (x13, (x14, (x15, (x16, ())))))))))))))))) = raw5 x1 x2 x3 x4 x5 x6 x7 x8 x9 x10 x11 x12 x13 x14 x15 x16 from by kernel_rfl) (ok5 x1 x2 x3 x4 x5 x6 x7 x8 x9 x10 x11 x12 x13 x14 x15 x16 hp)⟩
theorem env : EnvOk Tryz.prog E := env_cons spec_SetupOk.known (env_cons spec_GroupNew.known (env_nil tys))
theorem loops : ∀ c, Tryz.f39.body = some c → LoopsOk E H c := loops_of (by kernel_rfl) (by kernel_rfl) fun i l h => match i, h with
  | 0, h => Option.some.inj h ▸ lok5
  | n + 1, h => by cases h
theorem sound : Sound Tryz.prog 39 fs := fn_sound env mixed Tryz.func39 H loops fun ⟨x0, ()⟩ hw hp => (show runFn E H Tryz.f39 fs.ps fs.rs (x0, ()) = raw x0 from by kernel_rfl).trans (eq x0 hw hp)
theorem known : Seen Tryz.prog 39 fs := ⟨sound, _, Tryz.func39, by kernel_rfl, by kernel_rfl⟩
end spec_KeepNew
namespace spec_HardNew
noncomputable def fs : FS := ⟨[(.val tyS211 .f)], [((.pair (.int .i64) (.pair (.int .i64) (.pair tyS212 (.pair tyS21 .unit)))), .o)], fun x => spec_HardNew.pre x.1, fun x => ((), ((spec_HardNew x.1), ()))⟩
noncomputable def E : Env := ⟨theta, [(94, spec_SetupOk.fs), (39, spec_KeepNew.fs)], []⟩
noncomputable def H : List LC := []
theorem env : EnvOk Tryz.prog E := env_cons spec_SetupOk.known (env_cons spec_KeepNew.known (env_nil tys))
theorem loops : ∀ c, Tryz.f87.body = some c → LoopsOk E H c := loops_none (by kernel_rfl)
theorem sound : Sound Tryz.prog 87 fs := fn_sound env mixed Tryz.func87 H loops fun ⟨x0, ()⟩ hw hp => (show runFn E H Tryz.f87 fs.ps fs.rs (x0, ()) = raw x0 from by kernel_rfl).trans (eq x0 hw hp)
theorem known : Seen Tryz.prog 87 fs := ⟨sound, _, Tryz.func87, by kernel_rfl, by kernel_rfl⟩
end spec_HardNew
namespace spec_l12Ones
noncomputable def fs : FS := ⟨[(.val (.int .i64) .f), (.val (.int .i64) .f)], [((.sl 3 (.int .i64)), .o)], fun x => spec_l12Ones.pre x.1 x.2.1, fun x => ((), ((spec_l12Ones x.1 x.2.1), ()))⟩
noncomputable def E : Env := ⟨theta, [], []⟩
noncomputable def sh3 : ShSt := ⟨(ui :: ui :: uu :: uu :: uu :: (.one (.arr 20000000)) :: ui :: un 11 []), [(20000000, (.arr 3 (.int .i64)))]⟩
noncomputable def outs3 : List OutC := [⟨(.exit 0), ⟨0, [5], [(5, (3, (.int .i64)))]⟩, ⟨(un 5 ((.one (.arr 20000000)) :: un 12 [])), [(20000000, (.arr 3 (.int .i64)))]⟩⟩]
noncomputable def L3 : LC := ⟨3, ⟨3, [0, 1, 5, 6], [(5, (3, (.int .i64)))]⟩, sh3, outs3, pre3, fn3⟩
noncomputable def H : List LC := [L3]
noncomputable def code (i : Nat) : Code := (loopsOf (bodyOf Tryz.f141)).getD i .skip
theorem lok3 : LoopOk E H (code 0) L3 := ⟨mu3, fun ⟨x1, x2, x3, x4, ()⟩ hp => rounds_ok (show L3.step E H (code 0) (x1, (x2, (x3, (x4, ())))) = raw3 x1 x2 x3 x4 from by kernel_rfl) (ok3 x1 x2 x3 x4 hp)⟩
theorem env : EnvOk Tryz.prog E := env_nil tys
theorem loops : ∀ c, Tryz.f141.body = some c → LoopsOk E H c := loops_of (by kernel_rfl) (by kernel_rfl) fun i l h => match i, h with
  | 0, h => Option.some.inj h ▸ lok3
  | n + 1, h => by cases h
theorem sound : Sound Tryz.prog 141 fs := fn_sound env mixed Tryz.func141 H loops fun ⟨x0, x1, ()⟩ hw hp => (show runFn E H Tryz.f141 fs.ps fs.rs (x0, (x1, ())) = raw x0 x1 from by kernel_rfl).trans (eq x0 x1 hw hp)
theorem known : Seen Tryz.prog 141 fs := ⟨sound, _, Tryz.func141, by kernel_rfl, by kernel_rfl⟩
end spec_l12Ones
namespace spec_LastOf
noncomputable def fs : FS := ⟨[(.val tyS212 .f)], [((.int .i64), .o), ((.int .i64), .o)], fun _ => true, fun x => ((), ((spec_LastOf x.1).1, ((spec_LastOf x.1).2, ())))⟩
noncomputable def E : Env := ⟨theta, [], []⟩
noncomputable def H : List LC := []
theorem env : EnvOk Tryz.prog E := env_nil tys
theorem loops : ∀ c, Tryz.f200.body = some c → LoopsOk E H c := loops_none (by kernel_rfl)
theorem sound : Sound Tryz.prog 200 fs := fn_sound env mixed Tryz.func200 H loops fun ⟨x0, ()⟩ hw _ => (show runFn E H Tryz.f200 fs.ps fs.rs (x0, ()) = raw x0 from by kernel_rfl).trans (eq x0 hw)
theorem known : Seen Tryz.prog 200 fs := ⟨sound, _, Tryz.func200, by kernel_rfl, by kernel_rfl⟩
end spec_LastOf
namespace spec_l2Text
noncomputable def fs : FS := ⟨[(.val .str .f)], [(.bool, .o)], fun _ => true, fun x => ((), ((spec_l2Text x.1), ()))⟩
noncomputable def E : Env := ⟨theta, [], []⟩
noncomputable def sh2 : ShSt := ⟨((.one (.dat .str)) :: uu :: uu :: ui :: un 32 []), []⟩
noncomputable def outs2 : List OutC := [⟨.ret, ⟨0, [2], []⟩, ⟨(uu :: uu :: (.one (.dat .bool)) :: un 33 []), []⟩⟩, ⟨(.exit 0), ⟨0, [0], []⟩, ⟨((.one (.dat .str)) :: un 35 []), []⟩⟩]
noncomputable def L2 : LC := ⟨2, ⟨2, [0, 3], []⟩, sh2, outs2, pre2, fn2⟩
noncomputable def H : List LC := [L2]
noncomputable def code (i : Nat) : Code := (loopsOf (bodyOf Tryz.f130)).getD i .skip
theorem lok2 : LoopOk E H (code 0) L2 := ⟨mu2, fun ⟨x1, x2, ()⟩ hp => rounds_ok (show L2.step E H (code 0) (x1, (x2, ())) = raw2 x1 x2 from by kernel_rfl) (ok2 x1 x2 hp)⟩
theorem env : EnvOk Tryz.prog E := env_nil tys
theorem loops : ∀ c, Tryz.f130.body = some c → LoopsOk E H c := loops_of (by kernel_rfl) (by kernel_rfl) fun i l h => match i, h with
  | 0, h => Option.some.inj h ▸ lok2
  | n + 1, h => by cases h
theorem sound : Sound Tryz.prog 130 fs := fn_sound env mixed Tryz.func130 H loops fun ⟨x0, ()⟩ hw _ => (show runFn E H Tryz.f130 fs.ps fs.rs (x0, ()) = raw x0 from by kernel_rfl).trans (eq x0 hw)
theorem known : Seen Tryz.prog 130 fs := ⟨sound, _, Tryz.func130, by kernel_rfl, by kernel_rfl⟩
end spec_l2Text
namespace spec_CmdOk
noncomputable def fs : FS := ⟨[(.val (.pair (.int .i64) (.pair (.int .i64) (.pair (.int .i64) (.pair (.int .i64) tyS29)))) .f)], [(.bool, .o)], fun _ => true, fun x => ((), ((spec_CmdOk x.1), ()))⟩
noncomputable def E : Env := ⟨theta, [(118, spec_l1In.fs), (130, spec_l2Text.fs)], []⟩
noncomputable def H : List LC := []
theorem env : EnvOk Tryz.prog E := env_cons spec_l1In.known (env_cons spec_l2Text.known (env_nil tys))
theorem loops : ∀ c, Tryz.f95.body = some c → LoopsOk E H c := loops_none (by kernel_rfl)
theorem sound : Sound Tryz.prog 95 fs := fn_sound env mixed Tryz.func95 H loops fun ⟨x0, ()⟩ hw _ => (show runFn E H Tryz.f95 fs.ps fs.rs (x0, ()) = raw x0 from by kernel_rfl).trans (eq x0 hw)
theorem known : Seen Tryz.prog 95 fs := ⟨sound, _, Tryz.func95, by kernel_rfl, by kernel_rfl⟩
end spec_CmdOk
namespace spec_LogOk
noncomputable def fs : FS := ⟨[(.val tyS212 .f)], [(.bool, .o)], fun _ => true, fun x => ((), ((spec_LogOk x.1), ()))⟩
noncomputable def E : Env := ⟨theta, [(118, spec_l1In.fs), (95, spec_CmdOk.fs)], []⟩
noncomputable def sh5 : ShSt := ⟨(uu :: (.one (.bptr 0 [] tyS212)) :: uu :: ui :: ui :: un 53 []), [(0, (.box tyS212 (.dat tyS212)))]⟩
noncomputable def outs5 : List OutC := [⟨.ret, ⟨0, [2], []⟩, ⟨(uu :: uu :: (.one (.dat .bool)) :: un 55 []), []⟩⟩, ⟨(.exit 0), ⟨0, [], []⟩, ⟨(un 58 []), []⟩⟩]
noncomputable def L5 : LC := ⟨5, ⟨5, [1, 3, 4], []⟩, sh5, outs5, pre5, fn5⟩
noncomputable def H : List LC := [L5]
noncomputable def code (i : Nat) : Code := (loopsOf (bodyOf Tryz.f201)).getD i .skip
theorem lok5 : LoopOk E H (code 0) L5 := ⟨mu5, fun ⟨x1, x2, x3, ()⟩ hp => rounds_ok (show L5.step E H (code 0) (x1, (x2, (x3, ()))) = raw5 x1 x2 x3 from by kernel_rfl) (ok5 x1 x2 x3 hp)⟩
theorem env : EnvOk Tryz.prog E := env_cons spec_l1In.known (env_cons spec_CmdOk.known (env_nil tys))
theorem loops : ∀ c, Tryz.f201.body = some c → LoopsOk E H c := loops_of (by kernel_rfl) (by kernel_rfl) fun i l h => match i, h with
  | 0, h => Option.some.inj h ▸ lok5
  | n + 1, h => by cases h
theorem sound : Sound Tryz.prog 201 fs := fn_sound env mixed Tryz.func201 H loops fun ⟨x0, ()⟩ hw _ => (show runFn E H Tryz.f201 fs.ps fs.rs (x0, ()) = raw x0 from by kernel_rfl).trans (eq x0 hw)
theorem known : Seen Tryz.prog 201 fs := ⟨sound, _, Tryz.func201, by kernel_rfl, by kernel_rfl⟩
end spec_LogOk
namespace spec_MakerOk
noncomputable def ob1 : List (Nat × ShO) := [(0, (.box tyS28 (.dat tyS28)))]
noncomputable def fs : FS := ⟨[(.val tyS28 .f), (.val (.int .i64) .f)], [(.bool, .o)], fun x => spec_MakerOk.pre x.1 x.2.1, fun x => ((), ((spec_MakerOk x.1 x.2.1), ()))⟩
noncomputable def E : Env := ⟨theta, [(118, spec_l1In.fs)], []⟩
noncomputable def sh2 : ShSt := ⟨(uu :: ui :: (.one (.bptr 0 [] tyS28)) :: uu :: uu :: ui :: un 96 []), ob1⟩
noncomputable def outs2 : List OutC := [⟨.ret, ⟨0, [4], []⟩, ⟨(un 4 ((.one (.dat .bool)) :: un 97 [])), []⟩⟩, ⟨(.exit 0), ⟨0, [1, 2], []⟩, ⟨(uu :: ui :: (.one (.bptr 0 [] tyS28)) :: un 99 []), ob1⟩⟩]
noncomputable def L2 : LC := ⟨2, ⟨2, [1, 2, 5], []⟩, sh2, outs2, pre2, fn2⟩
noncomputable def H : List LC := [L2]
noncomputable def code (i : Nat) : Code := (loopsOf (bodyOf Tryz.f328)).getD i .skip
theorem lok2 : LoopOk E H (code 0) L2 := ⟨mu2, fun ⟨x1, x2, x3, ()⟩ hp => rounds_ok (show L2.step E H (code 0) (x1, (x2, (x3, ()))) = raw2 x1 x2 x3 from by kernel_rfl) (ok2 x1 x2 x3 hp)⟩
theorem env : EnvOk Tryz.prog E := env_cons spec_l1In.known (env_nil tys)
theorem loops : ∀ c, Tryz.f328.body = some c → LoopsOk E H c := loops_of (by kernel_rfl) (by kernel_rfl) fun i l h => match i, h with
  | 0, h => Option.some.inj h ▸ lok2
  | n + 1, h => by cases h
theorem sound : Sound Tryz.prog 328 fs := fn_sound env mixed Tryz.func328 H loops fun ⟨x0, x1, ()⟩ hw hp => (show runFn E H Tryz.f328 fs.ps fs.rs (x0, (x1, ())) = raw x0 x1 from by kernel_rfl).trans (eq x0 x1 hw hp)
theorem known : Seen Tryz.prog 328 fs := ⟨sound, _, Tryz.func328, by kernel_rfl, by kernel_rfl⟩
end spec_MakerOk
namespace spec_l6Makers
noncomputable def fs : FS := ⟨[(.val tyS211 .f), (.val (.sl 156 tyS28) .f)], [(.bool, .o)], fun x => spec_l6Makers.pre x.1 x.2.1, fun x => ((), ((spec_l6Makers x.1 x.2.1), ()))⟩
noncomputable def E : Env := ⟨theta, [(328, spec_MakerOk.fs)], []⟩
noncomputable def sh2 : ShSt := ⟨(uu :: (.one (.dat (.sl 156 tyS28))) :: (.one (.bptr 0 [] tyS211)) :: uu :: uu :: ui :: un 58 []), [(0, (.box tyS211 (.dat tyS211)))]⟩
noncomputable def outs2 : List OutC := [⟨.ret, ⟨0, [4], []⟩, ⟨(un 4 ((.one (.dat .bool)) :: un 59 [])), []⟩⟩, ⟨(.exit 0), ⟨0, [], []⟩, ⟨(un 64 []), []⟩⟩]
noncomputable def L2 : LC := ⟨2, ⟨2, [1, 2, 5], []⟩, sh2, outs2, pre2, fn2⟩
noncomputable def H : List LC := [L2]
noncomputable def code (i : Nat) : Code := (loopsOf (bodyOf Tryz.f281)).getD i .skip
theorem lok2 : LoopOk E H (code 0) L2 := ⟨mu2, fun ⟨x1, x2, x3, ()⟩ hp => rounds_ok (show L2.step E H (code 0) (x1, (x2, (x3, ()))) = raw2 x1 x2 x3 from by kernel_rfl) (ok2 x1 x2 x3 hp)⟩
theorem env : EnvOk Tryz.prog E := env_cons spec_MakerOk.known (env_nil tys)
theorem loops : ∀ c, Tryz.f281.body = some c → LoopsOk E H c := loops_of (by kernel_rfl) (by kernel_rfl) fun i l h => match i, h with
  | 0, h => Option.some.inj h ▸ lok2
  | n + 1, h => by cases h
theorem sound : Sound Tryz.prog 281 fs := fn_sound env mixed Tryz.func281 H loops fun ⟨x0, x1, ()⟩ hw hp => (show runFn E H Tryz.f281 fs.ps fs.rs (x0, (x1, ())) = raw x0 x1 from by kernel_rfl).trans (eq x0 x1 hw hp)
theorem known : Seen Tryz.prog 281 fs := ⟨sound, _, Tryz.func281, by kernel_rfl, by kernel_rfl⟩
end spec_l6Makers
namespace spec_l3Item
noncomputable def fs : FS := ⟨[(.val tyS213 .f)], [(.bool, .o)], fun x => spec_l3Item.pre x.1, fun x => ((), ((spec_l3Item x.1), ()))⟩
noncomputable def E : Env := ⟨theta, [(118, spec_l1In.fs), (130, spec_l2Text.fs)], []⟩
noncomputable def H : List LC := []
theorem env : EnvOk Tryz.prog E := env_cons spec_l1In.known (env_cons spec_l2Text.known (env_nil tys))
theorem loops : ∀ c, Tryz.f329.body = some c → LoopsOk E H c := loops_none (by kernel_rfl)
theorem sound : Sound Tryz.prog 329 fs := fn_sound env mixed Tryz.func329 H loops fun ⟨x0, ()⟩ hw hp => (show runFn E H Tryz.f329 fs.ps fs.rs (x0, ()) = raw x0 from by kernel_rfl).trans (eq x0 hw hp)
theorem known : Seen Tryz.prog 329 fs := ⟨sound, _, Tryz.func329, by kernel_rfl, by kernel_rfl⟩
end spec_l3Item
namespace spec_RowOk
noncomputable def ob1 : List (Nat × ShO) := [(0, (.box tyS27 (.dat tyS27)))]
noncomputable def fs : FS := ⟨[(.val tyS27 .f)], [(.bool, .o)], fun x => spec_RowOk.pre x.1, fun x => ((), ((spec_RowOk x.1), ()))⟩
noncomputable def E : Env := ⟨theta, [(118, spec_l1In.fs), (329, spec_l3Item.fs)], []⟩
noncomputable def sh2 : ShSt := ⟨(uu :: (.one (.bptr 0 [] tyS27)) :: uu :: ui :: un 65 []), ob1⟩
noncomputable def outs2 : List OutC := [⟨.ret, ⟨0, [2], []⟩, ⟨(uu :: uu :: (.one (.dat .bool)) :: un 66 []), []⟩⟩, ⟨(.exit 0), ⟨0, [1], []⟩, ⟨(uu :: (.one (.bptr 0 [] tyS27)) :: un 67 []), ob1⟩⟩]
noncomputable def L2 : LC := ⟨2, ⟨2, [1, 3], []⟩, sh2, outs2, pre2, fn2⟩
noncomputable def H : List LC := [L2]
noncomputable def code (i : Nat) : Code := (loopsOf (bodyOf Tryz.f282)).getD i .skip
theorem lok2 : LoopOk E H (code 0) L2 := ⟨mu2, fun ⟨x1, x2, ()⟩ hp => rounds_ok (show L2.step E H (code 0) (x1, (x2, ())) = raw2 x1 x2 from by kernel_rfl) (ok2 x1 x2 hp)⟩
theorem env : EnvOk Tryz.prog E := env_cons spec_l1In.known (env_cons spec_l3Item.known (env_nil tys))
theorem loops : ∀ c, Tryz.f282.body = some c → LoopsOk E H c := loops_of (by kernel_rfl) (by kernel_rfl) fun i l h => match i, h with
  | 0, h => Option.some.inj h ▸ lok2
  | n + 1, h => by cases h
theorem sound : Sound Tryz.prog 282 fs := fn_sound env mixed Tryz.func282 H loops fun ⟨x0, ()⟩ hw hp => (show runFn E H Tryz.f282 fs.ps fs.rs (x0, ()) = raw x0 from by kernel_rfl).trans (eq x0 hw hp)
theorem known : Seen Tryz.prog 282 fs := ⟨sound, _, Tryz.func282, by kernel_rfl, by kernel_rfl⟩
end spec_RowOk
namespace spec_GroupOk
noncomputable def ob1 : List (Nat × ShO) := [(0, (.box tyS25 (.dat tyS25)))]
noncomputable def fs : FS := ⟨[(.val tyS25 .f), (.val (.int .i64) .f)], [(.bool, .o)], fun x => spec_GroupOk.pre x.1 x.2.1, fun x => ((), ((spec_GroupOk x.1 x.2.1), ()))⟩
noncomputable def E : Env := ⟨theta, [(118, spec_l1In.fs)], []⟩
noncomputable def sh4 : ShSt := ⟨(uu :: uu :: (.one (.bptr 0 [] tyS25)) :: uu :: uu :: ui :: un 76 []), ob1⟩
noncomputable def outs4 : List OutC := [⟨.ret, ⟨0, [4], []⟩, ⟨(un 4 ((.one (.dat .bool)) :: un 77 [])), []⟩⟩, ⟨(.exit 0), ⟨0, [2], []⟩, ⟨(uu :: uu :: (.one (.bptr 0 [] tyS25)) :: un 79 []), ob1⟩⟩]
noncomputable def L4 : LC := ⟨4, ⟨4, [2, 5], []⟩, sh4, outs4, pre4, fn4⟩
noncomputable def sh9 : ShSt := ⟨(uu :: uu :: (.one (.bptr 0 [] tyS25)) :: uu :: uu :: uu :: ui :: un 75 []), ob1⟩
noncomputable def outs9 : List OutC := [⟨.ret, ⟨0, [4], []⟩, ⟨(un 4 ((.one (.dat .bool)) :: un 77 [])), []⟩⟩, ⟨(.exit 2), ⟨0, [], []⟩, ⟨(un 82 []), []⟩⟩]
noncomputable def L9 : LC := ⟨9, ⟨9, [2, 6], []⟩, sh9, outs9, pre9, fn9⟩
noncomputable def H : List LC := [L4, L9]
noncomputable def code (i : Nat) : Code := (loopsOf (bodyOf Tryz.f283)).getD i .skip
theorem lok4 : LoopOk E H (code 0) L4 := ⟨mu4, fun ⟨x1, x2, ()⟩ hp => rounds_ok (show L4.step E H (code 0) (x1, (x2, ())) = raw4 x1 x2 from by kernel_rfl) (ok4 x1 x2 hp)⟩
theorem lok9 : LoopOk E H (code 1) L9 := ⟨mu9, fun ⟨x1, x2, ()⟩ hp => rounds_ok (show L9.step E H (code 1) (x1, (x2, ())) = raw9 x1 x2 from by kernel_rfl) (ok9 x1 x2 hp)⟩
theorem env : EnvOk Tryz.prog E := env_cons spec_l1In.known (env_nil tys)
theorem loops : ∀ c, Tryz.f283.body = some c → LoopsOk E H c := loops_of (by kernel_rfl) (by kernel_rfl) fun i l h => match i, h with
  | 0, h => Option.some.inj h ▸ lok4
  | 1, h => Option.some.inj h ▸ lok9
  | n + 2, h => by cases h
theorem sound : Sound Tryz.prog 283 fs := fn_sound env mixed Tryz.func283 H loops fun ⟨x0, x1, ()⟩ hw hp => (show runFn E H Tryz.f283 fs.ps fs.rs (x0, (x1, ())) = raw x0 x1 from by kernel_rfl).trans (eq x0 x1 hw hp)
theorem known : Seen Tryz.prog 283 fs := ⟨sound, _, Tryz.func283, by kernel_rfl, by kernel_rfl⟩
end spec_GroupOk
namespace spec_AnswerOk
noncomputable def fs : FS := ⟨[(.val tyS29 .f)], [(.bool, .o)], fun x => spec_AnswerOk.pre x.1, fun x => ((), ((spec_AnswerOk x.1), ()))⟩
noncomputable def E : Env := ⟨theta, [(118, spec_l1In.fs), (130, spec_l2Text.fs)], []⟩
noncomputable def H : List LC := []
theorem env : EnvOk Tryz.prog E := env_cons spec_l1In.known (env_cons spec_l2Text.known (env_nil tys))
theorem loops : ∀ c, Tryz.f41.body = some c → LoopsOk E H c := loops_none (by kernel_rfl)
theorem sound : Sound Tryz.prog 41 fs := fn_sound env mixed Tryz.func41 H loops fun ⟨x0, ()⟩ hw hp => (show runFn E H Tryz.f41 fs.ps fs.rs (x0, ()) = raw x0 from by kernel_rfl).trans (eq x0 hw hp)
theorem known : Seen Tryz.prog 41 fs := ⟨sound, _, Tryz.func41, by kernel_rfl, by kernel_rfl⟩
end spec_AnswerOk
namespace spec_KeepOk
noncomputable def ob1 : List (Nat × ShO) := [(0, (.box tyS211 (.dat tyS211))), (32, (.box tyS21 (.dat tyS21)))]
noncomputable def ob2 : List (Nat × ShO) := [(32, (.box tyS21 (.dat tyS21)))]
noncomputable def fs : FS := ⟨[(.val tyS211 .f), (.val tyS21 .f)], [(.bool, .o)], fun x => spec_KeepOk.pre x.1 x.2.1, fun x => ((), ((spec_KeepOk x.1 x.2.1), ()))⟩
noncomputable def E : Env := ⟨theta, [(118, spec_l1In.fs), (94, spec_SetupOk.fs), (281, spec_l6Makers.fs), (282, spec_RowOk.fs), (283, spec_GroupOk.fs), (41, spec_AnswerOk.fs)], []⟩
noncomputable def sh4 : ShSt := ⟨(uu :: uu :: (.one (.bptr 0 [] tyS211)) :: (.one (.bptr 32 [] tyS21)) :: uu :: ui :: un 90 []), ob1⟩
noncomputable def outs4 : List OutC := [⟨.ret, ⟨0, [4], []⟩, ⟨(un 4 ((.one (.dat .bool)) :: un 91 [])), []⟩⟩, ⟨(.exit 0), ⟨0, [2, 3], []⟩, ⟨(uu :: uu :: (.one (.bptr 0 [] tyS211)) :: (.one (.bptr 32 [] tyS21)) :: un 92 []), ob1⟩⟩]
noncomputable def L4 : LC := ⟨4, ⟨4, [2, 3, 5], []⟩, sh4, outs4, pre4, fn4⟩
noncomputable def sh9 : ShSt := ⟨(uu :: uu :: (.one (.bptr 0 [] tyS211)) :: (.one (.bptr 32 [] tyS21)) :: uu :: uu :: ui :: un 89 []), ob1⟩
noncomputable def outs9 : List OutC := [⟨.ret, ⟨0, [4], []⟩, ⟨(un 4 ((.one (.dat .bool)) :: un 91 [])), []⟩⟩, ⟨(.exit 2), ⟨0, [3], []⟩, ⟨(uu :: uu :: uu :: (.one (.bptr 32 [] tyS21)) :: un 92 []), ob2⟩⟩]
noncomputable def L9 : LC := ⟨9, ⟨9, [2, 3, 6], []⟩, sh9, outs9, pre9, fn9⟩
noncomputable def sh14 : ShSt := ⟨(uu :: uu :: uu :: (.one (.bptr 32 [] tyS21)) :: uu :: uu :: uu :: ui :: un 88 []), ob2⟩
noncomputable def outs14 : List OutC := [⟨.ret, ⟨0, [4], []⟩, ⟨(un 4 ((.one (.dat .bool)) :: un 91 [])), []⟩⟩, ⟨(.exit 4), ⟨0, [], []⟩, ⟨(un 96 []), []⟩⟩]
noncomputable def L14 : LC := ⟨14, ⟨14, [3, 7], []⟩, sh14, outs14, pre14, fn14⟩
noncomputable def H : List LC := [L4, L9, L14]
noncomputable def code (i : Nat) : Code := (loopsOf (bodyOf Tryz.f202)).getD i .skip
theorem lok4 : LoopOk E H (code 0) L4 := ⟨mu4, fun ⟨x1, x2, x3, ()⟩ hp => rounds_ok (show L4.step E H (code 0) (x1, (x2, (x3, ()))) = raw4 x1 x2 x3 from by kernel_rfl) (ok4 x1 x2 x3 hp)⟩
theorem lok9 : LoopOk E H (code 1) L9 := ⟨mu9, fun ⟨x1, x2, x3, ()⟩ hp => rounds_ok (show L9.step E H (code 1) (x1, (x2, (x3, ()))) = raw9 x1 x2 x3 from by kernel_rfl) (ok9 x1 x2 x3 hp)⟩
theorem lok14 : LoopOk E H (code 2) L14 := ⟨mu14, fun ⟨x1, x2, ()⟩ hp => rounds_ok (show L14.step E H (code 2) (x1, (x2, ())) = raw14 x1 x2 from by kernel_rfl) (ok14 x1 x2 hp)⟩
theorem env : EnvOk Tryz.prog E := env_cons spec_l1In.known (env_cons spec_SetupOk.known (env_cons spec_l6Makers.known (env_cons spec_RowOk.known (env_cons spec_GroupOk.known (env_cons spec_AnswerOk.known (env_nil tys))))))
theorem loops : ∀ c, Tryz.f202.body = some c → LoopsOk E H c := loops_of (by kernel_rfl) (by kernel_rfl) fun i l h => match i, h with
  | 0, h => Option.some.inj h ▸ lok4
  | 1, h => Option.some.inj h ▸ lok9
  | 2, h => Option.some.inj h ▸ lok14
  | n + 3, h => by cases h
theorem sound : Sound Tryz.prog 202 fs := fn_sound env mixed Tryz.func202 H loops fun ⟨x0, x1, ()⟩ hw hp => (show runFn E H Tryz.f202 fs.ps fs.rs (x0, (x1, ())) = raw x0 x1 from by kernel_rfl).trans (eq x0 x1 hw hp)
theorem known : Seen Tryz.prog 202 fs := ⟨sound, _, Tryz.func202, by kernel_rfl, by kernel_rfl⟩
end spec_KeepOk
namespace spec_HardOk
noncomputable def fs : FS := ⟨[(.val tyS211 .f), (.val (.pair (.int .i64) (.pair (.int .i64) (.pair tyS212 (.pair tyS21 .unit)))) .f)], [(.bool, .o)], fun x => spec_HardOk.pre x.1 x.2.1, fun x => ((), ((spec_HardOk x.1 x.2.1), ()))⟩
noncomputable def E : Env := ⟨theta, [(118, spec_l1In.fs), (200, spec_LastOf.fs), (201, spec_LogOk.fs), (202, spec_KeepOk.fs)], []⟩
noncomputable def H : List LC := []
theorem env : EnvOk Tryz.prog E := env_cons spec_l1In.known (env_cons spec_LastOf.known (env_cons spec_LogOk.known (env_cons spec_KeepOk.known (env_nil tys))))
theorem loops : ∀ c, Tryz.f79.body = some c → LoopsOk E H c := loops_none (by kernel_rfl)
theorem sound : Sound Tryz.prog 79 fs := fn_sound env mixed Tryz.func79 H loops fun ⟨x0, x1, ()⟩ hw hp => (show runFn E H Tryz.f79 fs.ps fs.rs (x0, (x1, ())) = raw x0 x1 from by kernel_rfl).trans (eq x0 x1 hw hp)
theorem known : Seen Tryz.prog 79 fs := ⟨sound, _, Tryz.func79, by kernel_rfl, by kernel_rfl⟩
end spec_HardOk
namespace spec_l9List
noncomputable def fs : FS := ⟨[(.val (.sl 167 tyS22) .f), (.val (.int .i64) .f)], [(.bool, .o)], fun _ => true, fun x => ((), ((spec_l9List x.1 x.2.1), ()))⟩
noncomputable def E : Env := ⟨theta, [(118, spec_l1In.fs), (95, spec_CmdOk.fs)], []⟩
noncomputable def sh2 : ShSt := ⟨((.one (.dat (.sl 167 tyS22))) :: ui :: uu :: uu :: uu :: ui :: un 26 []), []⟩
noncomputable def outs2 : List OutC := [⟨.ret, ⟨0, [4], []⟩, ⟨(un 4 ((.one (.dat .bool)) :: un 27 [])), []⟩⟩, ⟨(.exit 0), ⟨0, [0], []⟩, ⟨((.one (.dat (.sl 167 tyS22))) :: un 31 []), []⟩⟩]
noncomputable def L2 : LC := ⟨2, ⟨2, [0, 1, 5], []⟩, sh2, outs2, pre2, fn2⟩
noncomputable def H : List LC := [L2]
noncomputable def code (i : Nat) : Code := (loopsOf (bodyOf Tryz.f119)).getD i .skip
theorem lok2 : LoopOk E H (code 0) L2 := ⟨mu2, fun ⟨x1, x2, x3, ()⟩ hp => rounds_ok (show L2.step E H (code 0) (x1, (x2, (x3, ()))) = raw2 x1 x2 x3 from by kernel_rfl) (ok2 x1 x2 x3 hp)⟩
theorem env : EnvOk Tryz.prog E := env_cons spec_l1In.known (env_cons spec_CmdOk.known (env_nil tys))
theorem loops : ∀ c, Tryz.f119.body = some c → LoopsOk E H c := loops_of (by kernel_rfl) (by kernel_rfl) fun i l h => match i, h with
  | 0, h => Option.some.inj h ▸ lok2
  | n + 1, h => by cases h
theorem sound : Sound Tryz.prog 119 fs := fn_sound env mixed Tryz.func119 H loops fun ⟨x0, x1, ()⟩ hw _ => (show runFn E H Tryz.f119 fs.ps fs.rs (x0, (x1, ())) = raw x0 x1 from by kernel_rfl).trans (eq x0 x1 hw)
theorem known : Seen Tryz.prog 119 fs := ⟨sound, _, Tryz.func119, by kernel_rfl, by kernel_rfl⟩
end spec_l9List
namespace spec_RpcOk
noncomputable def fs : FS := ⟨[(.val tyS26 .f), (.val (.int .i64) .f)], [(.bool, .o)], fun x => spec_RpcOk.pre x.1 x.2.1, fun x => ((), ((spec_RpcOk x.1 x.2.1), ()))⟩
noncomputable def E : Env := ⟨theta, [(118, spec_l1In.fs), (119, spec_l9List.fs)], []⟩
noncomputable def H : List LC := []
theorem env : EnvOk Tryz.prog E := env_cons spec_l1In.known (env_cons spec_l9List.known (env_nil tys))
theorem loops : ∀ c, Tryz.f243.body = some c → LoopsOk E H c := loops_none (by kernel_rfl)
theorem sound : Sound Tryz.prog 243 fs := fn_sound env mixed Tryz.func243 H loops fun ⟨x0, x1, ()⟩ hw hp => (show runFn E H Tryz.f243 fs.ps fs.rs (x0, (x1, ())) = raw x0 x1 from by kernel_rfl).trans (eq x0 x1 hw hp)
theorem known : Seen Tryz.prog 243 fs := ⟨sound, _, Tryz.func243, by kernel_rfl, by kernel_rfl⟩
end spec_RpcOk
namespace spec_DiskOk
noncomputable def fs : FS := ⟨[(.val (.pair (.sl 5 (.int .u8)) (.pair (.int .i64) .unit)) .f)], [(.bool, .o)], fun x => spec_DiskOk.pre x.1, fun x => ((), ((spec_DiskOk x.1), ()))⟩
noncomputable def E : Env := ⟨theta, [(118, spec_l1In.fs)], []⟩
noncomputable def H : List LC := []
theorem env : EnvOk Tryz.prog E := env_cons spec_l1In.known (env_nil tys)
theorem loops : ∀ c, Tryz.f244.body = some c → LoopsOk E H c := loops_none (by kernel_rfl)
theorem sound : Sound Tryz.prog 244 fs := fn_sound env mixed Tryz.func244 H loops fun ⟨x0, ()⟩ hw hp => (show runFn E H Tryz.f244 fs.ps fs.rs (x0, ()) = raw x0 from by kernel_rfl).trans (eq x0 hw hp)
theorem known : Seen Tryz.prog 244 fs := ⟨sound, _, Tryz.func244, by kernel_rfl, by kernel_rfl⟩
end spec_DiskOk
namespace spec_PeerOk
noncomputable def ob1 : List (Nat × ShO) := [(0, (.box tyS211 (.dat tyS211))), (32, (.box tyS23 (.dat tyS23)))]
noncomputable def fs : FS := ⟨[(.val tyS211 .f), (.val tyS23 .f), (.val (.int .i64) .f)], [(.bool, .o)], fun x => spec_PeerOk.pre x.1 x.2.1 x.2.2.1, fun x => ((), ((spec_PeerOk x.1 x.2.1 x.2.2.1), ()))⟩
noncomputable def E : Env := ⟨theta, [(118, spec_l1In.fs), (200, spec_LastOf.fs), (202, spec_KeepOk.fs), (79, spec_HardOk.fs), (243, spec_RpcOk.fs), (244, spec_DiskOk.fs)], []⟩
noncomputable def sh5 : ShSt := ⟨(uu :: uu :: ui :: (.one (.bptr 0 [] tyS211)) :: (.one (.bptr 32 [] tyS23)) :: uu :: uu :: ui :: uu :: ui :: un 135 []), ob1⟩
noncomputable def outs5 : List OutC := [⟨.ret, ⟨0, [6], []⟩, ⟨(un 6 ((.one (.dat .bool)) :: un 138 [])), []⟩⟩, ⟨(.exit 0), ⟨0, [2, 3, 4, 7], []⟩, ⟨(uu :: uu :: ui :: (.one (.bptr 0 [] tyS211)) :: (.one (.bptr 32 [] tyS23)) :: uu :: uu :: ui :: un 137 []), ob1⟩⟩]
noncomputable def L5 : LC := ⟨5, ⟨5, [2, 3, 4, 7, 9], []⟩, sh5, outs5, pre5, fn5⟩
noncomputable def sh10 : ShSt := ⟨(uu :: uu :: ui :: (.one (.bptr 0 [] tyS211)) :: (.one (.bptr 32 [] tyS23)) :: uu :: uu :: ui :: uu :: uu :: ui :: un 134 []), ob1⟩
noncomputable def outs10 : List OutC := [⟨.ret, ⟨0, [6], []⟩, ⟨(un 6 ((.one (.dat .bool)) :: un 138 [])), []⟩⟩, ⟨(.exit 2), ⟨0, [3, 4, 7], []⟩, ⟨(uu :: uu :: uu :: (.one (.bptr 0 [] tyS211)) :: (.one (.bptr 32 [] tyS23)) :: uu :: uu :: ui :: un 137 []), ob1⟩⟩]
noncomputable def L10 : LC := ⟨10, ⟨10, [2, 3, 4, 7, 10], []⟩, sh10, outs10, pre10, fn10⟩
noncomputable def H : List LC := [L5, L10]
noncomputable def code (i : Nat) : Code := (loopsOf (bodyOf Tryz.f142)).getD i .skip
theorem lok5 : LoopOk E H (code 0) L5 := ⟨mu5, fun ⟨x1, x2, x3, x4, x5, ()⟩ hp => rounds_ok (show L5.step E H (code 0) (x1, (x2, (x3, (x4, (x5, ()))))) = raw5 x1 x2 x3 x4 x5 from by kernel_rfl) (ok5 x1 x2 x3 x4 x5 hp)⟩
theorem lok10 : LoopOk E H (code 1) L10 := ⟨mu10, fun ⟨x1, x2, x3, x4, x5, ()⟩ hp => rounds_ok (show L10.step E H (code 1) (x1, (x2, (x3, (x4, (x5, ()))))) = raw10 x1 x2 x3 x4 x5 from by kernel_rfl) (ok10 x1 x2 x3 x4 x5 hp)⟩
theorem env : EnvOk Tryz.prog E := env_cons spec_l1In.known (env_cons spec_LastOf.known (env_cons spec_KeepOk.known (env_cons spec_HardOk.known (env_cons spec_RpcOk.known (env_cons spec_DiskOk.known (env_nil tys))))))
theorem loops : ∀ c, Tryz.f142.body = some c → LoopsOk E H c := loops_of (by kernel_rfl) (by kernel_rfl) fun i l h => match i, h with
  | 0, h => Option.some.inj h ▸ lok5
  | 1, h => Option.some.inj h ▸ lok10
  | n + 2, h => by cases h
theorem sound : Sound Tryz.prog 142 fs := fn_sound env mixed Tryz.func142 H loops fun ⟨x0, x1, x2, ()⟩ hw hp => (show runFn E H Tryz.f142 fs.ps fs.rs (x0, (x1, (x2, ()))) = raw x0 x1 x2 from by kernel_rfl).trans (eq x0 x1 x2 hw hp)
theorem known : Seen Tryz.prog 142 fs := ⟨sound, _, Tryz.func142, by kernel_rfl, by kernel_rfl⟩
end spec_PeerOk
namespace spec_PeerNew
noncomputable def fs : FS := ⟨[(.val tyS211 .f), (.val (.int .i64) .f), (.val (.int .i64) .f)], [(tyS23, .o), (.bool, .o)], fun x => spec_PeerNew.pre x.1 x.2.1 x.2.2.1, fun x => ((), ((spec_PeerNew x.1 x.2.1 x.2.2.1).1, ((spec_PeerNew x.1 x.2.1 x.2.2.1).2, ())))⟩
noncomputable def E : Env := ⟨theta, [(118, spec_l1In.fs), (94, spec_SetupOk.fs), (39, spec_KeepNew.fs), (87, spec_HardNew.fs), (141, spec_l12Ones.fs), (142, spec_PeerOk.fs)], []⟩
noncomputable def H : List LC := []
theorem env : EnvOk Tryz.prog E := env_cons spec_l1In.known (env_cons spec_SetupOk.known (env_cons spec_KeepNew.known (env_cons spec_HardNew.known (env_cons spec_l12Ones.known (env_cons spec_PeerOk.known (env_nil tys))))))
theorem loops : ∀ c, Tryz.f43.body = some c → LoopsOk E H c := loops_none (by kernel_rfl)
theorem sound : Sound Tryz.prog 43 fs := fn_sound env mixed Tryz.func43 H loops fun ⟨x0, x1, x2, ()⟩ hw hp => (show runFn E H Tryz.f43 fs.ps fs.rs (x0, (x1, (x2, ()))) = raw x0 x1 x2 from by kernel_rfl).trans (eq x0 x1 x2 hw hp)
theorem known : Seen Tryz.prog 43 fs := ⟨sound, _, Tryz.func43, by kernel_rfl, by kernel_rfl⟩
end spec_PeerNew
namespace laws_markText
noncomputable def fs : FS := ⟨[(.val (.int .i64) .f)], [(.str, .o)], fun x => laws_markText.pre x.1, fun x => ((), ((laws_markText x.1), ()))⟩
noncomputable def E : Env := ⟨theta, [], []⟩
noncomputable def sh4 : ShSt := ⟨(ui :: uu :: uu :: (.one (.dat .str)) :: un 16 []), []⟩
noncomputable def outs4 : List OutC := [⟨(.exit 0), ⟨0, [3], []⟩, ⟨(uu :: uu :: uu :: (.one (.dat .str)) :: un 16 []), []⟩⟩]
noncomputable def L4 : LC := ⟨4, ⟨4, [0, 3], []⟩, sh4, outs4, pre4, fn4⟩
noncomputable def H : List LC := [L4]
noncomputable def code (i : Nat) : Code := (loopsOf (bodyOf Tryz.f184)).getD i .skip
theorem lok4 : LoopOk E H (code 0) L4 := ⟨mu4, fun ⟨x1, x2, ()⟩ hp => rounds_ok (show L4.step E H (code 0) (x1, (x2, ())) = raw4 x1 x2 from by kernel_rfl) (ok4 x1 x2 hp)⟩
theorem env : EnvOk Tryz.prog E := env_nil tys
theorem loops : ∀ c, Tryz.f184.body = some c → LoopsOk E H c := loops_of (by kernel_rfl) (by kernel_rfl) fun i l h => match i, h with
  | 0, h => Option.some.inj h ▸ lok4
  | n + 1, h => by cases h
theorem sound : Sound Tryz.prog 184 fs := fn_sound env mixed Tryz.func184 H loops fun ⟨x0, ()⟩ hw hp => (show runFn E H Tryz.f184 fs.ps fs.rs (x0, ()) = raw x0 from by kernel_rfl).trans (eq x0 hw hp)
theorem known : Seen Tryz.prog 184 fs := ⟨sound, _, Tryz.func184, by kernel_rfl, by kernel_rfl⟩
end laws_markText
namespace laws_markEntryS
noncomputable def ob1 : List (Nat × ShO) := [(40000001, (.arr 167 tyS22))]
noncomputable def fs : FS := ⟨[(.mut (.sl 167 tyS22)), (.val (.int .i64) .f)], [((.int .i64), .o)], fun x => laws_markEntryS.pre x.1 x.2.1, fun x => (((laws_markEntryS x.1 x.2.1).1, ()), ((laws_markEntryS x.1 x.2.1).2, ()))⟩
noncomputable def E : Env := ⟨theta, [(184, laws_markText.fs)], []⟩
noncomputable def sh2 : ShSt := ⟨((.one (.arr 40000001)) :: ui :: uu :: uu :: uu :: ui :: un 80 []), ob1⟩
noncomputable def outs2 : List OutC := [⟨(.exit 0), ⟨0, [1, 0], []⟩, ⟨((.one (.arr 40000001)) :: ui :: un 84 []), ob1⟩⟩]
noncomputable def L2 : LC := ⟨2, ⟨2, [0, 1, 5], []⟩, sh2, outs2, pre2, fn2⟩
noncomputable def H : List LC := [L2]
noncomputable def code (i : Nat) : Code := (loopsOf (bodyOf Tryz.f176)).getD i .skip
theorem lok2 : LoopOk E H (code 0) L2 := ⟨mu2, fun ⟨x1, x2, x3, ()⟩ hp => rounds_ok (show L2.step E H (code 0) (x1, (x2, (x3, ()))) = raw2 x1 x2 x3 from by kernel_rfl) (ok2 x1 x2 x3 hp)⟩
theorem env : EnvOk Tryz.prog E := env_cons laws_markText.known (env_nil tys)
theorem loops : ∀ c, Tryz.f176.body = some c → LoopsOk E H c := loops_of (by kernel_rfl) (by kernel_rfl) fun i l h => match i, h with
  | 0, h => Option.some.inj h ▸ lok2
  | n + 1, h => by cases h
theorem sound : Sound Tryz.prog 176 fs := fn_sound env mixed Tryz.func176 H loops fun ⟨x0, x1, ()⟩ hw hp => (show runFn E H Tryz.f176 fs.ps fs.rs (x0, (x1, ())) = raw x0 x1 from by kernel_rfl).trans (eq x0 x1 hw hp)
theorem known : Seen Tryz.prog 176 fs := ⟨sound, _, Tryz.func176, by kernel_rfl, by kernel_rfl⟩
end laws_markEntryS
namespace laws_markLog
noncomputable def fs : FS := ⟨[(.mut tyS212), (.val (.int .i64) .f)], [((.int .i64), .o)], fun x => laws_markLog.pre x.1 x.2.1, fun x => (((laws_markLog x.1 x.2.1).1, ()), ((laws_markLog x.1 x.2.1).2, ()))⟩
noncomputable def E : Env := ⟨theta, [(176, laws_markEntryS.fs)], []⟩
noncomputable def H : List LC := []
theorem env : EnvOk Tryz.prog E := env_cons laws_markEntryS.known (env_nil tys)
theorem loops : ∀ c, Tryz.f192.body = some c → LoopsOk E H c := loops_none (by kernel_rfl)
theorem sound : Sound Tryz.prog 192 fs := fn_sound env mixed Tryz.func192 H loops fun ⟨x0, x1, ()⟩ hw hp => (show runFn E H Tryz.f192 fs.ps fs.rs (x0, (x1, ())) = raw x0 x1 from by kernel_rfl).trans (eq x0 x1 hw hp)
theorem known : Seen Tryz.prog 192 fs := ⟨sound, _, Tryz.func192, by kernel_rfl, by kernel_rfl⟩
end laws_markLog
namespace laws_markItemS
noncomputable def ob1 : List (Nat × ShO) := [(40000001, (.arr 44 tyS213))]
noncomputable def fs : FS := ⟨[(.mut (.sl 44 tyS213)), (.val (.int .i64) .f)], [((.int .i64), .o)], fun x => laws_markItemS.pre x.1 x.2.1, fun x => (((laws_markItemS x.1 x.2.1).1, ()), ((laws_markItemS x.1 x.2.1).2, ()))⟩
noncomputable def E : Env := ⟨theta, [(184, laws_markText.fs)], []⟩
noncomputable def sh2 : ShSt := ⟨((.one (.arr 40000001)) :: ui :: uu :: uu :: uu :: ui :: un 44 []), ob1⟩
noncomputable def outs2 : List OutC := [⟨(.exit 0), ⟨0, [1, 0], []⟩, ⟨((.one (.arr 40000001)) :: ui :: un 48 []), ob1⟩⟩]
noncomputable def L2 : LC := ⟨2, ⟨2, [0, 1, 5], []⟩, sh2, outs2, pre2, fn2⟩
noncomputable def H : List LC := [L2]
noncomputable def code (i : Nat) : Code := (loopsOf (bodyOf Tryz.f273)).getD i .skip
theorem lok2 : LoopOk E H (code 0) L2 := ⟨mu2, fun ⟨x1, x2, x3, ()⟩ hp => rounds_ok (show L2.step E H (code 0) (x1, (x2, (x3, ()))) = raw2 x1 x2 x3 from by kernel_rfl) (ok2 x1 x2 x3 hp)⟩
theorem env : EnvOk Tryz.prog E := env_cons laws_markText.known (env_nil tys)
theorem loops : ∀ c, Tryz.f273.body = some c → LoopsOk E H c := loops_of (by kernel_rfl) (by kernel_rfl) fun i l h => match i, h with
  | 0, h => Option.some.inj h ▸ lok2
  | n + 1, h => by cases h
theorem sound : Sound Tryz.prog 273 fs := fn_sound env mixed Tryz.func273 H loops fun ⟨x0, x1, ()⟩ hw hp => (show runFn E H Tryz.f273 fs.ps fs.rs (x0, (x1, ())) = raw x0 x1 from by kernel_rfl).trans (eq x0 x1 hw hp)
theorem known : Seen Tryz.prog 273 fs := ⟨sound, _, Tryz.func273, by kernel_rfl, by kernel_rfl⟩
end laws_markItemS
namespace laws_markRowS
noncomputable def ob1 : List (Nat × ShO) := [(40000001, (.arr 42 tyS27))]
noncomputable def fs : FS := ⟨[(.mut (.sl 42 tyS27)), (.val (.int .i64) .f)], [((.int .i64), .o)], fun x => laws_markRowS.pre x.1 x.2.1, fun x => (((laws_markRowS x.1 x.2.1).1, ()), ((laws_markRowS x.1 x.2.1).2, ()))⟩
noncomputable def E : Env := ⟨theta, [(273, laws_markItemS.fs)], []⟩
noncomputable def sh2 : ShSt := ⟨((.one (.arr 40000001)) :: ui :: uu :: uu :: uu :: ui :: un 28 []), ob1⟩
noncomputable def outs2 : List OutC := [⟨(.exit 0), ⟨0, [1, 0], []⟩, ⟨((.one (.arr 40000001)) :: ui :: un 32 []), ob1⟩⟩]
noncomputable def L2 : LC := ⟨2, ⟨2, [0, 1, 5], []⟩, sh2, outs2, pre2, fn2⟩
noncomputable def H : List LC := [L2]
noncomputable def code (i : Nat) : Code := (loopsOf (bodyOf Tryz.f185)).getD i .skip
theorem lok2 : LoopOk E H (code 0) L2 := ⟨mu2, fun ⟨x1, x2, x3, ()⟩ hp => rounds_ok (show L2.step E H (code 0) (x1, (x2, (x3, ()))) = raw2 x1 x2 x3 from by kernel_rfl) (ok2 x1 x2 x3 hp)⟩
theorem env : EnvOk Tryz.prog E := env_cons laws_markItemS.known (env_nil tys)
theorem loops : ∀ c, Tryz.f185.body = some c → LoopsOk E H c := loops_of (by kernel_rfl) (by kernel_rfl) fun i l h => match i, h with
  | 0, h => Option.some.inj h ▸ lok2
  | n + 1, h => by cases h
theorem sound : Sound Tryz.prog 185 fs := fn_sound env mixed Tryz.func185 H loops fun ⟨x0, x1, ()⟩ hw hp => (show runFn E H Tryz.f185 fs.ps fs.rs (x0, (x1, ())) = raw x0 x1 from by kernel_rfl).trans (eq x0 x1 hw hp)
theorem known : Seen Tryz.prog 185 fs := ⟨sound, _, Tryz.func185, by kernel_rfl, by kernel_rfl⟩
end laws_markRowS
namespace laws_markMarkS
noncomputable def ob1 : List (Nat × ShO) := [(40000001, (.arr 254 tyS24))]
noncomputable def fs : FS := ⟨[(.mut (.sl 254 tyS24)), (.val (.int .i64) .f)], [((.int .i64), .o)], fun x => laws_markMarkS.pre x.1 x.2.1, fun x => (((laws_markMarkS x.1 x.2.1).1, ()), ((laws_markMarkS x.1 x.2.1).2, ()))⟩
noncomputable def E : Env := ⟨theta, [], []⟩
noncomputable def sh2 : ShSt := ⟨((.one (.arr 40000001)) :: ui :: uu :: uu :: uu :: ui :: un 21 []), ob1⟩
noncomputable def outs2 : List OutC := [⟨(.exit 0), ⟨0, [1, 0], []⟩, ⟨((.one (.arr 40000001)) :: ui :: un 25 []), ob1⟩⟩]
noncomputable def L2 : LC := ⟨2, ⟨2, [0, 1, 5], []⟩, sh2, outs2, pre2, fn2⟩
noncomputable def H : List LC := [L2]
noncomputable def code (i : Nat) : Code := (loopsOf (bodyOf Tryz.f274)).getD i .skip
theorem lok2 : LoopOk E H (code 0) L2 := ⟨mu2, fun ⟨x1, x2, x3, ()⟩ hp => rounds_ok (show L2.step E H (code 0) (x1, (x2, (x3, ()))) = raw2 x1 x2 x3 from by kernel_rfl) (ok2 x1 x2 x3 hp)⟩
theorem env : EnvOk Tryz.prog E := env_nil tys
theorem loops : ∀ c, Tryz.f274.body = some c → LoopsOk E H c := loops_of (by kernel_rfl) (by kernel_rfl) fun i l h => match i, h with
  | 0, h => Option.some.inj h ▸ lok2
  | n + 1, h => by cases h
theorem sound : Sound Tryz.prog 274 fs := fn_sound env mixed Tryz.func274 H loops fun ⟨x0, x1, ()⟩ hw hp => (show runFn E H Tryz.f274 fs.ps fs.rs (x0, (x1, ())) = raw x0 x1 from by kernel_rfl).trans (eq x0 x1 hw hp)
theorem known : Seen Tryz.prog 274 fs := ⟨sound, _, Tryz.func274, by kernel_rfl, by kernel_rfl⟩
end laws_markMarkS
namespace laws_markMakerS
noncomputable def ob1 : List (Nat × ShO) := [(40000001, (.arr 156 tyS28))]
noncomputable def fs : FS := ⟨[(.mut (.sl 156 tyS28)), (.val (.int .i64) .f)], [((.int .i64), .o)], fun x => laws_markMakerS.pre x.1 x.2.1, fun x => (((laws_markMakerS x.1 x.2.1).1, ()), ((laws_markMakerS x.1 x.2.1).2, ()))⟩
noncomputable def E : Env := ⟨theta, [(274, laws_markMarkS.fs)], []⟩
noncomputable def sh2 : ShSt := ⟨((.one (.arr 40000001)) :: ui :: uu :: uu :: uu :: ui :: un 42 []), ob1⟩
noncomputable def outs2 : List OutC := [⟨(.exit 0), ⟨0, [1, 0], []⟩, ⟨((.one (.arr 40000001)) :: ui :: un 46 []), ob1⟩⟩]
noncomputable def L2 : LC := ⟨2, ⟨2, [0, 1, 5], []⟩, sh2, outs2, pre2, fn2⟩
noncomputable def H : List LC := [L2]
noncomputable def code (i : Nat) : Code := (loopsOf (bodyOf Tryz.f186)).getD i .skip
theorem lok2 : LoopOk E H (code 0) L2 := ⟨mu2, fun ⟨x1, x2, x3, ()⟩ hp => rounds_ok (show L2.step E H (code 0) (x1, (x2, (x3, ()))) = raw2 x1 x2 x3 from by kernel_rfl) (ok2 x1 x2 x3 hp)⟩
theorem env : EnvOk Tryz.prog E := env_cons laws_markMarkS.known (env_nil tys)
theorem loops : ∀ c, Tryz.f186.body = some c → LoopsOk E H c := loops_of (by kernel_rfl) (by kernel_rfl) fun i l h => match i, h with
  | 0, h => Option.some.inj h ▸ lok2
  | n + 1, h => by cases h
theorem sound : Sound Tryz.prog 186 fs := fn_sound env mixed Tryz.func186 H loops fun ⟨x0, x1, ()⟩ hw hp => (show runFn E H Tryz.f186 fs.ps fs.rs (x0, (x1, ())) = raw x0 x1 from by kernel_rfl).trans (eq x0 x1 hw hp)
theorem known : Seen Tryz.prog 186 fs := ⟨sound, _, Tryz.func186, by kernel_rfl, by kernel_rfl⟩
end laws_markMakerS
namespace laws_markIntS
noncomputable def fs : FS := ⟨[(.mut (.sl 3 (.int .i64))), (.val (.int .i64) .f)], [((.int .i64), .o)], fun x => laws_markIntS.pre x.1 x.2.1, fun x => (((laws_markIntS x.1 x.2.1).1, ()), ((laws_markIntS x.1 x.2.1).2, ()))⟩
noncomputable def E : Env := ⟨theta, [], []⟩
noncomputable def sh2 : ShSt := ⟨((.one (.arr 40000001)) :: ui :: uu :: uu :: uu :: ui :: un 13 []), [(40000001, (.arr 3 (.int .i64)))]⟩
noncomputable def outs2 : List OutC := [⟨(.exit 0), ⟨0, [1, 0], []⟩, ⟨((.one (.arr 40000001)) :: ui :: un 17 []), [(40000001, (.arr 3 (.int .i64)))]⟩⟩]
noncomputable def L2 : LC := ⟨2, ⟨2, [0, 1, 5], []⟩, sh2, outs2, pre2, fn2⟩
noncomputable def H : List LC := [L2]
noncomputable def code (i : Nat) : Code := (loopsOf (bodyOf Tryz.f150)).getD i .skip
theorem lok2 : LoopOk E H (code 0) L2 := ⟨mu2, fun ⟨x1, x2, x3, ()⟩ hp => rounds_ok (show L2.step E H (code 0) (x1, (x2, (x3, ()))) = raw2 x1 x2 x3 from by kernel_rfl) (ok2 x1 x2 x3 hp)⟩
theorem env : EnvOk Tryz.prog E := env_nil tys
theorem loops : ∀ c, Tryz.f150.body = some c → LoopsOk E H c := loops_of (by kernel_rfl) (by kernel_rfl) fun i l h => match i, h with
  | 0, h => Option.some.inj h ▸ lok2
  | n + 1, h => by cases h
theorem sound : Sound Tryz.prog 150 fs := fn_sound env mixed Tryz.func150 H loops fun ⟨x0, x1, ()⟩ hw hp => (show runFn E H Tryz.f150 fs.ps fs.rs (x0, (x1, ())) = raw x0 x1 from by kernel_rfl).trans (eq x0 x1 hw hp)
theorem known : Seen Tryz.prog 150 fs := ⟨sound, _, Tryz.func150, by kernel_rfl, by kernel_rfl⟩
end laws_markIntS
namespace laws_markGroupS
noncomputable def ob1 : List (Nat × ShO) := [(40000001, (.arr 159 tyS25))]
noncomputable def fs : FS := ⟨[(.mut (.sl 159 tyS25)), (.val (.int .i64) .f)], [((.int .i64), .o)], fun x => laws_markGroupS.pre x.1 x.2.1, fun x => (((laws_markGroupS x.1 x.2.1).1, ()), ((laws_markGroupS x.1 x.2.1).2, ()))⟩
noncomputable def E : Env := ⟨theta, [(150, laws_markIntS.fs)], []⟩
noncomputable def sh2 : ShSt := ⟨((.one (.arr 40000001)) :: ui :: uu :: uu :: uu :: ui :: un 35 []), ob1⟩
noncomputable def outs2 : List OutC := [⟨(.exit 0), ⟨0, [1, 0], []⟩, ⟨((.one (.arr 40000001)) :: ui :: un 39 []), ob1⟩⟩]
noncomputable def L2 : LC := ⟨2, ⟨2, [0, 1, 5], []⟩, sh2, outs2, pre2, fn2⟩
noncomputable def H : List LC := [L2]
noncomputable def code (i : Nat) : Code := (loopsOf (bodyOf Tryz.f187)).getD i .skip
theorem lok2 : LoopOk E H (code 0) L2 := ⟨mu2, fun ⟨x1, x2, x3, ()⟩ hp => rounds_ok (show L2.step E H (code 0) (x1, (x2, (x3, ()))) = raw2 x1 x2 x3 from by kernel_rfl) (ok2 x1 x2 x3 hp)⟩
theorem env : EnvOk Tryz.prog E := env_cons laws_markIntS.known (env_nil tys)
theorem loops : ∀ c, Tryz.f187.body = some c → LoopsOk E H c := loops_of (by kernel_rfl) (by kernel_rfl) fun i l h => match i, h with
  | 0, h => Option.some.inj h ▸ lok2
  | n + 1, h => by cases h
theorem sound : Sound Tryz.prog 187 fs := fn_sound env mixed Tryz.func187 H loops fun ⟨x0, x1, ()⟩ hw hp => (show runFn E H Tryz.f187 fs.ps fs.rs (x0, (x1, ())) = raw x0 x1 from by kernel_rfl).trans (eq x0 x1 hw hp)
theorem known : Seen Tryz.prog 187 fs := ⟨sound, _, Tryz.func187, by kernel_rfl, by kernel_rfl⟩
end laws_markGroupS
namespace laws_markAnswerS
noncomputable def ob1 : List (Nat × ShO) := [(40000001, (.arr 48 tyS29))]
noncomputable def fs : FS := ⟨[(.mut (.sl 48 tyS29)), (.val (.int .i64) .f)], [((.int .i64), .o)], fun x => laws_markAnswerS.pre x.1 x.2.1, fun x => (((laws_markAnswerS x.1 x.2.1).1, ()), ((laws_markAnswerS x.1 x.2.1).2, ()))⟩
noncomputable def E : Env := ⟨theta, [(184, laws_markText.fs)], []⟩
noncomputable def sh2 : ShSt := ⟨((.one (.arr 40000001)) :: ui :: uu :: uu :: uu :: ui :: un 37 []), ob1⟩
noncomputable def outs2 : List OutC := [⟨(.exit 0), ⟨0, [1, 0], []⟩, ⟨((.one (.arr 40000001)) :: ui :: un 41 []), ob1⟩⟩]
noncomputable def L2 : LC := ⟨2, ⟨2, [0, 1, 5], []⟩, sh2, outs2, pre2, fn2⟩
noncomputable def H : List LC := [L2]
noncomputable def code (i : Nat) : Code := (loopsOf (bodyOf Tryz.f64)).getD i .skip
theorem lok2 : LoopOk E H (code 0) L2 := ⟨mu2, fun ⟨x1, x2, x3, ()⟩ hp => rounds_ok (show L2.step E H (code 0) (x1, (x2, (x3, ()))) = raw2 x1 x2 x3 from by kernel_rfl) (ok2 x1 x2 x3 hp)⟩
theorem env : EnvOk Tryz.prog E := env_cons laws_markText.known (env_nil tys)
theorem loops : ∀ c, Tryz.f64.body = some c → LoopsOk E H c := loops_of (by kernel_rfl) (by kernel_rfl) fun i l h => match i, h with
  | 0, h => Option.some.inj h ▸ lok2
  | n + 1, h => by cases h
theorem sound : Sound Tryz.prog 64 fs := fn_sound env mixed Tryz.func64 H loops fun ⟨x0, x1, ()⟩ hw hp => (show runFn E H Tryz.f64 fs.ps fs.rs (x0, (x1, ())) = raw x0 x1 from by kernel_rfl).trans (eq x0 x1 hw hp)
theorem known : Seen Tryz.prog 64 fs := ⟨sound, _, Tryz.func64, by kernel_rfl, by kernel_rfl⟩
end laws_markAnswerS
namespace laws_markKeep
noncomputable def fs : FS := ⟨[(.mut tyS21), (.val (.int .i64) .f)], [((.int .i64), .o)], fun x => laws_markKeep.pre x.1 x.2.1, fun x => (((laws_markKeep x.1 x.2.1).1, ()), ((laws_markKeep x.1 x.2.1).2, ()))⟩
noncomputable def E : Env := ⟨theta, [(185, laws_markRowS.fs), (186, laws_markMakerS.fs), (150, laws_markIntS.fs), (187, laws_markGroupS.fs), (64, laws_markAnswerS.fs)], []⟩
noncomputable def H : List LC := []
theorem env : EnvOk Tryz.prog E := env_cons laws_markRowS.known (env_cons laws_markMakerS.known (env_cons laws_markIntS.known (env_cons laws_markGroupS.known (env_cons laws_markAnswerS.known (env_nil tys)))))
theorem loops : ∀ c, Tryz.f63.body = some c → LoopsOk E H c := loops_none (by kernel_rfl)
theorem sound : Sound Tryz.prog 63 fs := fn_sound env mixed Tryz.func63 H loops fun ⟨x0, x1, ()⟩ hw hp => (show runFn E H Tryz.f63 fs.ps fs.rs (x0, (x1, ())) = raw x0 x1 from by kernel_rfl).trans (eq x0 x1 hw hp)
theorem known : Seen Tryz.prog 63 fs := ⟨sound, _, Tryz.func63, by kernel_rfl, by kernel_rfl⟩
end laws_markKeep
namespace laws_markHard
noncomputable def fs : FS := ⟨[(.mut (.pair (.int .i64) (.pair (.int .i64) (.pair tyS212 (.pair tyS21 .unit))))), (.val (.int .i64) .f)], [((.int .i64), .o)], fun x => laws_markHard.pre x.1 x.2.1, fun x => (((laws_markHard x.1 x.2.1).1, ()), ((laws_markHard x.1 x.2.1).2, ()))⟩
noncomputable def E : Env := ⟨theta, [(192, laws_markLog.fs), (63, laws_markKeep.fs)], []⟩
noncomputable def H : List LC := []
theorem env : EnvOk Tryz.prog E := env_cons laws_markLog.known (env_cons laws_markKeep.known (env_nil tys))
theorem loops : ∀ c, Tryz.f73.body = some c → LoopsOk E H c := loops_none (by kernel_rfl)
theorem sound : Sound Tryz.prog 73 fs := fn_sound env mixed Tryz.func73 H loops fun ⟨x0, x1, ()⟩ hw hp => (show runFn E H Tryz.f73 fs.ps fs.rs (x0, (x1, ())) = raw x0 x1 from by kernel_rfl).trans (eq x0 x1 hw hp)
theorem known : Seen Tryz.prog 73 fs := ⟨sound, _, Tryz.func73, by kernel_rfl, by kernel_rfl⟩
end laws_markHard
namespace laws_markBoolS
noncomputable def fs : FS := ⟨[(.mut (.sl 4 .bool)), (.val (.int .i64) .f)], [((.int .i64), .o)], fun x => laws_markBoolS.pre x.1 x.2.1, fun x => (((laws_markBoolS x.1 x.2.1).1, ()), ((laws_markBoolS x.1 x.2.1).2, ()))⟩
noncomputable def E : Env := ⟨theta, [], []⟩
noncomputable def sh2 : ShSt := ⟨((.one (.arr 40000001)) :: ui :: uu :: uu :: uu :: ui :: un 15 []), [(40000001, (.arr 4 .bool))]⟩
noncomputable def outs2 : List OutC := [⟨(.exit 0), ⟨0, [1, 0], []⟩, ⟨((.one (.arr 40000001)) :: ui :: un 19 []), [(40000001, (.arr 4 .bool))]⟩⟩]
noncomputable def L2 : LC := ⟨2, ⟨2, [0, 1, 5], []⟩, sh2, outs2, pre2, fn2⟩
noncomputable def H : List LC := [L2]
noncomputable def code (i : Nat) : Code := (loopsOf (bodyOf Tryz.f149)).getD i .skip
theorem lok2 : LoopOk E H (code 0) L2 := ⟨mu2, fun ⟨x1, x2, x3, ()⟩ hp => rounds_ok (show L2.step E H (code 0) (x1, (x2, (x3, ()))) = raw2 x1 x2 x3 from by kernel_rfl) (ok2 x1 x2 x3 hp)⟩
theorem env : EnvOk Tryz.prog E := env_nil tys
theorem loops : ∀ c, Tryz.f149.body = some c → LoopsOk E H c := loops_of (by kernel_rfl) (by kernel_rfl) fun i l h => match i, h with
  | 0, h => Option.some.inj h ▸ lok2
  | n + 1, h => by cases h
theorem sound : Sound Tryz.prog 149 fs := fn_sound env mixed Tryz.func149 H loops fun ⟨x0, x1, ()⟩ hw hp => (show runFn E H Tryz.f149 fs.ps fs.rs (x0, (x1, ())) = raw x0 x1 from by kernel_rfl).trans (eq x0 x1 hw hp)
theorem known : Seen Tryz.prog 149 fs := ⟨sound, _, Tryz.func149, by kernel_rfl, by kernel_rfl⟩
end laws_markBoolS
namespace laws_markByteS
noncomputable def fs : FS := ⟨[(.mut (.sl 5 (.int .u8))), (.val (.int .i64) .f)], [((.int .i64), .o)], fun x => laws_markByteS.pre x.1 x.2.1, fun x => (((laws_markByteS x.1 x.2.1).1, ()), ((laws_markByteS x.1 x.2.1).2, ()))⟩
noncomputable def E : Env := ⟨theta, [], []⟩
noncomputable def sh2 : ShSt := ⟨((.one (.arr 40000001)) :: ui :: uu :: uu :: uu :: ui :: un 14 []), [(40000001, (.arr 5 (.int .u8)))]⟩
noncomputable def outs2 : List OutC := [⟨(.exit 0), ⟨0, [1, 0], []⟩, ⟨((.one (.arr 40000001)) :: ui :: un 18 []), [(40000001, (.arr 5 (.int .u8)))]⟩⟩]
noncomputable def L2 : LC := ⟨2, ⟨2, [0, 1, 5], []⟩, sh2, outs2, pre2, fn2⟩
noncomputable def H : List LC := [L2]
noncomputable def code (i : Nat) : Code := (loopsOf (bodyOf Tryz.f72)).getD i .skip
theorem lok2 : LoopOk E H (code 0) L2 := ⟨mu2, fun ⟨x1, x2, x3, ()⟩ hp => rounds_ok (show L2.step E H (code 0) (x1, (x2, (x3, ()))) = raw2 x1 x2 x3 from by kernel_rfl) (ok2 x1 x2 x3 hp)⟩
theorem env : EnvOk Tryz.prog E := env_nil tys
theorem loops : ∀ c, Tryz.f72.body = some c → LoopsOk E H c := loops_of (by kernel_rfl) (by kernel_rfl) fun i l h => match i, h with
  | 0, h => Option.some.inj h ▸ lok2
  | n + 1, h => by cases h
theorem sound : Sound Tryz.prog 72 fs := fn_sound env mixed Tryz.func72 H loops fun ⟨x0, x1, ()⟩ hw hp => (show runFn E H Tryz.f72 fs.ps fs.rs (x0, (x1, ())) = raw x0 x1 from by kernel_rfl).trans (eq x0 x1 hw hp)
theorem known : Seen Tryz.prog 72 fs := ⟨sound, _, Tryz.func72, by kernel_rfl, by kernel_rfl⟩
end laws_markByteS
namespace laws_markDisk
noncomputable def fs : FS := ⟨[(.mut (.pair (.sl 5 (.int .u8)) (.pair (.int .i64) .unit))), (.val (.int .i64) .f)], [((.int .i64), .o)], fun x => laws_markDisk.pre x.1 x.2.1, fun x => (((laws_markDisk x.1 x.2.1).1, ()), ((laws_markDisk x.1 x.2.1).2, ()))⟩
noncomputable def E : Env := ⟨theta, [(72, laws_markByteS.fs)], []⟩
noncomputable def H : List LC := []
theorem env : EnvOk Tryz.prog E := env_cons laws_markByteS.known (env_nil tys)
theorem loops : ∀ c, Tryz.f151.body = some c → LoopsOk E H c := loops_none (by kernel_rfl)
theorem sound : Sound Tryz.prog 151 fs := fn_sound env mixed Tryz.func151 H loops fun ⟨x0, x1, ()⟩ hw hp => (show runFn E H Tryz.f151 fs.ps fs.rs (x0, (x1, ())) = raw x0 x1 from by kernel_rfl).trans (eq x0 x1 hw hp)
theorem known : Seen Tryz.prog 151 fs := ⟨sound, _, Tryz.func151, by kernel_rfl, by kernel_rfl⟩
end laws_markDisk
namespace laws_markRpcS
noncomputable def ob1 : List (Nat × ShO) := [(40000001, (.arr 113 tyS26))]
noncomputable def fs : FS := ⟨[(.mut (.sl 113 tyS26)), (.val (.int .i64) .f)], [((.int .i64), .o)], fun x => laws_markRpcS.pre x.1 x.2.1, fun x => (((laws_markRpcS x.1 x.2.1).1, ()), ((laws_markRpcS x.1 x.2.1).2, ()))⟩
noncomputable def E : Env := ⟨theta, [(184, laws_markText.fs), (176, laws_markEntryS.fs)], []⟩
noncomputable def sh2 : ShSt := ⟨((.one (.arr 40000001)) :: ui :: uu :: uu :: uu :: ui :: un 80 []), ob1⟩
noncomputable def outs2 : List OutC := [⟨(.exit 0), ⟨0, [1, 0], []⟩, ⟨((.one (.arr 40000001)) :: ui :: un 84 []), ob1⟩⟩]
noncomputable def L2 : LC := ⟨2, ⟨2, [0, 1, 5], []⟩, sh2, outs2, pre2, fn2⟩
noncomputable def H : List LC := [L2]
noncomputable def code (i : Nat) : Code := (loopsOf (bodyOf Tryz.f152)).getD i .skip
theorem lok2 : LoopOk E H (code 0) L2 := ⟨mu2, fun ⟨x1, x2, x3, ()⟩ hp => rounds_ok (show L2.step E H (code 0) (x1, (x2, (x3, ()))) = raw2 x1 x2 x3 from by kernel_rfl) (ok2 x1 x2 x3 hp)⟩
theorem env : EnvOk Tryz.prog E := env_cons laws_markText.known (env_cons laws_markEntryS.known (env_nil tys))
theorem loops : ∀ c, Tryz.f152.body = some c → LoopsOk E H c := loops_of (by kernel_rfl) (by kernel_rfl) fun i l h => match i, h with
  | 0, h => Option.some.inj h ▸ lok2
  | n + 1, h => by cases h
theorem sound : Sound Tryz.prog 152 fs := fn_sound env mixed Tryz.func152 H loops fun ⟨x0, x1, ()⟩ hw hp => (show runFn E H Tryz.f152 fs.ps fs.rs (x0, (x1, ())) = raw x0 x1 from by kernel_rfl).trans (eq x0 x1 hw hp)
theorem known : Seen Tryz.prog 152 fs := ⟨sound, _, Tryz.func152, by kernel_rfl, by kernel_rfl⟩
end laws_markRpcS
namespace laws_markPeer
noncomputable def fs : FS := ⟨[(.mut tyS23), (.val (.int .i64) .f)], [((.int .i64), .o)], fun x => laws_markPeer.pre x.1 x.2.1, fun x => (((laws_markPeer x.1 x.2.1).1, ()), ((laws_markPeer x.1 x.2.1).2, ()))⟩
noncomputable def E : Env := ⟨theta, [(150, laws_markIntS.fs), (63, laws_markKeep.fs), (73, laws_markHard.fs), (149, laws_markBoolS.fs), (151, laws_markDisk.fs), (152, laws_markRpcS.fs)], []⟩
noncomputable def H : List LC := []
theorem env : EnvOk Tryz.prog E := env_cons laws_markIntS.known (env_cons laws_markKeep.known (env_cons laws_markHard.known (env_cons laws_markBoolS.known (env_cons laws_markDisk.known (env_cons laws_markRpcS.known (env_nil tys))))))
theorem loops : ∀ c, Tryz.f47.body = some c → LoopsOk E H c := loops_none (by kernel_rfl)
theorem sound : Sound Tryz.prog 47 fs := fn_sound env mixed Tryz.func47 H loops fun ⟨x0, x1, ()⟩ hw hp => (show runFn E H Tryz.f47 fs.ps fs.rs (x0, (x1, ())) = raw x0 x1 from by kernel_rfl).trans (eq x0 x1 hw hp)
theorem known : Seen Tryz.prog 47 fs := ⟨sound, _, Tryz.func47, by kernel_rfl, by kernel_rfl⟩
end laws_markPeer
namespace laws_toSetup
noncomputable def fs : FS := ⟨[(.val tyS211 .f)], [(tyS211, .o)], fun _ => true, fun x => ((), ((laws_toSetup x.1), ()))⟩
noncomputable def E : Env := ⟨theta, [], []⟩
noncomputable def H : List LC := []
theorem env : EnvOk Tryz.prog E := env_nil tys
theorem loops : ∀ c, Tryz.f44.body = some c → LoopsOk E H c := loops_none (by kernel_rfl)
theorem sound : Sound Tryz.prog 44 fs := fn_sound env mixed Tryz.func44 H loops fun ⟨x0, ()⟩ hw _ => (show runFn E H Tryz.f44 fs.ps fs.rs (x0, ()) = raw x0 from by kernel_rfl).trans (eq x0 hw)
theorem known : Seen Tryz.prog 44 fs := ⟨sound, _, Tryz.func44, by kernel_rfl, by kernel_rfl⟩
end laws_toSetup
namespace impl_within
noncomputable def fs : FS := ⟨[(.val (.int .i64) .f), (.val (.int .i64) .f), (.val (.int .i64) .f)], [(.bool, .o)], fun _ => true, fun x => ((), ((impl_within x.1 x.2.1 x.2.2.1), ()))⟩
noncomputable def E : Env := ⟨theta, [], []⟩
noncomputable def H : List LC := []
theorem env : EnvOk Tryz.prog E := env_nil tys
theorem loops : ∀ c, Tryz.f101.body = some c → LoopsOk E H c := loops_none (by kernel_rfl)
theorem sound : Sound Tryz.prog 101 fs := fn_sound env mixed Tryz.func101 H loops fun ⟨x0, x1, x2, ()⟩ hw _ => (show runFn E H Tryz.f101 fs.ps fs.rs (x0, (x1, (x2, ()))) = raw x0 x1 x2 from by kernel_rfl).trans (eq x0 x1 x2 hw)
theorem known : Seen Tryz.prog 101 fs := ⟨sound, _, Tryz.func101, by kernel_rfl, by kernel_rfl⟩
end impl_within
namespace impl_SetupOk
noncomputable def fs : FS := ⟨[(.val tyS211 .f)], [(.bool, .o)], fun _ => true, fun x => ((), ((impl_SetupOk x.1), ()))⟩
noncomputable def E : Env := ⟨theta, [(101, impl_within.fs)], []⟩
noncomputable def H : List LC := []
theorem env : EnvOk Tryz.prog E := env_cons impl_within.known (env_nil tys)
theorem loops : ∀ c, Tryz.f17.body = some c → LoopsOk E H c := loops_none (by kernel_rfl)
theorem sound : Sound Tryz.prog 17 fs := fn_sound env mixed Tryz.func17 H loops fun ⟨x0, ()⟩ hw _ => (show runFn E H Tryz.f17 fs.ps fs.rs (x0, ()) = raw x0 from by kernel_rfl).trans (eq x0 hw)
theorem known : Seen Tryz.prog 17 fs := ⟨sound, _, Tryz.func17, by kernel_rfl, by kernel_rfl⟩
end impl_SetupOk
namespace impl_GroupNew
noncomputable def fs : FS := ⟨[(.val (.int .i64) .f)], [(tyS25, .o)], fun x => impl_GroupNew.pre x.1, fun x => ((), ((impl_GroupNew x.1), ()))⟩
noncomputable def E : Env := ⟨theta, [(101, impl_within.fs)], []⟩
noncomputable def H : List LC := []
theorem env : EnvOk Tryz.prog E := env_cons impl_within.known (env_nil tys)
theorem loops : ∀ c, Tryz.f127.body = some c → LoopsOk E H c := loops_none (by kernel_rfl)
theorem sound : Sound Tryz.prog 127 fs := fn_sound env mixed Tryz.func127 H loops fun ⟨x0, ()⟩ hw hp => (show runFn E H Tryz.f127 fs.ps fs.rs (x0, ()) = raw x0 from by kernel_rfl).trans (eq x0 hw hp)
theorem known : Seen Tryz.prog 127 fs := ⟨sound, _, Tryz.func127, by kernel_rfl, by kernel_rfl⟩
end impl_GroupNew
namespace impl_KeepNew
noncomputable def fs : FS := ⟨[(.val tyS211 .f)], [(tyS21, .o)], fun x => impl_KeepNew.pre x.1, fun x => ((), ((impl_KeepNew x.1), ()))⟩
noncomputable def E : Env := ⟨theta, [(17, impl_SetupOk.fs), (127, impl_GroupNew.fs)], []⟩
noncomputable def sh5 : ShSt := ⟨(uu :: (.one (.bptr 0 [] tyS211)) :: (.one (.bptr 32 [] tyS21)) :: (.one (.bptr 24768 [] tyS21)) :: ui :: un 23 []), [(0, (.box tyS211 (.dat tyS211))), (32, (.box tyS21 (.pair (.arr 20000000) (.pair (.arr 20000001) (.pair (.arr 20000002) (.pair (.dat (.int .i64)) (.pair (.arr 20000003) (.pair (.arr 20000004) (.dat .unit))))))))), (20000000, (.arr 42 tyS27)), (20000001, (.arr 156 tyS28)), (20000002, (.arr 159 tyS25)), (20000003, (.arr 3 (.int .i64))), (20000004, (.arr 48 tyS29)), (24768, (.box tyS21 (.pair (.arr 20000005) (.pair (.arr 20000006) (.pair (.arr 20000007) (.pair (.dat (.int .i64)) (.pair (.arr 20000008) (.pair (.arr 20000009) (.dat .unit))))))))), (20000005, (.arr 42 tyS27)), (20000006, (.arr 156 tyS28)), (20000007, (.arr 159 tyS25)), (20000008, (.arr 3 (.int .i64))), (20000009, (.arr 48 tyS29))]⟩
noncomputable def outs5 : List OutC := [⟨(.exit 0), ⟨0, [2, 3], []⟩, ⟨(uu :: uu :: (.one (.bptr 32 [] tyS21)) :: (.one (.bptr 24768 [] tyS21)) :: un 24 []), [(32, (.box tyS21 (.pair (.arr 20000000) (.pair (.arr 20000001) (.pair (.arr 20000002) (.pair (.dat (.int .i64)) (.pair (.arr 20000003) (.pair (.arr 20000004) (.dat .unit))))))))), (20000000, (.arr 42 tyS27)), (20000001, (.arr 156 tyS28)), (20000002, (.arr 159 tyS25)), (20000003, (.arr 3 (.int .i64))), (20000004, (.arr 48 tyS29)), (24768, (.box tyS21 (.pair (.arr 20000005) (.pair (.arr 20000006) (.pair (.arr 20000007) (.pair (.dat (.int .i64)) (.pair (.arr 20000008) (.pair (.arr 20000009) (.dat .unit))))))))), (20000005, (.arr 42 tyS27)), (20000006, (.arr 156 tyS28)), (20000007, (.arr 159 tyS25)), (20000008, (.arr 3 (.int .i64))), (20000009, (.arr 48 tyS29))]⟩⟩]
noncomputable def L5 : LC := ⟨5, ⟨5, [1, 2, 3, 4], []⟩, sh5, outs5, pre5, fn5⟩
noncomputable def H : List LC := [L5]
noncomputable def code (i : Nat) : Code := (loopsOf (bodyOf Tryz.f38)).getD i .skip
theorem lok5 : LoopOk E H (code 0) L5 := ⟨mu5, fun ⟨x1, x2, x3, x4, x5, x6, x7, x8, x9, x10, x11, x12, x13, x14, x15, x16, ()⟩ hp => rounds_ok (show L5.step E H (code 0) (x1, (x2, (x3, (x4, (x5, (x6, (x7, (x8, (x9, (x10, (x11, (x12, (x13, (x14, (x15, (x16, ())))))))))))))))) = raw5 x1 x2 x3 x4 x5 x6 x7 x8 x9 x10 x11 x12 x13 x14 x15 x16 from by kernel_rfl) (ok5 x1 x2 x3 x4 x5 x6 x7 x8 x9 x10 x11 x12 x13 x14 x15 x16 hp)⟩
theorem env : EnvOk Tryz.prog E := env_cons impl_SetupOk.known (env_cons impl_GroupNew.known (env_nil tys))
theorem loops : ∀ c, Tryz.f38.body = some c → LoopsOk E H c := loops_of (by kernel_rfl) (by kernel_rfl) fun i l h => match i, h with
  | 0, h => Option.some.inj h ▸ lok5
  | n + 1, h => by cases h
theorem sound : Sound Tryz.prog 38 fs := fn_sound env mixed Tryz.func38 H loops fun ⟨x0, ()⟩ hw hp => (show runFn E H Tryz.f38 fs.ps fs.rs (x0, ()) = raw x0 from by kernel_rfl).trans (eq x0 hw hp)
theorem known : Seen Tryz.prog 38 fs := ⟨sound, _, Tryz.func38, by kernel_rfl, by kernel_rfl⟩
end impl_KeepNew
namespace impl_HardNew
noncomputable def fs : FS := ⟨[(.val tyS211 .f)], [((.pair (.int .i64) (.pair (.int .i64) (.pair tyS212 (.pair tyS21 .unit)))), .o)], fun x => impl_HardNew.pre x.1, fun x => ((), ((impl_HardNew x.1), ()))⟩
noncomputable def E : Env := ⟨theta, [(17, impl_SetupOk.fs), (38, impl_KeepNew.fs)], []⟩
noncomputable def H : List LC := []
theorem env : EnvOk Tryz.prog E := env_cons impl_SetupOk.known (env_cons impl_KeepNew.known (env_nil tys))
theorem loops : ∀ c, Tryz.f86.body = some c → LoopsOk E H c := loops_none (by kernel_rfl)
theorem sound : Sound Tryz.prog 86 fs := fn_sound env mixed Tryz.func86 H loops fun ⟨x0, ()⟩ hw hp => (show runFn E H Tryz.f86 fs.ps fs.rs (x0, ()) = raw x0 from by kernel_rfl).trans (eq x0 hw hp)
theorem known : Seen Tryz.prog 86 fs := ⟨sound, _, Tryz.func86, by kernel_rfl, by kernel_rfl⟩
end impl_HardNew
namespace impl_ones
noncomputable def fs : FS := ⟨[(.val (.int .i64) .f)], [((.sl 3 (.int .i64)), .o)], fun x => impl_ones.pre x.1, fun x => ((), ((impl_ones x.1), ()))⟩
noncomputable def E : Env := ⟨theta, [], []⟩
noncomputable def sh3 : ShSt := ⟨(ui :: uu :: uu :: (.one (.arr 20000000)) :: ui :: un 9 []), [(20000000, (.arr 3 (.int .i64)))]⟩
noncomputable def outs3 : List OutC := [⟨(.exit 0), ⟨0, [3], [(3, (3, (.int .i64)))]⟩, ⟨(uu :: uu :: uu :: (.one (.arr 20000000)) :: un 10 []), [(20000000, (.arr 3 (.int .i64)))]⟩⟩]
noncomputable def L3 : LC := ⟨3, ⟨3, [0, 3, 4], [(3, (3, (.int .i64)))]⟩, sh3, outs3, pre3, fn3⟩
noncomputable def H : List LC := [L3]
noncomputable def code (i : Nat) : Code := (loopsOf (bodyOf Tryz.f143)).getD i .skip
theorem lok3 : LoopOk E H (code 0) L3 := ⟨mu3, fun ⟨x1, x2, x3, ()⟩ hp => rounds_ok (show L3.step E H (code 0) (x1, (x2, (x3, ()))) = raw3 x1 x2 x3 from by kernel_rfl) (ok3 x1 x2 x3 hp)⟩
theorem env : EnvOk Tryz.prog E := env_nil tys
theorem loops : ∀ c, Tryz.f143.body = some c → LoopsOk E H c := loops_of (by kernel_rfl) (by kernel_rfl) fun i l h => match i, h with
  | 0, h => Option.some.inj h ▸ lok3
  | n + 1, h => by cases h
theorem sound : Sound Tryz.prog 143 fs := fn_sound env mixed Tryz.func143 H loops fun ⟨x0, ()⟩ hw hp => (show runFn E H Tryz.f143 fs.ps fs.rs (x0, ()) = raw x0 from by kernel_rfl).trans (eq x0 hw hp)
theorem known : Seen Tryz.prog 143 fs := ⟨sound, _, Tryz.func143, by kernel_rfl, by kernel_rfl⟩
end impl_ones
namespace impl_LastOf
noncomputable def fs : FS := ⟨[(.val tyS212 .f)], [((.int .i64), .o), ((.int .i64), .o)], fun _ => true, fun x => ((), ((impl_LastOf x.1).1, ((impl_LastOf x.1).2, ())))⟩
noncomputable def E : Env := ⟨theta, [], []⟩
noncomputable def H : List LC := []
theorem env : EnvOk Tryz.prog E := env_nil tys
theorem loops : ∀ c, Tryz.f198.body = some c → LoopsOk E H c := loops_none (by kernel_rfl)
theorem sound : Sound Tryz.prog 198 fs := fn_sound env mixed Tryz.func198 H loops fun ⟨x0, ()⟩ hw _ => (show runFn E H Tryz.f198 fs.ps fs.rs (x0, ()) = raw x0 from by kernel_rfl).trans (eq x0 hw)
theorem known : Seen Tryz.prog 198 fs := ⟨sound, _, Tryz.func198, by kernel_rfl, by kernel_rfl⟩
end impl_LastOf
namespace impl_wordsOk
noncomputable def fs : FS := ⟨[(.val .str .f)], [(.bool, .o)], fun _ => true, fun x => ((), ((impl_wordsOk x.1), ()))⟩
noncomputable def E : Env := ⟨theta, [], []⟩
noncomputable def sh2 : ShSt := ⟨((.one (.dat .str)) :: uu :: uu :: ui :: un 31 []), []⟩
noncomputable def outs2 : List OutC := [⟨.ret, ⟨0, [2], []⟩, ⟨(uu :: uu :: (.one (.dat .bool)) :: un 32 []), []⟩⟩, ⟨(.exit 0), ⟨0, [0], []⟩, ⟨((.one (.dat .str)) :: un 34 []), []⟩⟩]
noncomputable def L2 : LC := ⟨2, ⟨2, [0, 3], []⟩, sh2, outs2, pre2, fn2⟩
noncomputable def H : List LC := [L2]
noncomputable def code (i : Nat) : Code := (loopsOf (bodyOf Tryz.f129)).getD i .skip
theorem lok2 : LoopOk E H (code 0) L2 := ⟨mu2, fun ⟨x1, x2, ()⟩ hp => rounds_ok (show L2.step E H (code 0) (x1, (x2, ())) = raw2 x1 x2 from by kernel_rfl) (ok2 x1 x2 hp)⟩
theorem env : EnvOk Tryz.prog E := env_nil tys
theorem loops : ∀ c, Tryz.f129.body = some c → LoopsOk E H c := loops_of (by kernel_rfl) (by kernel_rfl) fun i l h => match i, h with
  | 0, h => Option.some.inj h ▸ lok2
  | n + 1, h => by cases h
theorem sound : Sound Tryz.prog 129 fs := fn_sound env mixed Tryz.func129 H loops fun ⟨x0, ()⟩ hw _ => (show runFn E H Tryz.f129 fs.ps fs.rs (x0, ()) = raw x0 from by kernel_rfl).trans (eq x0 hw)
theorem known : Seen Tryz.prog 129 fs := ⟨sound, _, Tryz.func129, by kernel_rfl, by kernel_rfl⟩
end impl_wordsOk
namespace impl_CmdOk
noncomputable def fs : FS := ⟨[(.val (.pair (.int .i64) (.pair (.int .i64) (.pair (.int .i64) (.pair (.int .i64) tyS29)))) .f)], [(.bool, .o)], fun _ => true, fun x => ((), ((impl_CmdOk x.1), ()))⟩
noncomputable def E : Env := ⟨theta, [(101, impl_within.fs), (129, impl_wordsOk.fs)], []⟩
noncomputable def H : List LC := []
theorem env : EnvOk Tryz.prog E := env_cons impl_within.known (env_cons impl_wordsOk.known (env_nil tys))
theorem loops : ∀ c, Tryz.f103.body = some c → LoopsOk E H c := loops_none (by kernel_rfl)
theorem sound : Sound Tryz.prog 103 fs := fn_sound env mixed Tryz.func103 H loops fun ⟨x0, ()⟩ hw _ => (show runFn E H Tryz.f103 fs.ps fs.rs (x0, ()) = raw x0 from by kernel_rfl).trans (eq x0 hw)
theorem known : Seen Tryz.prog 103 fs := ⟨sound, _, Tryz.func103, by kernel_rfl, by kernel_rfl⟩
end impl_CmdOk
namespace impl_LogOk
noncomputable def fs : FS := ⟨[(.val tyS212 .f)], [(.bool, .o)], fun _ => true, fun x => ((), ((impl_LogOk x.1), ()))⟩
noncomputable def E : Env := ⟨theta, [(101, impl_within.fs), (103, impl_CmdOk.fs)], []⟩
noncomputable def sh5 : ShSt := ⟨(uu :: uu :: uu :: ui :: un 24 ((.one (.dat (.sl 167 tyS22))) :: ui :: ui :: un 17 [])), []⟩
noncomputable def outs5 : List OutC := [⟨.ret, ⟨0, [2], []⟩, ⟨(uu :: uu :: (.one (.dat .bool)) :: un 45 []), []⟩⟩, ⟨(.exit 0), ⟨0, [], []⟩, ⟨(un 48 []), []⟩⟩]
noncomputable def L5 : LC := ⟨5, ⟨5, [3, 28, 29, 30], []⟩, sh5, outs5, pre5, fn5⟩
noncomputable def H : List LC := [L5]
noncomputable def code (i : Nat) : Code := (loopsOf (bodyOf Tryz.f199)).getD i .skip
theorem lok5 : LoopOk E H (code 0) L5 := ⟨mu5, fun ⟨x1, x2, x3, x4, ()⟩ hp => rounds_ok (show L5.step E H (code 0) (x1, (x2, (x3, (x4, ())))) = raw5 x1 x2 x3 x4 from by kernel_rfl) (ok5 x1 x2 x3 x4 hp)⟩
theorem env : EnvOk Tryz.prog E := env_cons impl_within.known (env_cons impl_CmdOk.known (env_nil tys))
theorem loops : ∀ c, Tryz.f199.body = some c → LoopsOk E H c := loops_of (by kernel_rfl) (by kernel_rfl) fun i l h => match i, h with
  | 0, h => Option.some.inj h ▸ lok5
  | n + 1, h => by cases h
theorem sound : Sound Tryz.prog 199 fs := fn_sound env mixed Tryz.func199 H loops fun ⟨x0, ()⟩ hw _ => (show runFn E H Tryz.f199 fs.ps fs.rs (x0, ()) = raw x0 from by kernel_rfl).trans (eq x0 hw)
theorem known : Seen Tryz.prog 199 fs := ⟨sound, _, Tryz.func199, by kernel_rfl, by kernel_rfl⟩
end impl_LogOk
namespace impl_allWithin_1
noncomputable def fs : FS := ⟨[(.val (.int .i64) .f), (.peek (.int .i64)), (.peek (.int .i64))], [(.bool, .o)], fun x => impl_allWithin_1.pre x.1 x.2.1 x.2.2.1, fun x => ((), ((impl_allWithin_1 x.1 x.2.1 x.2.2.1), ()))⟩
noncomputable def E : Env := ⟨theta, [(101, impl_within.fs)], []⟩
noncomputable def H : List LC := []
theorem env : EnvOk Tryz.prog E := env_cons impl_within.known (env_nil tys)
theorem loops : ∀ c, Tryz.f238.body = some c → LoopsOk E H c := loops_none (by kernel_rfl)
theorem sound : Sound Tryz.prog 238 fs := fn_sound env mixed Tryz.func238 H loops fun ⟨x0, x1, x2, ()⟩ hw hp => (show runFn E H Tryz.f238 fs.ps fs.rs (x0, (x1, (x2, ()))) = raw x0 x1 x2 from by kernel_rfl).trans (eq x0 x1 x2 hw hp)
theorem known : Seen Tryz.prog 238 fs := ⟨sound, _, Tryz.func238, by kernel_rfl, by kernel_rfl⟩
end impl_allWithin_1
namespace slices_IndexFunc_Int
noncomputable def fs : FS := ⟨[(.val (.sl 3 (.int .i64)) .f), (.fn (.int .i64) .bool)], [((.int .i64), .o)], fun x => slices_IndexFunc_Int.pre x.1 x.2.1, fun x => ((), ((slices_IndexFunc_Int x.1 x.2.1), ()))⟩
noncomputable def E : Env := ⟨theta, [], []⟩
noncomputable def sh2 : ShSt := ⟨((.one (.dat (.sl 3 (.int .i64)))) :: (.one (.fn (.int .i64) .bool)) :: un 5 (ui :: ui :: un 10 [])), []⟩
noncomputable def outs2 : List OutC := [⟨.ret, ⟨0, [4], []⟩, ⟨(un 4 (ui :: un 14 [])), []⟩⟩, ⟨(.exit 0), ⟨0, [], []⟩, ⟨(un 19 []), []⟩⟩]
noncomputable def L2 : LC := ⟨2, ⟨2, [0, 1, 7, 8], []⟩, sh2, outs2, pre2, fn2⟩
noncomputable def H : List LC := [L2]
noncomputable def code (i : Nat) : Code := (loopsOf (bodyOf Tryz.f311)).getD i .skip
theorem lok2 : LoopOk E H (code 0) L2 := ⟨mu2, fun ⟨x1, x2, x3, x4, x5, ()⟩ hp => rounds_ok (show L2.step E H (code 0) (x1, (x2, (x3, (x4, (x5, ()))))) = raw2 x1 x2 x3 x4 x5 from by kernel_rfl) (ok2 x1 x2 x3 x4 x5 hp)⟩
theorem env : EnvOk Tryz.prog E := env_nil tys
theorem loops : ∀ c, Tryz.f311.body = some c → LoopsOk E H c := loops_of (by kernel_rfl) (by kernel_rfl) fun i l h => match i, h with
  | 0, h => Option.some.inj h ▸ lok2
  | n + 1, h => by cases h
theorem sound : Sound Tryz.prog 311 fs := fn_sound env mixed Tryz.func311 H loops fun ⟨x0, x1, ()⟩ hw hp => (show runFn E H Tryz.f311 fs.ps fs.rs (x0, (x1, ())) = raw x0 x1 from by kernel_rfl).trans (eq x0 x1 hw hp)
theorem known : Seen Tryz.prog 311 fs := ⟨sound, _, Tryz.func311, by kernel_rfl, by kernel_rfl⟩
end slices_IndexFunc_Int
namespace slices_ContainsFunc_Int
noncomputable def fs : FS := ⟨[(.val (.sl 3 (.int .i64)) .f), (.fn (.int .i64) .bool)], [(.bool, .o)], fun x => slices_ContainsFunc_Int.pre x.1 x.2.1, fun x => ((), ((slices_ContainsFunc_Int x.1 x.2.1), ()))⟩
noncomputable def E : Env := ⟨theta, [(311, slices_IndexFunc_Int.fs)], []⟩
noncomputable def H : List LC := []
theorem env : EnvOk Tryz.prog E := env_cons slices_IndexFunc_Int.known (env_nil tys)
theorem loops : ∀ c, Tryz.f237.body = some c → LoopsOk E H c := loops_none (by kernel_rfl)
theorem sound : Sound Tryz.prog 237 fs := fn_sound env mixed Tryz.func237 H loops fun ⟨x0, x1, ()⟩ hw hp => (show runFn E H Tryz.f237 fs.ps fs.rs (x0, (x1, ())) = raw x0 x1 from by kernel_rfl).trans (eq x0 x1 hw hp)
theorem known : Seen Tryz.prog 237 fs := ⟨sound, _, Tryz.func237, by kernel_rfl, by kernel_rfl⟩
end slices_ContainsFunc_Int
namespace impl_allWithin
noncomputable def fs : FS := ⟨[(.val (.sl 3 (.int .i64)) .f), (.val (.int .i64) .f), (.val (.int .i64) .f)], [(.bool, .o)], fun x => impl_allWithin.pre x.1 x.2.1 x.2.2.1, fun x => ((), ((impl_allWithin x.1 x.2.1 x.2.2.1), ()))⟩
noncomputable def E : Env := ⟨theta, [(238, impl_allWithin_1.fs), (237, slices_ContainsFunc_Int.fs)], []⟩
noncomputable def H : List LC := []
theorem env : EnvOk Tryz.prog E := env_cons impl_allWithin_1.known (env_cons slices_ContainsFunc_Int.known (env_nil tys))
theorem loops : ∀ c, Tryz.f131.body = some c → LoopsOk E H c := loops_none (by kernel_rfl)
theorem sound : Sound Tryz.prog 131 fs := fn_sound env mixed Tryz.func131 H loops fun ⟨x0, x1, x2, ()⟩ hw hp => (show runFn E H Tryz.f131 fs.ps fs.rs (x0, (x1, (x2, ()))) = raw x0 x1 x2 from by kernel_rfl).trans (eq x0 x1 x2 hw hp)
theorem known : Seen Tryz.prog 131 fs := ⟨sound, _, Tryz.func131, by kernel_rfl, by kernel_rfl⟩
end impl_allWithin
namespace impl_MakerOk
noncomputable def fs : FS := ⟨[(.val tyS28 .f), (.val (.int .i64) .f)], [(.bool, .o)], fun x => impl_MakerOk.pre x.1 x.2.1, fun x => ((), ((impl_MakerOk x.1 x.2.1), ()))⟩
noncomputable def E : Env := ⟨theta, [(101, impl_within.fs)], []⟩
noncomputable def sh4 : ShSt := ⟨(uu :: uu :: (.one (.bptr 0 [] tyS28)) :: un 44 ((.one (.dat (.sl 254 tyS24))) :: ui :: ui :: un 39 [])), [(0, (.box tyS28 (.dat tyS28)))]⟩
noncomputable def outs4 : List OutC := [⟨.ret, ⟨0, [4], []⟩, ⟨(un 4 ((.one (.dat .bool)) :: un 84 [])), []⟩⟩, ⟨(.exit 0), ⟨0, [], []⟩, ⟨(un 89 []), []⟩⟩]
noncomputable def L4 : LC := ⟨4, ⟨4, [2, 47, 48, 49], []⟩, sh4, outs4, pre4, fn4⟩
noncomputable def H : List LC := [L4]
noncomputable def code (i : Nat) : Code := (loopsOf (bodyOf Tryz.f132)).getD i .skip
theorem lok4 : LoopOk E H (code 0) L4 := ⟨mu4, fun ⟨x1, x2, x3, x4, ()⟩ hp => rounds_ok (show L4.step E H (code 0) (x1, (x2, (x3, (x4, ())))) = raw4 x1 x2 x3 x4 from by kernel_rfl) (ok4 x1 x2 x3 x4 hp)⟩
theorem env : EnvOk Tryz.prog E := env_cons impl_within.known (env_nil tys)
theorem loops : ∀ c, Tryz.f132.body = some c → LoopsOk E H c := loops_of (by kernel_rfl) (by kernel_rfl) fun i l h => match i, h with
  | 0, h => Option.some.inj h ▸ lok4
  | n + 1, h => by cases h
theorem sound : Sound Tryz.prog 132 fs := fn_sound env mixed Tryz.func132 H loops fun ⟨x0, x1, ()⟩ hw hp => (show runFn E H Tryz.f132 fs.ps fs.rs (x0, (x1, ())) = raw x0 x1 from by kernel_rfl).trans (eq x0 x1 hw hp)
theorem known : Seen Tryz.prog 132 fs := ⟨sound, _, Tryz.func132, by kernel_rfl, by kernel_rfl⟩
end impl_MakerOk
namespace impl_RowOk
noncomputable def fs : FS := ⟨[(.val tyS27 .f)], [(.bool, .o)], fun x => impl_RowOk.pre x.1, fun x => ((), ((impl_RowOk x.1), ()))⟩
noncomputable def E : Env := ⟨theta, [(101, impl_within.fs), (129, impl_wordsOk.fs)], []⟩
noncomputable def sh4 : ShSt := ⟨(uu :: (.one (.bptr 0 [] tyS27)) :: un 21 ((.one (.dat (.sl 44 tyS213))) :: ui :: ui :: un 54 [])), [(0, (.box tyS27 (.dat tyS27)))]⟩
noncomputable def outs4 : List OutC := [⟨.ret, ⟨0, [2], []⟩, ⟨(uu :: uu :: (.one (.dat .bool)) :: un 77 []), []⟩⟩, ⟨(.exit 0), ⟨0, [], []⟩, ⟨(un 80 []), []⟩⟩]
noncomputable def L4 : LC := ⟨4, ⟨4, [1, 23, 24, 25], []⟩, sh4, outs4, pre4, fn4⟩
noncomputable def H : List LC := [L4]
noncomputable def code (i : Nat) : Code := (loopsOf (bodyOf Tryz.f135)).getD i .skip
theorem lok4 : LoopOk E H (code 0) L4 := ⟨mu4, fun ⟨x1, x2, x3, x4, ()⟩ hp => rounds_ok (show L4.step E H (code 0) (x1, (x2, (x3, (x4, ())))) = raw4 x1 x2 x3 x4 from by kernel_rfl) (ok4 x1 x2 x3 x4 hp)⟩
theorem env : EnvOk Tryz.prog E := env_cons impl_within.known (env_cons impl_wordsOk.known (env_nil tys))
theorem loops : ∀ c, Tryz.f135.body = some c → LoopsOk E H c := loops_of (by kernel_rfl) (by kernel_rfl) fun i l h => match i, h with
  | 0, h => Option.some.inj h ▸ lok4
  | n + 1, h => by cases h
theorem sound : Sound Tryz.prog 135 fs := fn_sound env mixed Tryz.func135 H loops fun ⟨x0, ()⟩ hw hp => (show runFn E H Tryz.f135 fs.ps fs.rs (x0, ()) = raw x0 from by kernel_rfl).trans (eq x0 hw hp)
theorem known : Seen Tryz.prog 135 fs := ⟨sound, _, Tryz.func135, by kernel_rfl, by kernel_rfl⟩
end impl_RowOk
namespace impl_KeepOk_1
noncomputable def fs : FS := ⟨[(.val tyS27 .f)], [(.bool, .o)], fun x => impl_KeepOk_1.pre x.1, fun x => ((), ((impl_KeepOk_1 x.1), ()))⟩
noncomputable def E : Env := ⟨theta, [(135, impl_RowOk.fs)], []⟩
noncomputable def H : List LC := []
theorem env : EnvOk Tryz.prog E := env_cons impl_RowOk.known (env_nil tys)
theorem loops : ∀ c, Tryz.f134.body = some c → LoopsOk E H c := loops_none (by kernel_rfl)
theorem sound : Sound Tryz.prog 134 fs := fn_sound env mixed Tryz.func134 H loops fun ⟨x0, ()⟩ hw hp => (show runFn E H Tryz.f134 fs.ps fs.rs (x0, ()) = raw x0 from by kernel_rfl).trans (eq x0 hw hp)
theorem known : Seen Tryz.prog 134 fs := ⟨sound, _, Tryz.func134, by kernel_rfl, by kernel_rfl⟩
end impl_KeepOk_1
namespace slices_IndexFunc_Row
noncomputable def fs : FS := ⟨[(.val (.sl 42 tyS27) .f), (.fn tyS27 .bool)], [((.int .i64), .o)], fun x => slices_IndexFunc_Row.pre x.1 x.2.1, fun x => ((), ((slices_IndexFunc_Row x.1 x.2.1), ()))⟩
noncomputable def E : Env := ⟨theta, [], []⟩
noncomputable def sh2 : ShSt := ⟨((.one (.dat (.sl 42 tyS27))) :: (.one (.fn tyS27 .bool)) :: un 5 (ui :: ui :: un 10 [])), []⟩
noncomputable def outs2 : List OutC := [⟨.ret, ⟨0, [4], []⟩, ⟨(un 4 (ui :: un 14 [])), []⟩⟩, ⟨(.exit 0), ⟨0, [], []⟩, ⟨(un 19 []), []⟩⟩]
noncomputable def L2 : LC := ⟨2, ⟨2, [0, 1, 7, 8], []⟩, sh2, outs2, pre2, fn2⟩
noncomputable def H : List LC := [L2]
noncomputable def code (i : Nat) : Code := (loopsOf (bodyOf Tryz.f239)).getD i .skip
theorem lok2 : LoopOk E H (code 0) L2 := ⟨mu2, fun ⟨x1, x2, x3, x4, x5, ()⟩ hp => rounds_ok (show L2.step E H (code 0) (x1, (x2, (x3, (x4, (x5, ()))))) = raw2 x1 x2 x3 x4 x5 from by kernel_rfl) (ok2 x1 x2 x3 x4 x5 hp)⟩
theorem env : EnvOk Tryz.prog E := env_nil tys
theorem loops : ∀ c, Tryz.f239.body = some c → LoopsOk E H c := loops_of (by kernel_rfl) (by kernel_rfl) fun i l h => match i, h with
  | 0, h => Option.some.inj h ▸ lok2
  | n + 1, h => by cases h
theorem sound : Sound Tryz.prog 239 fs := fn_sound env mixed Tryz.func239 H loops fun ⟨x0, x1, ()⟩ hw hp => (show runFn E H Tryz.f239 fs.ps fs.rs (x0, (x1, ())) = raw x0 x1 from by kernel_rfl).trans (eq x0 x1 hw hp)
theorem known : Seen Tryz.prog 239 fs := ⟨sound, _, Tryz.func239, by kernel_rfl, by kernel_rfl⟩
end slices_IndexFunc_Row
namespace slices_ContainsFunc_Row
noncomputable def fs : FS := ⟨[(.val (.sl 42 tyS27) .f), (.fn tyS27 .bool)], [(.bool, .o)], fun x => slices_ContainsFunc_Row.pre x.1 x.2.1, fun x => ((), ((slices_ContainsFunc_Row x.1 x.2.1), ()))⟩
noncomputable def E : Env := ⟨theta, [(239, slices_IndexFunc_Row.fs)], []⟩
noncomputable def H : List LC := []
theorem env : EnvOk Tryz.prog E := env_cons slices_IndexFunc_Row.known (env_nil tys)
theorem loops : ∀ c, Tryz.f133.body = some c → LoopsOk E H c := loops_none (by kernel_rfl)
theorem sound : Sound Tryz.prog 133 fs := fn_sound env mixed Tryz.func133 H loops fun ⟨x0, x1, ()⟩ hw hp => (show runFn E H Tryz.f133 fs.ps fs.rs (x0, (x1, ())) = raw x0 x1 from by kernel_rfl).trans (eq x0 x1 hw hp)
theorem known : Seen Tryz.prog 133 fs := ⟨sound, _, Tryz.func133, by kernel_rfl, by kernel_rfl⟩
end slices_ContainsFunc_Row
namespace impl_isClient
noncomputable def fs : FS := ⟨[(.val (.int .i64) .f)], [(.bool, .o)], fun x => impl_isClient.pre x.1, fun x => ((), ((impl_isClient x.1), ()))⟩
noncomputable def E : Env := ⟨theta, [(101, impl_within.fs)], []⟩
noncomputable def H : List LC := []
theorem env : EnvOk Tryz.prog E := env_cons impl_within.known (env_nil tys)
theorem loops : ∀ c, Tryz.f241.body = some c → LoopsOk E H c := loops_none (by kernel_rfl)
theorem sound : Sound Tryz.prog 241 fs := fn_sound env mixed Tryz.func241 H loops fun ⟨x0, ()⟩ hw hp => (show runFn E H Tryz.f241 fs.ps fs.rs (x0, ()) = raw x0 from by kernel_rfl).trans (eq x0 hw hp)
theorem known : Seen Tryz.prog 241 fs := ⟨sound, _, Tryz.func241, by kernel_rfl, by kernel_rfl⟩
end impl_isClient
namespace impl_GroupOk
noncomputable def ob1 : List (Nat × ShO) := [(0, (.box tyS25 (.dat tyS25)))]
noncomputable def fs : FS := ⟨[(.val tyS25 .f), (.val (.int .i64) .f)], [(.bool, .o)], fun x => impl_GroupOk.pre x.1 x.2.1, fun x => ((), ((impl_GroupOk x.1 x.2.1), ()))⟩
noncomputable def E : Env := ⟨theta, [(101, impl_within.fs), (131, impl_allWithin.fs), (241, impl_isClient.fs)], []⟩
noncomputable def sh2 : ShSt := ⟨(uu :: ui :: (.one (.bptr 0 [] tyS25)) :: un 5 ((.one (.dat (.sl 3 (.int .i64)))) :: ui :: ui :: un 51 [])), ob1⟩
noncomputable def outs2 : List OutC := [⟨.ret, ⟨0, [4], []⟩, ⟨(un 4 ((.one (.dat .bool)) :: un 57 [])), []⟩⟩, ⟨(.exit 0), ⟨0, [1, 2], []⟩, ⟨(uu :: ui :: (.one (.bptr 0 [] tyS25)) :: un 59 []), ob1⟩⟩]
noncomputable def L2 : LC := ⟨2, ⟨2, [1, 2, 8, 9, 10], []⟩, sh2, outs2, pre2, fn2⟩
noncomputable def H : List LC := [L2]
noncomputable def code (i : Nat) : Code := (loopsOf (bodyOf Tryz.f138)).getD i .skip
theorem lok2 : LoopOk E H (code 0) L2 := ⟨mu2, fun ⟨x1, x2, x3, x4, x5, ()⟩ hp => rounds_ok (show L2.step E H (code 0) (x1, (x2, (x3, (x4, (x5, ()))))) = raw2 x1 x2 x3 x4 x5 from by kernel_rfl) (ok2 x1 x2 x3 x4 x5 hp)⟩
theorem env : EnvOk Tryz.prog E := env_cons impl_within.known (env_cons impl_allWithin.known (env_cons impl_isClient.known (env_nil tys)))
theorem loops : ∀ c, Tryz.f138.body = some c → LoopsOk E H c := loops_of (by kernel_rfl) (by kernel_rfl) fun i l h => match i, h with
  | 0, h => Option.some.inj h ▸ lok2
  | n + 1, h => by cases h
theorem sound : Sound Tryz.prog 138 fs := fn_sound env mixed Tryz.func138 H loops fun ⟨x0, x1, ()⟩ hw hp => (show runFn E H Tryz.f138 fs.ps fs.rs (x0, (x1, ())) = raw x0 x1 from by kernel_rfl).trans (eq x0 x1 hw hp)
theorem known : Seen Tryz.prog 138 fs := ⟨sound, _, Tryz.func138, by kernel_rfl, by kernel_rfl⟩
end impl_GroupOk
namespace impl_KeepOk_2
noncomputable def fs : FS := ⟨[(.val tyS25 .f), (.peek tyS211)], [(.bool, .o)], fun x => impl_KeepOk_2.pre x.1 x.2.1, fun x => ((), ((impl_KeepOk_2 x.1 x.2.1), ()))⟩
noncomputable def E : Env := ⟨theta, [(138, impl_GroupOk.fs)], []⟩
noncomputable def H : List LC := []
theorem env : EnvOk Tryz.prog E := env_cons impl_GroupOk.known (env_nil tys)
theorem loops : ∀ c, Tryz.f137.body = some c → LoopsOk E H c := loops_none (by kernel_rfl)
theorem sound : Sound Tryz.prog 137 fs := fn_sound env mixed Tryz.func137 H loops fun ⟨x0, x1, ()⟩ hw hp => (show runFn E H Tryz.f137 fs.ps fs.rs (x0, (x1, ())) = raw x0 x1 from by kernel_rfl).trans (eq x0 x1 hw hp)
theorem known : Seen Tryz.prog 137 fs := ⟨sound, _, Tryz.func137, by kernel_rfl, by kernel_rfl⟩
end impl_KeepOk_2
namespace slices_IndexFunc_Group
noncomputable def fs : FS := ⟨[(.val (.sl 159 tyS25) .f), (.fn tyS25 .bool)], [((.int .i64), .o)], fun x => slices_IndexFunc_Group.pre x.1 x.2.1, fun x => ((), ((slices_IndexFunc_Group x.1 x.2.1), ()))⟩
noncomputable def E : Env := ⟨theta, [], []⟩
noncomputable def sh2 : ShSt := ⟨((.one (.dat (.sl 159 tyS25))) :: (.one (.fn tyS25 .bool)) :: un 5 (ui :: ui :: un 10 [])), []⟩
noncomputable def outs2 : List OutC := [⟨.ret, ⟨0, [4], []⟩, ⟨(un 4 (ui :: un 14 [])), []⟩⟩, ⟨(.exit 0), ⟨0, [], []⟩, ⟨(un 19 []), []⟩⟩]
noncomputable def L2 : LC := ⟨2, ⟨2, [0, 1, 7, 8], []⟩, sh2, outs2, pre2, fn2⟩
noncomputable def H : List LC := [L2]
noncomputable def code (i : Nat) : Code := (loopsOf (bodyOf Tryz.f240)).getD i .skip
theorem lok2 : LoopOk E H (code 0) L2 := ⟨mu2, fun ⟨x1, x2, x3, x4, x5, ()⟩ hp => rounds_ok (show L2.step E H (code 0) (x1, (x2, (x3, (x4, (x5, ()))))) = raw2 x1 x2 x3 x4 x5 from by kernel_rfl) (ok2 x1 x2 x3 x4 x5 hp)⟩
theorem env : EnvOk Tryz.prog E := env_nil tys
theorem loops : ∀ c, Tryz.f240.body = some c → LoopsOk E H c := loops_of (by kernel_rfl) (by kernel_rfl) fun i l h => match i, h with
  | 0, h => Option.some.inj h ▸ lok2
  | n + 1, h => by cases h
theorem sound : Sound Tryz.prog 240 fs := fn_sound env mixed Tryz.func240 H loops fun ⟨x0, x1, ()⟩ hw hp => (show runFn E H Tryz.f240 fs.ps fs.rs (x0, (x1, ())) = raw x0 x1 from by kernel_rfl).trans (eq x0 x1 hw hp)
theorem known : Seen Tryz.prog 240 fs := ⟨sound, _, Tryz.func240, by kernel_rfl, by kernel_rfl⟩
end slices_IndexFunc_Group
namespace slices_ContainsFunc_Group
noncomputable def fs : FS := ⟨[(.val (.sl 159 tyS25) .f), (.fn tyS25 .bool)], [(.bool, .o)], fun x => slices_ContainsFunc_Group.pre x.1 x.2.1, fun x => ((), ((slices_ContainsFunc_Group x.1 x.2.1), ()))⟩
noncomputable def E : Env := ⟨theta, [(240, slices_IndexFunc_Group.fs)], []⟩
noncomputable def H : List LC := []
theorem env : EnvOk Tryz.prog E := env_cons slices_IndexFunc_Group.known (env_nil tys)
theorem loops : ∀ c, Tryz.f136.body = some c → LoopsOk E H c := loops_none (by kernel_rfl)
theorem sound : Sound Tryz.prog 136 fs := fn_sound env mixed Tryz.func136 H loops fun ⟨x0, x1, ()⟩ hw hp => (show runFn E H Tryz.f136 fs.ps fs.rs (x0, (x1, ())) = raw x0 x1 from by kernel_rfl).trans (eq x0 x1 hw hp)
theorem known : Seen Tryz.prog 136 fs := ⟨sound, _, Tryz.func136, by kernel_rfl, by kernel_rfl⟩
end slices_ContainsFunc_Group
namespace impl_AnswerOk
noncomputable def fs : FS := ⟨[(.val tyS29 .f)], [(.bool, .o)], fun x => impl_AnswerOk.pre x.1, fun x => ((), ((impl_AnswerOk x.1), ()))⟩
noncomputable def E : Env := ⟨theta, [(101, impl_within.fs), (129, impl_wordsOk.fs)], []⟩
noncomputable def H : List LC := []
theorem env : EnvOk Tryz.prog E := env_cons impl_within.known (env_cons impl_wordsOk.known (env_nil tys))
theorem loops : ∀ c, Tryz.f40.body = some c → LoopsOk E H c := loops_none (by kernel_rfl)
theorem sound : Sound Tryz.prog 40 fs := fn_sound env mixed Tryz.func40 H loops fun ⟨x0, ()⟩ hw hp => (show runFn E H Tryz.f40 fs.ps fs.rs (x0, ()) = raw x0 from by kernel_rfl).trans (eq x0 hw hp)
theorem known : Seen Tryz.prog 40 fs := ⟨sound, _, Tryz.func40, by kernel_rfl, by kernel_rfl⟩
end impl_AnswerOk
namespace impl_KeepOk_3
noncomputable def fs : FS := ⟨[(.val tyS29 .f)], [(.bool, .o)], fun x => impl_KeepOk_3.pre x.1, fun x => ((), ((impl_KeepOk_3 x.1), ()))⟩
noncomputable def E : Env := ⟨theta, [(40, impl_AnswerOk.fs)], []⟩
noncomputable def H : List LC := []
theorem env : EnvOk Tryz.prog E := env_cons impl_AnswerOk.known (env_nil tys)
theorem loops : ∀ c, Tryz.f140.body = some c → LoopsOk E H c := loops_none (by kernel_rfl)
theorem sound : Sound Tryz.prog 140 fs := fn_sound env mixed Tryz.func140 H loops fun ⟨x0, ()⟩ hw hp => (show runFn E H Tryz.f140 fs.ps fs.rs (x0, ()) = raw x0 from by kernel_rfl).trans (eq x0 hw hp)
theorem known : Seen Tryz.prog 140 fs := ⟨sound, _, Tryz.func140, by kernel_rfl, by kernel_rfl⟩
end impl_KeepOk_3
namespace slices_IndexFunc_Answer
noncomputable def fs : FS := ⟨[(.val (.sl 48 tyS29) .f), (.fn tyS29 .bool)], [((.int .i64), .o)], fun x => slices_IndexFunc_Answer.pre x.1 x.2.1, fun x => ((), ((slices_IndexFunc_Answer x.1 x.2.1), ()))⟩
noncomputable def E : Env := ⟨theta, [], []⟩
noncomputable def sh2 : ShSt := ⟨((.one (.dat (.sl 48 tyS29))) :: (.one (.fn tyS29 .bool)) :: un 5 (ui :: ui :: un 10 [])), []⟩
noncomputable def outs2 : List OutC := [⟨.ret, ⟨0, [4], []⟩, ⟨(un 4 (ui :: un 14 [])), []⟩⟩, ⟨(.exit 0), ⟨0, [], []⟩, ⟨(un 19 []), []⟩⟩]
noncomputable def L2 : LC := ⟨2, ⟨2, [0, 1, 7, 8], []⟩, sh2, outs2, pre2, fn2⟩
noncomputable def H : List LC := [L2]
noncomputable def code (i : Nat) : Code := (loopsOf (bodyOf Tryz.f242)).getD i .skip
theorem lok2 : LoopOk E H (code 0) L2 := ⟨mu2, fun ⟨x1, x2, x3, x4, x5, ()⟩ hp => rounds_ok (show L2.step E H (code 0) (x1, (x2, (x3, (x4, (x5, ()))))) = raw2 x1 x2 x3 x4 x5 from by kernel_rfl) (ok2 x1 x2 x3 x4 x5 hp)⟩
theorem env : EnvOk Tryz.prog E := env_nil tys
theorem loops : ∀ c, Tryz.f242.body = some c → LoopsOk E H c := loops_of (by kernel_rfl) (by kernel_rfl) fun i l h => match i, h with
  | 0, h => Option.some.inj h ▸ lok2
  | n + 1, h => by cases h
theorem sound : Sound Tryz.prog 242 fs := fn_sound env mixed Tryz.func242 H loops fun ⟨x0, x1, ()⟩ hw hp => (show runFn E H Tryz.f242 fs.ps fs.rs (x0, (x1, ())) = raw x0 x1 from by kernel_rfl).trans (eq x0 x1 hw hp)
theorem known : Seen Tryz.prog 242 fs := ⟨sound, _, Tryz.func242, by kernel_rfl, by kernel_rfl⟩
end slices_IndexFunc_Answer
namespace slices_ContainsFunc_Answer
noncomputable def fs : FS := ⟨[(.val (.sl 48 tyS29) .f), (.fn tyS29 .bool)], [(.bool, .o)], fun x => slices_ContainsFunc_Answer.pre x.1 x.2.1, fun x => ((), ((slices_ContainsFunc_Answer x.1 x.2.1), ()))⟩
noncomputable def E : Env := ⟨theta, [(242, slices_IndexFunc_Answer.fs)], []⟩
noncomputable def H : List LC := []
theorem env : EnvOk Tryz.prog E := env_cons slices_IndexFunc_Answer.known (env_nil tys)
theorem loops : ∀ c, Tryz.f139.body = some c → LoopsOk E H c := loops_none (by kernel_rfl)
theorem sound : Sound Tryz.prog 139 fs := fn_sound env mixed Tryz.func139 H loops fun ⟨x0, x1, ()⟩ hw hp => (show runFn E H Tryz.f139 fs.ps fs.rs (x0, (x1, ())) = raw x0 x1 from by kernel_rfl).trans (eq x0 x1 hw hp)
theorem known : Seen Tryz.prog 139 fs := ⟨sound, _, Tryz.func139, by kernel_rfl, by kernel_rfl⟩
end slices_ContainsFunc_Answer
namespace impl_KeepOk
noncomputable def ob1 : List (Nat × ShO) := [(0, (.box tyS211 (.dat tyS211))), (32, (.box tyS21 (.dat tyS21)))]
noncomputable def fs : FS := ⟨[(.val tyS211 .f), (.val tyS21 .f)], [(.bool, .o)], fun x => impl_KeepOk.pre x.1 x.2.1, fun x => ((), ((impl_KeepOk x.1 x.2.1), ()))⟩
noncomputable def E : Env := ⟨theta, [(101, impl_within.fs), (17, impl_SetupOk.fs), (131, impl_allWithin.fs), (132, impl_MakerOk.fs), (134, impl_KeepOk_1.fs), (133, slices_ContainsFunc_Row.fs), (137, impl_KeepOk_2.fs), (136, slices_ContainsFunc_Group.fs), (140, impl_KeepOk_3.fs), (139, slices_ContainsFunc_Answer.fs)], []⟩
noncomputable def sh4 : ShSt := ⟨(uu :: uu :: (.one (.bptr 0 [] tyS211)) :: (.one (.bptr 32 [] tyS21)) :: un 48 ((.one (.dat (.sl 156 tyS28))) :: ui :: ui :: un 75 [])), ob1⟩
noncomputable def outs4 : List OutC := [⟨.ret, ⟨0, [4], []⟩, ⟨(un 4 ((.one (.dat .bool)) :: un 125 [])), []⟩⟩, ⟨(.exit 0), ⟨0, [2, 3], []⟩, ⟨(uu :: uu :: (.one (.bptr 0 [] tyS211)) :: (.one (.bptr 32 [] tyS21)) :: un 126 []), ob1⟩⟩]
noncomputable def L4 : LC := ⟨4, ⟨4, [2, 3, 52, 53, 54], []⟩, sh4, outs4, pre4, fn4⟩
noncomputable def H : List LC := [L4]
noncomputable def code (i : Nat) : Code := (loopsOf (bodyOf Tryz.f42)).getD i .skip
theorem lok4 : LoopOk E H (code 0) L4 := ⟨mu4, fun ⟨x1, x2, x3, x4, x5, ()⟩ hp => rounds_ok (show L4.step E H (code 0) (x1, (x2, (x3, (x4, (x5, ()))))) = raw4 x1 x2 x3 x4 x5 from by kernel_rfl) (ok4 x1 x2 x3 x4 x5 hp)⟩
theorem env : EnvOk Tryz.prog E := env_cons impl_within.known (env_cons impl_SetupOk.known (env_cons impl_allWithin.known (env_cons impl_MakerOk.known (env_cons impl_KeepOk_1.known (env_cons slices_ContainsFunc_Row.known (env_cons impl_KeepOk_2.known (env_cons slices_ContainsFunc_Group.known (env_cons impl_KeepOk_3.known (env_cons slices_ContainsFunc_Answer.known (env_nil tys))))))))))
theorem loops : ∀ c, Tryz.f42.body = some c → LoopsOk E H c := loops_of (by kernel_rfl) (by kernel_rfl) fun i l h => match i, h with
  | 0, h => Option.some.inj h ▸ lok4
  | n + 1, h => by cases h
theorem sound : Sound Tryz.prog 42 fs := fn_sound env mixed Tryz.func42 H loops fun ⟨x0, x1, ()⟩ hw hp => (show runFn E H Tryz.f42 fs.ps fs.rs (x0, (x1, ())) = raw x0 x1 from by kernel_rfl).trans (eq x0 x1 hw hp)
theorem known : Seen Tryz.prog 42 fs := ⟨sound, _, Tryz.func42, by kernel_rfl, by kernel_rfl⟩
end impl_KeepOk
namespace impl_HardOk
noncomputable def fs : FS := ⟨[(.val tyS211 .f), (.val (.pair (.int .i64) (.pair (.int .i64) (.pair tyS212 (.pair tyS21 .unit)))) .f)], [(.bool, .o)], fun x => impl_HardOk.pre x.1 x.2.1, fun x => ((), ((impl_HardOk x.1 x.2.1), ()))⟩
noncomputable def E : Env := ⟨theta, [(101, impl_within.fs), (198, impl_LastOf.fs), (199, impl_LogOk.fs), (42, impl_KeepOk.fs)], []⟩
noncomputable def H : List LC := []
theorem env : EnvOk Tryz.prog E := env_cons impl_within.known (env_cons impl_LastOf.known (env_cons impl_LogOk.known (env_cons impl_KeepOk.known (env_nil tys))))
theorem loops : ∀ c, Tryz.f78.body = some c → LoopsOk E H c := loops_none (by kernel_rfl)
theorem sound : Sound Tryz.prog 78 fs := fn_sound env mixed Tryz.func78 H loops fun ⟨x0, x1, ()⟩ hw hp => (show runFn E H Tryz.f78 fs.ps fs.rs (x0, (x1, ())) = raw x0 x1 from by kernel_rfl).trans (eq x0 x1 hw hp)
theorem known : Seen Tryz.prog 78 fs := ⟨sound, _, Tryz.func78, by kernel_rfl, by kernel_rfl⟩
end impl_HardOk
namespace impl_last
noncomputable def fs : FS := ⟨[(.val tyS212 .f)], [((.int .i64), .o)], fun x => impl_last.pre x.1, fun x => ((), ((impl_last x.1), ()))⟩
noncomputable def E : Env := ⟨theta, [], []⟩
noncomputable def H : List LC := []
theorem env : EnvOk Tryz.prog E := env_nil tys
theorem loops : ∀ c, Tryz.f245.body = some c → LoopsOk E H c := loops_none (by kernel_rfl)
theorem sound : Sound Tryz.prog 245 fs := fn_sound env mixed Tryz.func245 H loops fun ⟨x0, ()⟩ hw hp => (show runFn E H Tryz.f245 fs.ps fs.rs (x0, ()) = raw x0 from by kernel_rfl).trans (eq x0 hw hp)
theorem known : Seen Tryz.prog 245 fs := ⟨sound, _, Tryz.func245, by kernel_rfl, by kernel_rfl⟩
end impl_last
namespace impl_DiskOk
noncomputable def fs : FS := ⟨[(.val (.pair (.sl 5 (.int .u8)) (.pair (.int .i64) .unit)) .f)], [(.bool, .o)], fun x => impl_DiskOk.pre x.1, fun x => ((), ((impl_DiskOk x.1), ()))⟩
noncomputable def E : Env := ⟨theta, [(101, impl_within.fs)], []⟩
noncomputable def H : List LC := []
theorem env : EnvOk Tryz.prog E := env_cons impl_within.known (env_nil tys)
theorem loops : ∀ c, Tryz.f246.body = some c → LoopsOk E H c := loops_none (by kernel_rfl)
theorem sound : Sound Tryz.prog 246 fs := fn_sound env mixed Tryz.func246 H loops fun ⟨x0, ()⟩ hw hp => (show runFn E H Tryz.f246 fs.ps fs.rs (x0, ()) = raw x0 from by kernel_rfl).trans (eq x0 hw hp)
theorem known : Seen Tryz.prog 246 fs := ⟨sound, _, Tryz.func246, by kernel_rfl, by kernel_rfl⟩
end impl_DiskOk
namespace impl_RpcOk_1
noncomputable def fs : FS := ⟨[(.val tyS22 .f), (.peek tyS26)], [(.bool, .o)], fun _ => true, fun x => ((), ((impl_RpcOk_1 x.1 x.2.1), ()))⟩
noncomputable def E : Env := ⟨theta, [(101, impl_within.fs), (103, impl_CmdOk.fs)], []⟩
noncomputable def H : List LC := []
theorem env : EnvOk Tryz.prog E := env_cons impl_within.known (env_cons impl_CmdOk.known (env_nil tys))
theorem loops : ∀ c, Tryz.f313.body = some c → LoopsOk E H c := loops_none (by kernel_rfl)
theorem sound : Sound Tryz.prog 313 fs := fn_sound env mixed Tryz.func313 H loops fun ⟨x0, x1, ()⟩ hw _ => (show runFn E H Tryz.f313 fs.ps fs.rs (x0, (x1, ())) = raw x0 x1 from by kernel_rfl).trans (eq x0 x1 hw)
theorem known : Seen Tryz.prog 313 fs := ⟨sound, _, Tryz.func313, by kernel_rfl, by kernel_rfl⟩
end impl_RpcOk_1
namespace slices_IndexFunc_Entry
noncomputable def fs : FS := ⟨[(.val (.sl 167 tyS22) .f), (.fn tyS22 .bool)], [((.int .i64), .o)], fun x => slices_IndexFunc_Entry.pre x.1 x.2.1, fun x => ((), ((slices_IndexFunc_Entry x.1 x.2.1), ()))⟩
noncomputable def E : Env := ⟨theta, [], []⟩
noncomputable def sh2 : ShSt := ⟨((.one (.dat (.sl 167 tyS22))) :: (.one (.fn tyS22 .bool)) :: un 5 (ui :: ui :: un 10 [])), []⟩
noncomputable def outs2 : List OutC := [⟨.ret, ⟨0, [4], []⟩, ⟨(un 4 (ui :: un 14 [])), []⟩⟩, ⟨(.exit 0), ⟨0, [], []⟩, ⟨(un 19 []), []⟩⟩]
noncomputable def L2 : LC := ⟨2, ⟨2, [0, 1, 7, 8], []⟩, sh2, outs2, pre2, fn2⟩
noncomputable def H : List LC := [L2]
noncomputable def code (i : Nat) : Code := (loopsOf (bodyOf Tryz.f224)).getD i .skip
theorem lok2 : LoopOk E H (code 0) L2 := ⟨mu2, fun ⟨x1, x2, x3, x4, x5, ()⟩ hp => rounds_ok (show L2.step E H (code 0) (x1, (x2, (x3, (x4, (x5, ()))))) = raw2 x1 x2 x3 x4 x5 from by kernel_rfl) (ok2 x1 x2 x3 x4 x5 hp)⟩
theorem env : EnvOk Tryz.prog E := env_nil tys
theorem loops : ∀ c, Tryz.f224.body = some c → LoopsOk E H c := loops_of (by kernel_rfl) (by kernel_rfl) fun i l h => match i, h with
  | 0, h => Option.some.inj h ▸ lok2
  | n + 1, h => by cases h
theorem sound : Sound Tryz.prog 224 fs := fn_sound env mixed Tryz.func224 H loops fun ⟨x0, x1, ()⟩ hw hp => (show runFn E H Tryz.f224 fs.ps fs.rs (x0, (x1, ())) = raw x0 x1 from by kernel_rfl).trans (eq x0 x1 hw hp)
theorem known : Seen Tryz.prog 224 fs := ⟨sound, _, Tryz.func224, by kernel_rfl, by kernel_rfl⟩
end slices_IndexFunc_Entry
namespace slices_ContainsFunc_Entry
noncomputable def fs : FS := ⟨[(.val (.sl 167 tyS22) .f), (.fn tyS22 .bool)], [(.bool, .o)], fun x => slices_ContainsFunc_Entry.pre x.1 x.2.1, fun x => ((), ((slices_ContainsFunc_Entry x.1 x.2.1), ()))⟩
noncomputable def E : Env := ⟨theta, [(224, slices_IndexFunc_Entry.fs)], []⟩
noncomputable def H : List LC := []
theorem env : EnvOk Tryz.prog E := env_cons slices_IndexFunc_Entry.known (env_nil tys)
theorem loops : ∀ c, Tryz.f116.body = some c → LoopsOk E H c := loops_none (by kernel_rfl)
theorem sound : Sound Tryz.prog 116 fs := fn_sound env mixed Tryz.func116 H loops fun ⟨x0, x1, ()⟩ hw hp => (show runFn E H Tryz.f116 fs.ps fs.rs (x0, (x1, ())) = raw x0 x1 from by kernel_rfl).trans (eq x0 x1 hw hp)
theorem known : Seen Tryz.prog 116 fs := ⟨sound, _, Tryz.func116, by kernel_rfl, by kernel_rfl⟩
end slices_ContainsFunc_Entry
namespace impl_RpcOk
noncomputable def fs : FS := ⟨[(.val tyS26 .f), (.val (.int .i64) .f)], [(.bool, .o)], fun _ => true, fun x => ((), ((impl_RpcOk x.1 x.2.1), ()))⟩
noncomputable def E : Env := ⟨theta, [(101, impl_within.fs), (313, impl_RpcOk_1.fs), (116, slices_ContainsFunc_Entry.fs)], []⟩
noncomputable def H : List LC := []
theorem env : EnvOk Tryz.prog E := env_cons impl_within.known (env_cons impl_RpcOk_1.known (env_cons slices_ContainsFunc_Entry.known (env_nil tys)))
theorem loops : ∀ c, Tryz.f249.body = some c → LoopsOk E H c := loops_none (by kernel_rfl)
theorem sound : Sound Tryz.prog 249 fs := fn_sound env mixed Tryz.func249 H loops fun ⟨x0, x1, ()⟩ hw _ => (show runFn E H Tryz.f249 fs.ps fs.rs (x0, (x1, ())) = raw x0 x1 from by kernel_rfl).trans (eq x0 x1 hw)
theorem known : Seen Tryz.prog 249 fs := ⟨sound, _, Tryz.func249, by kernel_rfl, by kernel_rfl⟩
end impl_RpcOk
namespace impl_PeerOk_1
noncomputable def fs : FS := ⟨[(.val tyS26 .f), (.peek (.int .i64)), (.peek tyS23)], [(.bool, .o)], fun x => impl_PeerOk_1.pre x.1 x.2.1 x.2.2.1, fun x => ((), ((impl_PeerOk_1 x.1 x.2.1 x.2.2.1), ()))⟩
noncomputable def E : Env := ⟨theta, [(249, impl_RpcOk.fs)], []⟩
noncomputable def H : List LC := []
theorem env : EnvOk Tryz.prog E := env_cons impl_RpcOk.known (env_nil tys)
theorem loops : ∀ c, Tryz.f248.body = some c → LoopsOk E H c := loops_none (by kernel_rfl)
theorem sound : Sound Tryz.prog 248 fs := fn_sound env mixed Tryz.func248 H loops fun ⟨x0, x1, x2, ()⟩ hw hp => (show runFn E H Tryz.f248 fs.ps fs.rs (x0, (x1, (x2, ()))) = raw x0 x1 x2 from by kernel_rfl).trans (eq x0 x1 x2 hw hp)
theorem known : Seen Tryz.prog 248 fs := ⟨sound, _, Tryz.func248, by kernel_rfl, by kernel_rfl⟩
end impl_PeerOk_1
namespace slices_IndexFunc_Rpc
noncomputable def fs : FS := ⟨[(.val (.sl 113 tyS26) .f), (.fn tyS26 .bool)], [((.int .i64), .o)], fun x => slices_IndexFunc_Rpc.pre x.1 x.2.1, fun x => ((), ((slices_IndexFunc_Rpc x.1 x.2.1), ()))⟩
noncomputable def E : Env := ⟨theta, [], []⟩
noncomputable def sh2 : ShSt := ⟨((.one (.dat (.sl 113 tyS26))) :: (.one (.fn tyS26 .bool)) :: un 5 (ui :: ui :: un 10 [])), []⟩
noncomputable def outs2 : List OutC := [⟨.ret, ⟨0, [4], []⟩, ⟨(un 4 (ui :: un 14 [])), []⟩⟩, ⟨(.exit 0), ⟨0, [], []⟩, ⟨(un 19 []), []⟩⟩]
noncomputable def L2 : LC := ⟨2, ⟨2, [0, 1, 7, 8], []⟩, sh2, outs2, pre2, fn2⟩
noncomputable def H : List LC := [L2]
noncomputable def code (i : Nat) : Code := (loopsOf (bodyOf Tryz.f312)).getD i .skip
theorem lok2 : LoopOk E H (code 0) L2 := ⟨mu2, fun ⟨x1, x2, x3, x4, x5, ()⟩ hp => rounds_ok (show L2.step E H (code 0) (x1, (x2, (x3, (x4, (x5, ()))))) = raw2 x1 x2 x3 x4 x5 from by kernel_rfl) (ok2 x1 x2 x3 x4 x5 hp)⟩
theorem env : EnvOk Tryz.prog E := env_nil tys
theorem loops : ∀ c, Tryz.f312.body = some c → LoopsOk E H c := loops_of (by kernel_rfl) (by kernel_rfl) fun i l h => match i, h with
  | 0, h => Option.some.inj h ▸ lok2
  | n + 1, h => by cases h
theorem sound : Sound Tryz.prog 312 fs := fn_sound env mixed Tryz.func312 H loops fun ⟨x0, x1, ()⟩ hw hp => (show runFn E H Tryz.f312 fs.ps fs.rs (x0, (x1, ())) = raw x0 x1 from by kernel_rfl).trans (eq x0 x1 hw hp)
theorem known : Seen Tryz.prog 312 fs := ⟨sound, _, Tryz.func312, by kernel_rfl, by kernel_rfl⟩
end slices_IndexFunc_Rpc
namespace slices_ContainsFunc_Rpc
noncomputable def fs : FS := ⟨[(.val (.sl 113 tyS26) .f), (.fn tyS26 .bool)], [(.bool, .o)], fun x => slices_ContainsFunc_Rpc.pre x.1 x.2.1, fun x => ((), ((slices_ContainsFunc_Rpc x.1 x.2.1), ()))⟩
noncomputable def E : Env := ⟨theta, [(312, slices_IndexFunc_Rpc.fs)], []⟩
noncomputable def H : List LC := []
theorem env : EnvOk Tryz.prog E := env_cons slices_IndexFunc_Rpc.known (env_nil tys)
theorem loops : ∀ c, Tryz.f247.body = some c → LoopsOk E H c := loops_none (by kernel_rfl)
theorem sound : Sound Tryz.prog 247 fs := fn_sound env mixed Tryz.func247 H loops fun ⟨x0, x1, ()⟩ hw hp => (show runFn E H Tryz.f247 fs.ps fs.rs (x0, (x1, ())) = raw x0 x1 from by kernel_rfl).trans (eq x0 x1 hw hp)
theorem known : Seen Tryz.prog 247 fs := ⟨sound, _, Tryz.func247, by kernel_rfl, by kernel_rfl⟩
end slices_ContainsFunc_Rpc
namespace impl_PeerOk
noncomputable def fs : FS := ⟨[(.val tyS211 .f), (.val tyS23 .f), (.val (.int .i64) .f)], [(.bool, .o)], fun x => impl_PeerOk.pre x.1 x.2.1 x.2.2.1, fun x => ((), ((impl_PeerOk x.1 x.2.1 x.2.2.1), ()))⟩
noncomputable def E : Env := ⟨theta, [(101, impl_within.fs), (131, impl_allWithin.fs), (42, impl_KeepOk.fs), (78, impl_HardOk.fs), (245, impl_last.fs), (246, impl_DiskOk.fs), (248, impl_PeerOk_1.fs), (247, slices_ContainsFunc_Rpc.fs)], []⟩
noncomputable def H : List LC := []
theorem env : EnvOk Tryz.prog E := env_cons impl_within.known (env_cons impl_allWithin.known (env_cons impl_KeepOk.known (env_cons impl_HardOk.known (env_cons impl_last.known (env_cons impl_DiskOk.known (env_cons impl_PeerOk_1.known (env_cons slices_ContainsFunc_Rpc.known (env_nil tys))))))))
theorem loops : ∀ c, Tryz.f144.body = some c → LoopsOk E H c := loops_none (by kernel_rfl)
theorem sound : Sound Tryz.prog 144 fs := fn_sound env mixed Tryz.func144 H loops fun ⟨x0, x1, x2, ()⟩ hw hp => (show runFn E H Tryz.f144 fs.ps fs.rs (x0, (x1, (x2, ()))) = raw x0 x1 x2 from by kernel_rfl).trans (eq x0 x1 x2 hw hp)
theorem known : Seen Tryz.prog 144 fs := ⟨sound, _, Tryz.func144, by kernel_rfl, by kernel_rfl⟩
end impl_PeerOk
namespace impl_PeerNew
noncomputable def fs : FS := ⟨[(.val tyS211 .f), (.val (.int .i64) .f), (.val (.int .i64) .f)], [(tyS23, .o), (.bool, .o)], fun x => impl_PeerNew.pre x.1 x.2.1 x.2.2.1, fun x => ((), ((impl_PeerNew x.1 x.2.1 x.2.2.1).1, ((impl_PeerNew x.1 x.2.1 x.2.2.1).2, ())))⟩
noncomputable def E : Env := ⟨theta, [(101, impl_within.fs), (38, impl_KeepNew.fs), (86, impl_HardNew.fs), (143, impl_ones.fs), (144, impl_PeerOk.fs)], []⟩
noncomputable def H : List LC := []
theorem env : EnvOk Tryz.prog E := env_cons impl_within.known (env_cons impl_KeepNew.known (env_cons impl_HardNew.known (env_cons impl_ones.known (env_cons impl_PeerOk.known (env_nil tys)))))
theorem loops : ∀ c, Tryz.f45.body = some c → LoopsOk E H c := loops_none (by kernel_rfl)
theorem sound : Sound Tryz.prog 45 fs := fn_sound env mixed Tryz.func45 H loops fun ⟨x0, x1, x2, ()⟩ hw hp => (show runFn E H Tryz.f45 fs.ps fs.rs (x0, (x1, (x2, ()))) = raw x0 x1 x2 from by kernel_rfl).trans (eq x0 x1 x2 hw hp)
theorem known : Seen Tryz.prog 45 fs := ⟨sound, _, Tryz.func45, by kernel_rfl, by kernel_rfl⟩
end impl_PeerNew
namespace laws_eqCmd
noncomputable def fs : FS := ⟨[(.val (.pair (.int .i64) (.pair (.int .i64) (.pair (.int .i64) (.pair (.int .i64) tyS29)))) .f), (.val (.pair (.int .i64) (.pair (.int .i64) (.pair (.int .i64) (.pair (.int .i64) tyS29)))) .f)], [(.bool, .o)], fun _ => true, fun x => ((), ((laws_eqCmd x.1 x.2.1), ()))⟩
noncomputable def E : Env := ⟨theta, [], []⟩
noncomputable def H : List LC := []
theorem env : EnvOk Tryz.prog E := env_nil tys
theorem loops : ∀ c, Tryz.f183.body = some c → LoopsOk E H c := loops_none (by kernel_rfl)
theorem sound : Sound Tryz.prog 183 fs := fn_sound env mixed Tryz.func183 H loops fun ⟨x0, x1, ()⟩ hw _ => (show runFn E H Tryz.f183 fs.ps fs.rs (x0, (x1, ())) = raw x0 x1 from by kernel_rfl).trans (eq x0 x1 hw)
theorem known : Seen Tryz.prog 183 fs := ⟨sound, _, Tryz.func183, by kernel_rfl, by kernel_rfl⟩
end laws_eqCmd
namespace laws_eqEntry
noncomputable def fs : FS := ⟨[(.val tyS22 .f), (.val tyS22 .f)], [(.bool, .o)], fun _ => true, fun x => ((), ((laws_eqEntry x.1 x.2.1), ()))⟩
noncomputable def E : Env := ⟨theta, [(183, laws_eqCmd.fs)], []⟩
noncomputable def H : List LC := []
theorem env : EnvOk Tryz.prog E := env_cons laws_eqCmd.known (env_nil tys)
theorem loops : ∀ c, Tryz.f269.body = some c → LoopsOk E H c := loops_none (by kernel_rfl)
theorem sound : Sound Tryz.prog 269 fs := fn_sound env mixed Tryz.func269 H loops fun ⟨x0, x1, ()⟩ hw _ => (show runFn E H Tryz.f269 fs.ps fs.rs (x0, (x1, ())) = raw x0 x1 from by kernel_rfl).trans (eq x0 x1 hw)
theorem known : Seen Tryz.prog 269 fs := ⟨sound, _, Tryz.func269, by kernel_rfl, by kernel_rfl⟩
end laws_eqEntry
namespace laws_eqEntryS
noncomputable def fs : FS := ⟨[(.val (.sl 167 tyS22) .f), (.val (.sl 167 tyS22) .f)], [(.bool, .o)], fun _ => true, fun x => ((), ((laws_eqEntryS x.1 x.2.1), ()))⟩
noncomputable def E : Env := ⟨theta, [(269, laws_eqEntry.fs)], []⟩
noncomputable def sh4 : ShSt := ⟨((.one (.dat (.sl 167 tyS22))) :: (.one (.dat (.sl 167 tyS22))) :: uu :: uu :: uu :: ui :: un 21 []), []⟩
noncomputable def outs4 : List OutC := [⟨.ret, ⟨0, [4], []⟩, ⟨(un 4 ((.one (.dat .bool)) :: un 22 [])), []⟩⟩, ⟨(.exit 0), ⟨0, [], []⟩, ⟨(un 27 []), []⟩⟩]
noncomputable def L4 : LC := ⟨4, ⟨4, [0, 1, 5], []⟩, sh4, outs4, pre4, fn4⟩
noncomputable def H : List LC := [L4]
noncomputable def code (i : Nat) : Code := (loopsOf (bodyOf Tryz.f175)).getD i .skip
theorem lok4 : LoopOk E H (code 0) L4 := ⟨mu4, fun ⟨x1, x2, x3, ()⟩ hp => rounds_ok (show L4.step E H (code 0) (x1, (x2, (x3, ()))) = raw4 x1 x2 x3 from by kernel_rfl) (ok4 x1 x2 x3 hp)⟩
theorem env : EnvOk Tryz.prog E := env_cons laws_eqEntry.known (env_nil tys)
theorem loops : ∀ c, Tryz.f175.body = some c → LoopsOk E H c := loops_of (by kernel_rfl) (by kernel_rfl) fun i l h => match i, h with
  | 0, h => Option.some.inj h ▸ lok4
  | n + 1, h => by cases h
theorem sound : Sound Tryz.prog 175 fs := fn_sound env mixed Tryz.func175 H loops fun ⟨x0, x1, ()⟩ hw _ => (show runFn E H Tryz.f175 fs.ps fs.rs (x0, (x1, ())) = raw x0 x1 from by kernel_rfl).trans (eq x0 x1 hw)
theorem known : Seen Tryz.prog 175 fs := ⟨sound, _, Tryz.func175, by kernel_rfl, by kernel_rfl⟩
end laws_eqEntryS
namespace laws_eqLog
noncomputable def fs : FS := ⟨[(.val tyS212 .f), (.val tyS212 .f)], [(.bool, .o)], fun _ => true, fun x => ((), ((laws_eqLog x.1 x.2.1), ()))⟩
noncomputable def E : Env := ⟨theta, [(175, laws_eqEntryS.fs)], []⟩
noncomputable def H : List LC := []
theorem env : EnvOk Tryz.prog E := env_cons laws_eqEntryS.known (env_nil tys)
theorem loops : ∀ c, Tryz.f191.body = some c → LoopsOk E H c := loops_none (by kernel_rfl)
theorem sound : Sound Tryz.prog 191 fs := fn_sound env mixed Tryz.func191 H loops fun ⟨x0, x1, ()⟩ hw _ => (show runFn E H Tryz.f191 fs.ps fs.rs (x0, (x1, ())) = raw x0 x1 from by kernel_rfl).trans (eq x0 x1 hw)
theorem known : Seen Tryz.prog 191 fs := ⟨sound, _, Tryz.func191, by kernel_rfl, by kernel_rfl⟩
end laws_eqLog
namespace laws_eqItem
noncomputable def fs : FS := ⟨[(.val tyS213 .f), (.val tyS213 .f)], [(.bool, .o)], fun _ => true, fun x => ((), ((laws_eqItem x.1 x.2.1), ()))⟩
noncomputable def E : Env := ⟨theta, [], []⟩
noncomputable def H : List LC := []
theorem env : EnvOk Tryz.prog E := env_nil tys
theorem loops : ∀ c, Tryz.f361.body = some c → LoopsOk E H c := loops_none (by kernel_rfl)
theorem sound : Sound Tryz.prog 361 fs := fn_sound env mixed Tryz.func361 H loops fun ⟨x0, x1, ()⟩ hw _ => (show runFn E H Tryz.f361 fs.ps fs.rs (x0, (x1, ())) = raw x0 x1 from by kernel_rfl).trans (eq x0 x1 hw)
theorem known : Seen Tryz.prog 361 fs := ⟨sound, _, Tryz.func361, by kernel_rfl, by kernel_rfl⟩
end laws_eqItem
namespace laws_eqItemS
noncomputable def fs : FS := ⟨[(.val (.sl 44 tyS213) .f), (.val (.sl 44 tyS213) .f)], [(.bool, .o)], fun _ => true, fun x => ((), ((laws_eqItemS x.1 x.2.1), ()))⟩
noncomputable def E : Env := ⟨theta, [(361, laws_eqItem.fs)], []⟩
noncomputable def sh4 : ShSt := ⟨((.one (.dat (.sl 44 tyS213))) :: (.one (.dat (.sl 44 tyS213))) :: uu :: uu :: uu :: ui :: un 21 []), []⟩
noncomputable def outs4 : List OutC := [⟨.ret, ⟨0, [4], []⟩, ⟨(un 4 ((.one (.dat .bool)) :: un 22 [])), []⟩⟩, ⟨(.exit 0), ⟨0, [], []⟩, ⟨(un 27 []), []⟩⟩]
noncomputable def L4 : LC := ⟨4, ⟨4, [0, 1, 5], []⟩, sh4, outs4, pre4, fn4⟩
noncomputable def H : List LC := [L4]
noncomputable def code (i : Nat) : Code := (loopsOf (bodyOf Tryz.f322)).getD i .skip
theorem lok4 : LoopOk E H (code 0) L4 := ⟨mu4, fun ⟨x1, x2, x3, ()⟩ hp => rounds_ok (show L4.step E H (code 0) (x1, (x2, (x3, ()))) = raw4 x1 x2 x3 from by kernel_rfl) (ok4 x1 x2 x3 hp)⟩
theorem env : EnvOk Tryz.prog E := env_cons laws_eqItem.known (env_nil tys)
theorem loops : ∀ c, Tryz.f322.body = some c → LoopsOk E H c := loops_of (by kernel_rfl) (by kernel_rfl) fun i l h => match i, h with
  | 0, h => Option.some.inj h ▸ lok4
  | n + 1, h => by cases h
theorem sound : Sound Tryz.prog 322 fs := fn_sound env mixed Tryz.func322 H loops fun ⟨x0, x1, ()⟩ hw _ => (show runFn E H Tryz.f322 fs.ps fs.rs (x0, (x1, ())) = raw x0 x1 from by kernel_rfl).trans (eq x0 x1 hw)
theorem known : Seen Tryz.prog 322 fs := ⟨sound, _, Tryz.func322, by kernel_rfl, by kernel_rfl⟩
end laws_eqItemS
namespace laws_eqRow
noncomputable def fs : FS := ⟨[(.val tyS27 .f), (.val tyS27 .f)], [(.bool, .o)], fun _ => true, fun x => ((), ((laws_eqRow x.1 x.2.1), ()))⟩
noncomputable def E : Env := ⟨theta, [(322, laws_eqItemS.fs)], []⟩
noncomputable def H : List LC := []
theorem env : EnvOk Tryz.prog E := env_cons laws_eqItemS.known (env_nil tys)
theorem loops : ∀ c, Tryz.f270.body = some c → LoopsOk E H c := loops_none (by kernel_rfl)
theorem sound : Sound Tryz.prog 270 fs := fn_sound env mixed Tryz.func270 H loops fun ⟨x0, x1, ()⟩ hw _ => (show runFn E H Tryz.f270 fs.ps fs.rs (x0, (x1, ())) = raw x0 x1 from by kernel_rfl).trans (eq x0 x1 hw)
theorem known : Seen Tryz.prog 270 fs := ⟨sound, _, Tryz.func270, by kernel_rfl, by kernel_rfl⟩
end laws_eqRow
namespace laws_eqRowS
noncomputable def fs : FS := ⟨[(.val (.sl 42 tyS27) .f), (.val (.sl 42 tyS27) .f)], [(.bool, .o)], fun _ => true, fun x => ((), ((laws_eqRowS x.1 x.2.1), ()))⟩
noncomputable def E : Env := ⟨theta, [(270, laws_eqRow.fs)], []⟩
noncomputable def sh4 : ShSt := ⟨((.one (.dat (.sl 42 tyS27))) :: (.one (.dat (.sl 42 tyS27))) :: uu :: uu :: uu :: ui :: un 21 []), []⟩
noncomputable def outs4 : List OutC := [⟨.ret, ⟨0, [4], []⟩, ⟨(un 4 ((.one (.dat .bool)) :: un 22 [])), []⟩⟩, ⟨(.exit 0), ⟨0, [], []⟩, ⟨(un 27 []), []⟩⟩]
noncomputable def L4 : LC := ⟨4, ⟨4, [0, 1, 5], []⟩, sh4, outs4, pre4, fn4⟩
noncomputable def H : List LC := [L4]
noncomputable def code (i : Nat) : Code := (loopsOf (bodyOf Tryz.f179)).getD i .skip
theorem lok4 : LoopOk E H (code 0) L4 := ⟨mu4, fun ⟨x1, x2, x3, ()⟩ hp => rounds_ok (show L4.step E H (code 0) (x1, (x2, (x3, ()))) = raw4 x1 x2 x3 from by kernel_rfl) (ok4 x1 x2 x3 hp)⟩
theorem env : EnvOk Tryz.prog E := env_cons laws_eqRow.known (env_nil tys)
theorem loops : ∀ c, Tryz.f179.body = some c → LoopsOk E H c := loops_of (by kernel_rfl) (by kernel_rfl) fun i l h => match i, h with
  | 0, h => Option.some.inj h ▸ lok4
  | n + 1, h => by cases h
theorem sound : Sound Tryz.prog 179 fs := fn_sound env mixed Tryz.func179 H loops fun ⟨x0, x1, ()⟩ hw _ => (show runFn E H Tryz.f179 fs.ps fs.rs (x0, (x1, ())) = raw x0 x1 from by kernel_rfl).trans (eq x0 x1 hw)
theorem known : Seen Tryz.prog 179 fs := ⟨sound, _, Tryz.func179, by kernel_rfl, by kernel_rfl⟩
end laws_eqRowS
namespace laws_eqMark
noncomputable def fs : FS := ⟨[(.val tyS24 .f), (.val tyS24 .f)], [(.bool, .o)], fun _ => true, fun x => ((), ((laws_eqMark x.1 x.2.1), ()))⟩
noncomputable def E : Env := ⟨theta, [], []⟩
noncomputable def H : List LC := []
theorem env : EnvOk Tryz.prog E := env_nil tys
theorem loops : ∀ c, Tryz.f362.body = some c → LoopsOk E H c := loops_none (by kernel_rfl)
theorem sound : Sound Tryz.prog 362 fs := fn_sound env mixed Tryz.func362 H loops fun ⟨x0, x1, ()⟩ hw _ => (show runFn E H Tryz.f362 fs.ps fs.rs (x0, (x1, ())) = raw x0 x1 from by kernel_rfl).trans (eq x0 x1 hw)
theorem known : Seen Tryz.prog 362 fs := ⟨sound, _, Tryz.func362, by kernel_rfl, by kernel_rfl⟩
end laws_eqMark
end
end Go.Aw.Pl
