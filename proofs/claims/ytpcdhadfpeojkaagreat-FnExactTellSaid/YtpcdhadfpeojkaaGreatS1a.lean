/-
  These laws hold: FnExactTell: each answers true for every input, and nothing of its arguments is changed. Conditions: those of the given statements alone.
  Printed by a program of the proof's author: what each function does, by the plain machine (the texts Aw.. and Ax..), and the rows at the end.
-/
import Derived.Test.YtpcdhadfpeojkaaGreatRows
import Derived.JoinedOf
import Derived.Test.YtpcdhadfpeojkaaGreatTlb
namespace Go.Aw.Pl
open Go Go.Aw Go.Proofs
set_option linter.unusedVariables false
set_option maxRecDepth 20000
noncomputable abbrev uu : ShS := .one .undef
noncomputable abbrev ui : ShS := .one (.dat (.int .i64))
abbrev tyS18 : Ty := .pair (.int .i64) (.pair (.sl 3 (.int .i64)) (.pair (.sl 3 (.int .i64)) (.pair (.sl 3 (.int .i64)) .unit)))
abbrev tyS19 : Ty := .pair (.int .i64) (.pair (.int .i64) (.pair .str (.pair .str .unit)))
abbrev tyS12 : Ty := .pair (.int .i64) (.pair (.pair (.int .i64) (.pair (.int .i64) (.pair (.int .i64) (.pair (.int .i64) tyS19)))) .unit)
abbrev tyS14 : Ty := .pair (.int .i64) (.pair (.int .i64) (.pair (.int .i64) (.pair (.int .i64) (.pair (.int .i64) (.pair (.int .i64) (.pair (.int .i64) (.pair (.sl 167 tyS12) (.pair .bool (.pair .str .unit)))))))))
abbrev tyS110 : Ty := .pair (.int .i64) (.pair (.int .i64) (.pair (.int .i64) (.pair (.int .i64) (.pair (.int .i64) (.pair (.int .i64) (.pair (.int .i64) (.pair (.sl 293 tyS12) (.pair .bool (.pair .str .unit)))))))))
abbrev tyS113 : Ty := .pair (.int .i64) (.pair (.int .i64) .unit)
abbrev tyS15 : Ty := .pair (.int .i64) (.pair (.int .i64) (.pair (.int .i64) (.pair (.int .i64) (.pair (.sl 254 tyS113) .unit))))
abbrev tyS16 : Ty := .pair (.int .i64) (.pair .str (.pair .str tyS113))
abbrev tyS111 : Ty := .pair (.int .i64) (.pair (.int .i64) (.pair (.sl 44 tyS16) .unit))
abbrev tyS11 : Ty := .pair (.sl 42 tyS111) (.pair (.sl 156 tyS15) (.pair (.sl 159 tyS18) (.pair (.int .i64) (.pair (.sl 3 (.int .i64)) (.pair (.sl 48 tyS19) .unit)))))
abbrev tyS114 : Ty := .pair (.int .i64) (.pair (.int .i64) (.pair (.sl 167 tyS12) .unit))
abbrev tyS17 : Ty := .pair (.int .i64) (.pair (.pair (.int .i64) (.pair (.int .i64) (.pair tyS114 (.pair tyS11 .unit)))) (.pair (.int .i64) (.pair (.sl 4 .bool) (.pair (.sl 3 (.int .i64)) (.pair (.sl 3 (.int .i64)) (.pair (.int .i64) (.pair tyS11 (.pair (.pair (.sl 5 (.int .u8)) (.pair (.int .i64) .unit)) (.pair (.sl 113 tyS14) .unit)))))))))
abbrev tyS115 : Ty := .pair (.int .i64) (.pair (.int .i64) (.pair (.int .i64) (.pair (.int .i64) (.pair (.sl 383 tyS113) .unit))))
abbrev tyS13 : Ty := .pair (.sl 325 (.pair (.int .i64) (.pair (.int .i64) (.pair (.sl 380 tyS16) .unit)))) (.pair (.sl 329 tyS115) (.pair (.sl 331 tyS18) (.pair (.int .i64) (.pair (.sl 3 (.int .i64)) (.pair (.sl 333 tyS19) .unit)))))
abbrev tyS112 : Ty := .pair (.int .i64) (.pair (.pair (.int .i64) (.pair (.int .i64) (.pair (.pair (.int .i64) (.pair (.int .i64) (.pair (.sl 293 tyS12) .unit))) (.pair tyS13 .unit)))) (.pair (.int .i64) (.pair (.sl 4 .bool) (.pair (.sl 3 (.int .i64)) (.pair (.sl 3 (.int .i64)) (.pair (.int .i64) (.pair tyS13 (.pair (.pair (.sl 5 (.int .u8)) (.pair (.int .i64) .unit)) (.pair (.sl 107 tyS110) .unit)))))))))
noncomputable def theta : List (TypeId × Ty) := [(1, .op),
  (2, (.int .i64)),
  (3, (.int .i64)),
  (4, .bool),
  (5, (.int .u8)),
  (6, (.int .u8)),
  (7, (.pair (.int .i64) (.pair (.int .i64) (.pair .bool (.pair (.int .u8) .unit))))),
  (8, (.pair (.int .i64) (.pair (.int .i64) (.pair .bool (.pair (.int .u8) .unit))))),
  (9, .str),
  (10, .str),
  (11, .str),
  (12, (.int .u64)),
  (15, .op),
  (16, .op),
  (17, .op),
  (21, (.int .i32)),
  (22, (.sl 5 (.int .u8))),
  (23, .op),
  (24, (.pair (.int .i64) (.pair (.int .i64) tyS113))),
  (25, (.pair (.int .i64) (.pair (.int .i64) tyS113))),
  (26, (.sl 46 (.pair (.int .i64) (.pair (.int .i64) (.pair (.int .i64) (.pair (.int .i64) tyS19)))))),
  (28, .op),
  (29, (.sl 42 tyS111)),
  (30, (.sl 156 tyS15)),
  (31, (.sl 159 tyS18)),
  (32, (.sl 3 (.int .i64))),
  (33, (.sl 48 tyS19)),
  (34, tyS11),
  (35, tyS11),
  (37, .op),
  (38, .op),
  (39, .op),
  (40, (.sl 44 tyS16)),
  (41, tyS111),
  (42, tyS111),
  (43, tyS16),
  (44, tyS16),
  (45, (.pair (.int .i64) (.pair (.int .i64) (.pair (.int .i64) (.pair (.int .i64) tyS19))))),
  (46, (.pair (.int .i64) (.pair (.int .i64) (.pair (.int .i64) (.pair (.int .i64) tyS19))))),
  (47, tyS19),
  (48, tyS19),
  (50, .op),
  (51, .op),
  (52, (.sl 58 (.pair (.int .i64) (.pair (.int .i64) (.pair (.int .i64) (.pair (.int .i64) (.pair (.sl 167 tyS12) (.pair .str .unit)))))))),
  (54, .op),
  (55, .op),
  (56, (.sl 167 tyS12)),
  (57, (.pair (.int .i64) (.pair (.int .i64) (.pair (.int .i64) (.pair (.int .i64) (.pair (.sl 167 tyS12) (.pair .str .unit))))))),
  (58, (.pair (.int .i64) (.pair (.int .i64) (.pair (.int .i64) (.pair (.int .i64) (.pair (.sl 167 tyS12) (.pair .str .unit))))))),
  (59, .op),
  (60, .op),
  (61, .op),
  (62, .op),
  (64, .op),
  (66, .op),
  (68, .op),
  (69, .op),
  (70, .op),
  (71, .op),
  (72, .op),
  (73, .op),
  (74, (.pair (.int .i64) (.pair (.int .i64) tyS113))),
  (75, tyS114),
  (76, tyS114),
  (77, (.pair (.int .i64) (.pair (.int .i64) (.pair tyS114 (.pair tyS11 .unit))))),
  (78, (.pair (.int .i64) (.pair (.int .i64) (.pair tyS114 (.pair tyS11 .unit))))),
  (79, (.sl 4 .bool)),
  (80, (.pair (.sl 5 (.int .u8)) (.pair (.int .i64) .unit))),
  (81, (.pair (.sl 5 (.int .u8)) (.pair (.int .i64) .unit))),
  (82, (.sl 113 tyS14)),
  (83, tyS17),
  (84, tyS17),
  (86, .op),
  (87, .op),
  (88, .op),
  (89, .op),
  (90, .op),
  (91, (.sl 293 tyS12)),
  (92, (.pair (.int .i64) (.pair (.int .i64) (.pair (.sl 293 tyS12) .unit)))),
  (93, (.pair (.int .i64) (.pair (.int .i64) (.pair (.sl 293 tyS12) .unit)))),
  (94, (.sl 325 (.pair (.int .i64) (.pair (.int .i64) (.pair (.sl 380 tyS16) .unit))))),
  (95, (.sl 329 tyS115)),
  (96, (.sl 331 tyS18)),
  (97, (.sl 333 tyS19)),
  (98, tyS13),
  (99, tyS13),
  (100, (.pair (.int .i64) (.pair (.int .i64) (.pair (.pair (.int .i64) (.pair (.int .i64) (.pair (.sl 293 tyS12) .unit))) (.pair tyS13 .unit))))),
  (101, (.pair (.int .i64) (.pair (.int .i64) (.pair (.pair (.int .i64) (.pair (.int .i64) (.pair (.sl 293 tyS12) .unit))) (.pair tyS13 .unit))))),
  (102, (.pair (.sl 5 (.int .u8)) (.pair (.int .i64) .unit))),
  (103, (.sl 107 tyS110)),
  (104, tyS112),
  (105, tyS112),
  (106, tyS110),
  (107, tyS110),
  (108, .op),
  (109, .op),
  (110, .op),
  (111, .op),
  (112, tyS14),
  (113, tyS14),
  (114, .op),
  (115, .op),
  (116, .op),
  (117, .op),
  (118, (.sl 225 (.pair (.int .i64) (.pair (.int .i64) (.pair (.int .i64) (.pair (.int .i64) tyS19)))))),
  (119, .op),
  (120, .op),
  (121, .op),
  (122, .op),
  (123, .op),
  (124, .op),
  (125, .op),
  (126, .op),
  (127, .op),
  (128, .op),
  (129, .op),
  (130, .op),
  (131, .op),
  (133, .op),
  (134, .op),
  (135, .op),
  (137, .op),
  (138, .op),
  (140, .op),
  (141, .op),
  (142, .op),
  (143, .op),
  (144, .op),
  (145, .op),
  (146, .op),
  (147, .op),
  (148, .op),
  (149, .op),
  (150, .op),
  (151, .op),
  (152, .op),
  (153, .op),
  (154, (.sl 254 tyS113)),
  (155, tyS15),
  (156, tyS15),
  (157, .op),
  (158, tyS18),
  (159, tyS18),
  (160, .op),
  (161, .op),
  (162, .op),
  (163, .op),
  (164, .op),
  (165, .op),
  (166, tyS12),
  (167, tyS12),
  (168, .op),
  (169, .op),
  (170, .op),
  (171, (.int .u64)),
  (172, .op),
  (173, .op),
  (174, .op),
  (175, .op),
  (176, .op),
  (177, .op),
  (179, .op),
  (180, .op),
  (181, (.pair (.sl 5 (.int .u8)) (.pair (.int .i64) (.pair .bool .unit)))),
  (182, (.pair (.sl 5 (.int .u8)) (.pair (.int .i64) (.pair .bool .unit)))),
  (183, .op),
  (184, .op),
  (185, .op),
  (186, (.sl 9 .str)),
  (187, .op),
  (188, .op),
  (189, .op),
  (190, .op),
  (191, .op),
  (192, .op),
  (193, .op),
  (194, .op),
  (195, .op),
  (196, .op),
  (197, .op),
  (198, .op),
  (199, .op),
  (200, .op),
  (201, .op),
  (202, .op),
  (203, .op),
  (204, .op),
  (205, .op),
  (206, .op),
  (207, .op),
  (208, .op),
  (209, .op),
  (210, .op),
  (211, .op),
  (212, .op),
  (213, .op),
  (214, .op),
  (215, .op),
  (216, .op),
  (217, .op),
  (218, .op),
  (219, .op),
  (220, .op),
  (221, .op),
  (222, .op),
  (223, .op),
  (224, .op),
  (225, (.pair (.int .i64) (.pair (.int .i64) (.pair (.int .i64) (.pair (.int .i64) tyS19))))),
  (226, .op),
  (227, .op),
  (228, .op),
  (229, .op),
  (230, .op),
  (231, .op),
  (232, .op),
  (233, .op),
  (234, .op),
  (235, .op),
  (236, .op),
  (237, .op),
  (238, .op),
  (239, .op),
  (240, .op),
  (242, .op),
  (243, .op),
  (244, .op),
  (246, .op),
  (248, .op),
  (249, .op),
  (250, (.pair (.sl 5 (.int .u8)) tyS113)),
  (251, (.pair (.sl 5 (.int .u8)) tyS113)),
  (252, .op),
  (253, tyS113),
  (254, tyS113),
  (255, .op),
  (256, .op),
  (257, .op),
  (258, .op),
  (259, (.sl 22 (.sl 5 (.int .u8)))),
  (260, .op),
  (261, .op),
  (263, .op),
  (264, .op),
  (265, .op),
  (266, .op),
  (267, (.pair (.sl 5 (.int .u8)) (.pair (.int .i64) (.pair .bool .unit)))),
  (268, (.pair (.sl 5 (.int .u8)) (.pair (.int .i64) (.pair .bool .unit)))),
  (269, .op),
  (270, .op),
  (271, .op),
  (272, .op),
  (273, .op),
  (274, .op),
  (275, .op),
  (276, .op),
  (277, .op),
  (278, .op),
  (279, .op),
  (280, .op),
  (281, .op),
  (282, .op),
  (283, .op),
  (284, .op),
  (285, .op),
  (286, .op),
  (287, .op),
  (288, .op),
  (289, .op),
  (290, .op),
  (291, .op),
  (292, tyS12),
  (293, tyS12),
  (294, .op),
  (295, .op),
  (296, .op),
  (297, .op),
  (298, .op),
  (299, .op),
  (300, .op),
  (301, .op),
  (302, .op),
  (303, .op),
  (304, .op),
  (305, .op),
  (306, .op),
  (307, .op),
  (308, .op),
  (309, .op),
  (310, .op),
  (311, .op),
  (312, .op),
  (313, .op),
  (314, .op),
  (315, .op),
  (316, .op),
  (317, .op),
  (319, .op),
  (320, .op),
  (321, .op),
  (322, .op),
  (323, (.sl 380 tyS16)),
  (324, (.pair (.int .i64) (.pair (.int .i64) (.pair (.sl 380 tyS16) .unit)))),
  (325, (.pair (.int .i64) (.pair (.int .i64) (.pair (.sl 380 tyS16) .unit)))),
  (326, .op),
  (327, (.sl 383 tyS113)),
  (328, tyS115),
  (329, tyS115),
  (330, .op),
  (331, tyS18),
  (332, .op),
  (333, tyS19),
  (334, .op),
  (335, .op),
  (336, .op),
  (337, .op),
  (338, .op),
  (339, .op),
  (340, .op),
  (341, .op),
  (343, .op),
  (344, .op),
  (345, .op),
  (346, .op),
  (347, .op),
  (348, .op),
  (350, .op),
  (351, .op),
  (353, .op),
  (354, .op),
  (355, .op),
  (356, .op),
  (357, .op),
  (358, .op),
  (359, .op),
  (360, .op),
  (361, .op),
  (362, .op),
  (363, .op),
  (364, .op),
  (365, .op),
  (367, .op),
  (368, .op),
  (369, .op),
  (370, .op),
  (371, .op),
  (372, .op),
  (373, .op),
  (374, .op),
  (375, .op),
  (376, .op),
  (377, .op),
  (378, .op),
  (379, .op),
  (380, tyS16),
  (381, .op),
  (382, .op),
  (383, tyS113),
  (384, .op),
  (385, .op),
  (386, .op),
  (392, (.int .u32)),
  (393, (.int .u8)),
  (394, (.int .u8)),
  (395, .op),
  (396, .op),
  (397, (.int .i32)),
  (398, (.int .i32))]
theorem tys : ∀ t T, find theta t = some T → tyF Tryz.prog T (.t t) = true := tys_of (by kernel_rfl)
theorem mixed : Tryz.prog.follows .mixedOrders = true := by kernel_rfl
namespace laws_szCmd
noncomputable def fs : FS := ⟨[(.val (.pair (.int .i64) (.pair (.int .i64) (.pair (.int .i64) (.pair (.int .i64) tyS19)))) .f), (.val (.int .i64) .f)], [((.int .i64), .o)], fun x => laws_szCmd.pre x.1 x.2.1, fun x => ((), ((laws_szCmd x.1 x.2.1), ()))⟩
noncomputable def E : Env := ⟨theta, [], []⟩
noncomputable def H : List LC := []
noncomputable def code (i : Nat) : Code := (loopsOf (bodyOf Tryz.f177)).getD i .skip
theorem run (x0 : Cmd) (x1 : Int) : runFn E H Tryz.f177 fs.ps fs.rs (x0, (x1, ())) = raw x0 x1 := by kernel_rfl
theorem env : EnvOk Tryz.prog E := env_nil tys
theorem loops : ∀ c, Tryz.f177.body = some c → LoopsOk E H c := loops_none (by kernel_rfl)
theorem sound : Sound Tryz.prog 177 fs := fn_sound env mixed Tryz.func177 H loops fun ⟨x0, x1, ()⟩ hw hp => (run x0 x1).trans (eq x0 x1 hw hp)
theorem known : Seen Tryz.prog 177 fs := ⟨sound, _, Tryz.func177, by kernel_rfl, by kernel_rfl⟩
end laws_szCmd
namespace laws_szEntry
noncomputable def fs : FS := ⟨[(.val tyS12 .f), (.val (.int .i64) .f)], [((.int .i64), .o)], fun x => laws_szEntry.pre x.1 x.2.1, fun x => ((), ((laws_szEntry x.1 x.2.1), ()))⟩
noncomputable def E : Env := ⟨theta, [(177, laws_szCmd.fs)], []⟩
noncomputable def H : List LC := []
noncomputable def code (i : Nat) : Code := (loopsOf (bodyOf Tryz.f258)).getD i .skip
theorem run (x0 : Entry) (x1 : Int) : runFn E H Tryz.f258 fs.ps fs.rs (x0, (x1, ())) = raw x0 x1 := by kernel_rfl
theorem env : EnvOk Tryz.prog E := env_cons laws_szCmd.known (env_nil tys)
theorem loops : ∀ c, Tryz.f258.body = some c → LoopsOk E H c := loops_none (by kernel_rfl)
theorem sound : Sound Tryz.prog 258 fs := fn_sound env mixed Tryz.func258 H loops fun ⟨x0, x1, ()⟩ hw hp => (run x0 x1).trans (eq x0 x1 hw hp)
theorem known : Seen Tryz.prog 258 fs := ⟨sound, _, Tryz.func258, by kernel_rfl, by kernel_rfl⟩
end laws_szEntry
namespace laws_szEntryS
noncomputable def fs : FS := ⟨[(.val (.sl 293 tyS12) .f), (.val (.int .i64) .f)], [((.int .i64), .o)], fun x => laws_szEntryS.pre x.1 x.2.1, fun x => ((), ((laws_szEntryS x.1 x.2.1), ()))⟩
noncomputable def E : Env := ⟨theta, [(258, laws_szEntry.fs)], []⟩
noncomputable def sh5 : ShSt := ⟨[(.one (.dat (.sl 293 tyS12))), ui, uu, uu, uu, ui, uu, uu, uu, uu, uu, uu, uu, uu, uu, uu, uu, uu, uu, uu, uu, uu, uu, uu, uu, uu, uu], []⟩
noncomputable def outs5 : List OutC := [⟨.ret, ⟨0, [4], []⟩, ⟨[uu, uu, uu, uu, ui, uu, uu, uu, uu, uu, uu, uu, uu, uu, uu, uu, uu, uu, uu, uu, uu, uu, uu, uu, uu, uu, uu], []⟩⟩, ⟨(.exit 0), ⟨0, [1], []⟩, ⟨[uu, ui, uu, uu, uu, uu, uu, uu, uu, uu, uu, uu, uu, uu, uu, uu, uu, uu, uu, uu, uu, uu, uu, uu, uu, uu, uu], []⟩⟩]
noncomputable def L5 : LC := ⟨5, ⟨5, [0, 1, 5], []⟩, sh5, outs5, pre5, fn5⟩
noncomputable def H : List LC := [L5]
noncomputable def code (i : Nat) : Code := (loopsOf (bodyOf Tryz.f163)).getD i .skip
theorem step5 (x1 : (List Entry)) (x2 : Int) (x3 : Int) : L5.step E H (code 0) (x1, (x2, (x3, ()))) = raw5 x1 x2 x3 := by kernel_rfl
theorem lok5 : LoopOk E H (code 0) L5 := ⟨mu5, fun ⟨x1, x2, x3, ()⟩ hp => rounds_ok (step5 x1 x2 x3) (ok5 x1 x2 x3 hp)⟩
theorem run (x0 : (List Entry)) (x1 : Int) : runFn E H Tryz.f163 fs.ps fs.rs (x0, (x1, ())) = raw x0 x1 := by kernel_rfl
theorem env : EnvOk Tryz.prog E := env_cons laws_szEntry.known (env_nil tys)
theorem loops : ∀ c, Tryz.f163.body = some c → LoopsOk E H c := loops_of (by kernel_rfl) (by kernel_rfl) fun i l h => match i, h with
  | 0, h => Option.some.inj h ▸ lok5
  | n + 1, h => by cases h
theorem sound : Sound Tryz.prog 163 fs := fn_sound env mixed Tryz.func163 H loops fun ⟨x0, x1, ()⟩ hw hp => (run x0 x1).trans (eq x0 x1 hw hp)
theorem known : Seen Tryz.prog 163 fs := ⟨sound, _, Tryz.func163, by kernel_rfl, by kernel_rfl⟩
end laws_szEntryS
namespace laws_szLog
noncomputable def fs : FS := ⟨[(.val (.pair (.int .i64) (.pair (.int .i64) (.pair (.sl 293 tyS12) .unit))) .f), (.val (.int .i64) .f)], [((.int .i64), .o)], fun x => laws_szLog.pre x.1 x.2.1, fun x => ((), ((laws_szLog x.1 x.2.1), ()))⟩
noncomputable def E : Env := ⟨theta, [(163, laws_szEntryS.fs)], []⟩
noncomputable def H : List LC := []
noncomputable def code (i : Nat) : Code := (loopsOf (bodyOf Tryz.f252)).getD i .skip
theorem run (x0 : Log) (x1 : Int) : runFn E H Tryz.f252 fs.ps fs.rs (x0, (x1, ())) = raw x0 x1 := by kernel_rfl
theorem env : EnvOk Tryz.prog E := env_cons laws_szEntryS.known (env_nil tys)
theorem loops : ∀ c, Tryz.f252.body = some c → LoopsOk E H c := loops_none (by kernel_rfl)
theorem sound : Sound Tryz.prog 252 fs := fn_sound env mixed Tryz.func252 H loops fun ⟨x0, x1, ()⟩ hw hp => (run x0 x1).trans (eq x0 x1 hw hp)
theorem known : Seen Tryz.prog 252 fs := ⟨sound, _, Tryz.func252, by kernel_rfl, by kernel_rfl⟩
end laws_szLog
namespace laws_szItem
noncomputable def fs : FS := ⟨[(.val tyS16 .f), (.val (.int .i64) .f)], [((.int .i64), .o)], fun x => laws_szItem.pre x.1 x.2.1, fun x => ((), ((laws_szItem x.1 x.2.1), ()))⟩
noncomputable def E : Env := ⟨theta, [], []⟩
noncomputable def H : List LC := []
noncomputable def code (i : Nat) : Code := (loopsOf (bodyOf Tryz.f389)).getD i .skip
theorem run (x0 : Item) (x1 : Int) : runFn E H Tryz.f389 fs.ps fs.rs (x0, (x1, ())) = raw x0 x1 := by kernel_rfl
theorem env : EnvOk Tryz.prog E := env_nil tys
theorem loops : ∀ c, Tryz.f389.body = some c → LoopsOk E H c := loops_none (by kernel_rfl)
theorem sound : Sound Tryz.prog 389 fs := fn_sound env mixed Tryz.func389 H loops fun ⟨x0, x1, ()⟩ hw hp => (run x0 x1).trans (eq x0 x1 hw hp)
theorem known : Seen Tryz.prog 389 fs := ⟨sound, _, Tryz.func389, by kernel_rfl, by kernel_rfl⟩
end laws_szItem
namespace laws_szItemS
noncomputable def fs : FS := ⟨[(.val (.sl 380 tyS16) .f), (.val (.int .i64) .f)], [((.int .i64), .o)], fun x => laws_szItemS.pre x.1 x.2.1, fun x => ((), ((laws_szItemS x.1 x.2.1), ()))⟩
noncomputable def E : Env := ⟨theta, [(389, laws_szItem.fs)], []⟩
noncomputable def sh5 : ShSt := ⟨[(.one (.dat (.sl 380 tyS16))), ui, uu, uu, uu, ui, uu, uu, uu, uu, uu, uu, uu, uu, uu, uu, uu, uu, uu, uu, uu, uu, uu, uu, uu, uu, uu], []⟩
noncomputable def outs5 : List OutC := [⟨.ret, ⟨0, [4], []⟩, ⟨[uu, uu, uu, uu, ui, uu, uu, uu, uu, uu, uu, uu, uu, uu, uu, uu, uu, uu, uu, uu, uu, uu, uu, uu, uu, uu, uu], []⟩⟩, ⟨(.exit 0), ⟨0, [1], []⟩, ⟨[uu, ui, uu, uu, uu, uu, uu, uu, uu, uu, uu, uu, uu, uu, uu, uu, uu, uu, uu, uu, uu, uu, uu, uu, uu, uu, uu], []⟩⟩]
noncomputable def L5 : LC := ⟨5, ⟨5, [0, 1, 5], []⟩, sh5, outs5, pre5, fn5⟩
noncomputable def H : List LC := [L5]
noncomputable def code (i : Nat) : Code := (loopsOf (bodyOf Tryz.f357)).getD i .skip
theorem step5 (x1 : (List Item)) (x2 : Int) (x3 : Int) : L5.step E H (code 0) (x1, (x2, (x3, ()))) = raw5 x1 x2 x3 := by kernel_rfl
theorem lok5 : LoopOk E H (code 0) L5 := ⟨mu5, fun ⟨x1, x2, x3, ()⟩ hp => rounds_ok (step5 x1 x2 x3) (ok5 x1 x2 x3 hp)⟩
theorem run (x0 : (List Item)) (x1 : Int) : runFn E H Tryz.f357 fs.ps fs.rs (x0, (x1, ())) = raw x0 x1 := by kernel_rfl
theorem env : EnvOk Tryz.prog E := env_cons laws_szItem.known (env_nil tys)
theorem loops : ∀ c, Tryz.f357.body = some c → LoopsOk E H c := loops_of (by kernel_rfl) (by kernel_rfl) fun i l h => match i, h with
  | 0, h => Option.some.inj h ▸ lok5
  | n + 1, h => by cases h
theorem sound : Sound Tryz.prog 357 fs := fn_sound env mixed Tryz.func357 H loops fun ⟨x0, x1, ()⟩ hw hp => (run x0 x1).trans (eq x0 x1 hw hp)
theorem known : Seen Tryz.prog 357 fs := ⟨sound, _, Tryz.func357, by kernel_rfl, by kernel_rfl⟩
end laws_szItemS
namespace laws_szRow
noncomputable def fs : FS := ⟨[(.val (.pair (.int .i64) (.pair (.int .i64) (.pair (.sl 380 tyS16) .unit))) .f), (.val (.int .i64) .f)], [((.int .i64), .o)], fun x => laws_szRow.pre x.1 x.2.1, fun x => ((), ((laws_szRow x.1 x.2.1), ()))⟩
noncomputable def E : Env := ⟨theta, [(357, laws_szItemS.fs)], []⟩
noncomputable def H : List LC := []
noncomputable def code (i : Nat) : Code := (loopsOf (bodyOf Tryz.f314)).getD i .skip
theorem run (x0 : Row) (x1 : Int) : runFn E H Tryz.f314 fs.ps fs.rs (x0, (x1, ())) = raw x0 x1 := by kernel_rfl
theorem env : EnvOk Tryz.prog E := env_cons laws_szItemS.known (env_nil tys)
theorem loops : ∀ c, Tryz.f314.body = some c → LoopsOk E H c := loops_none (by kernel_rfl)
theorem sound : Sound Tryz.prog 314 fs := fn_sound env mixed Tryz.func314 H loops fun ⟨x0, x1, ()⟩ hw hp => (run x0 x1).trans (eq x0 x1 hw hp)
theorem known : Seen Tryz.prog 314 fs := ⟨sound, _, Tryz.func314, by kernel_rfl, by kernel_rfl⟩
end laws_szRow
namespace laws_szRowS
noncomputable def fs : FS := ⟨[(.val (.sl 325 (.pair (.int .i64) (.pair (.int .i64) (.pair (.sl 380 tyS16) .unit)))) .f), (.val (.int .i64) .f)], [((.int .i64), .o)], fun x => laws_szRowS.pre x.1 x.2.1, fun x => ((), ((laws_szRowS x.1 x.2.1), ()))⟩
noncomputable def E : Env := ⟨theta, [(314, laws_szRow.fs)], []⟩
noncomputable def sh5 : ShSt := ⟨[(.one (.dat (.sl 325 (.pair (.int .i64) (.pair (.int .i64) (.pair (.sl 380 tyS16) .unit)))))), ui, uu, uu, uu, ui, uu, uu, uu, uu, uu, uu, uu, uu, uu, uu, uu, uu, uu, uu, uu, uu, uu, uu, uu, uu, uu], []⟩
noncomputable def outs5 : List OutC := [⟨.ret, ⟨0, [4], []⟩, ⟨[uu, uu, uu, uu, ui, uu, uu, uu, uu, uu, uu, uu, uu, uu, uu, uu, uu, uu, uu, uu, uu, uu, uu, uu, uu, uu, uu], []⟩⟩, ⟨(.exit 0), ⟨0, [1], []⟩, ⟨[uu, ui, uu, uu, uu, uu, uu, uu, uu, uu, uu, uu, uu, uu, uu, uu, uu, uu, uu, uu, uu, uu, uu, uu, uu, uu, uu], []⟩⟩]
noncomputable def L5 : LC := ⟨5, ⟨5, [0, 1, 5], []⟩, sh5, outs5, pre5, fn5⟩
noncomputable def H : List LC := [L5]
noncomputable def code (i : Nat) : Code := (loopsOf (bodyOf Tryz.f253)).getD i .skip
theorem step5 (x1 : (List Row)) (x2 : Int) (x3 : Int) : L5.step E H (code 0) (x1, (x2, (x3, ()))) = raw5 x1 x2 x3 := by kernel_rfl
theorem lok5 : LoopOk E H (code 0) L5 := ⟨mu5, fun ⟨x1, x2, x3, ()⟩ hp => rounds_ok (step5 x1 x2 x3) (ok5 x1 x2 x3 hp)⟩
theorem run (x0 : (List Row)) (x1 : Int) : runFn E H Tryz.f253 fs.ps fs.rs (x0, (x1, ())) = raw x0 x1 := by kernel_rfl
theorem env : EnvOk Tryz.prog E := env_cons laws_szRow.known (env_nil tys)
theorem loops : ∀ c, Tryz.f253.body = some c → LoopsOk E H c := loops_of (by kernel_rfl) (by kernel_rfl) fun i l h => match i, h with
  | 0, h => Option.some.inj h ▸ lok5
  | n + 1, h => by cases h
theorem sound : Sound Tryz.prog 253 fs := fn_sound env mixed Tryz.func253 H loops fun ⟨x0, x1, ()⟩ hw hp => (run x0 x1).trans (eq x0 x1 hw hp)
theorem known : Seen Tryz.prog 253 fs := ⟨sound, _, Tryz.func253, by kernel_rfl, by kernel_rfl⟩
end laws_szRowS
namespace laws_szMarkS
noncomputable def fs : FS := ⟨[(.val (.sl 383 tyS113) .f), (.val (.int .i64) .f)], [((.int .i64), .o)], fun x => laws_szMarkS.pre x.1 x.2.1, fun x => ((), ((laws_szMarkS x.1 x.2.1), ()))⟩
noncomputable def E : Env := ⟨theta, [], []⟩
noncomputable def H : List LC := []
noncomputable def code (i : Nat) : Code := (loopsOf (bodyOf Tryz.f358)).getD i .skip
theorem run (x0 : (List Mark)) (x1 : Int) : runFn E H Tryz.f358 fs.ps fs.rs (x0, (x1, ())) = raw x0 x1 := by kernel_rfl
theorem env : EnvOk Tryz.prog E := env_nil tys
theorem loops : ∀ c, Tryz.f358.body = some c → LoopsOk E H c := loops_none (by kernel_rfl)
theorem sound : Sound Tryz.prog 358 fs := fn_sound env mixed Tryz.func358 H loops fun ⟨x0, x1, ()⟩ hw hp => (run x0 x1).trans (eq x0 x1 hw hp)
theorem known : Seen Tryz.prog 358 fs := ⟨sound, _, Tryz.func358, by kernel_rfl, by kernel_rfl⟩
end laws_szMarkS
namespace laws_szMaker
noncomputable def fs : FS := ⟨[(.val tyS115 .f), (.val (.int .i64) .f)], [((.int .i64), .o)], fun x => laws_szMaker.pre x.1 x.2.1, fun x => ((), ((laws_szMaker x.1 x.2.1), ()))⟩
noncomputable def E : Env := ⟨theta, [(358, laws_szMarkS.fs)], []⟩
noncomputable def H : List LC := []
noncomputable def code (i : Nat) : Code := (loopsOf (bodyOf Tryz.f315)).getD i .skip
theorem run (x0 : Maker) (x1 : Int) : runFn E H Tryz.f315 fs.ps fs.rs (x0, (x1, ())) = raw x0 x1 := by kernel_rfl
theorem env : EnvOk Tryz.prog E := env_cons laws_szMarkS.known (env_nil tys)
theorem loops : ∀ c, Tryz.f315.body = some c → LoopsOk E H c := loops_none (by kernel_rfl)
theorem sound : Sound Tryz.prog 315 fs := fn_sound env mixed Tryz.func315 H loops fun ⟨x0, x1, ()⟩ hw hp => (run x0 x1).trans (eq x0 x1 hw hp)
theorem known : Seen Tryz.prog 315 fs := ⟨sound, _, Tryz.func315, by kernel_rfl, by kernel_rfl⟩
end laws_szMaker
namespace laws_szMakerS
noncomputable def fs : FS := ⟨[(.val (.sl 329 tyS115) .f), (.val (.int .i64) .f)], [((.int .i64), .o)], fun x => laws_szMakerS.pre x.1 x.2.1, fun x => ((), ((laws_szMakerS x.1 x.2.1), ()))⟩
noncomputable def E : Env := ⟨theta, [(315, laws_szMaker.fs)], []⟩
noncomputable def sh5 : ShSt := ⟨[(.one (.dat (.sl 329 tyS115))), ui, uu, uu, uu, ui, uu, uu, uu, uu, uu, uu, uu, uu, uu, uu, uu, uu, uu, uu, uu, uu, uu, uu, uu, uu, uu], []⟩
noncomputable def outs5 : List OutC := [⟨.ret, ⟨0, [4], []⟩, ⟨[uu, uu, uu, uu, ui, uu, uu, uu, uu, uu, uu, uu, uu, uu, uu, uu, uu, uu, uu, uu, uu, uu, uu, uu, uu, uu, uu], []⟩⟩, ⟨(.exit 0), ⟨0, [1], []⟩, ⟨[uu, ui, uu, uu, uu, uu, uu, uu, uu, uu, uu, uu, uu, uu, uu, uu, uu, uu, uu, uu, uu, uu, uu, uu, uu, uu, uu], []⟩⟩]
noncomputable def L5 : LC := ⟨5, ⟨5, [0, 1, 5], []⟩, sh5, outs5, pre5, fn5⟩
noncomputable def H : List LC := [L5]
noncomputable def code (i : Nat) : Code := (loopsOf (bodyOf Tryz.f254)).getD i .skip
theorem step5 (x1 : (List Maker)) (x2 : Int) (x3 : Int) : L5.step E H (code 0) (x1, (x2, (x3, ()))) = raw5 x1 x2 x3 := by kernel_rfl
theorem lok5 : LoopOk E H (code 0) L5 := ⟨mu5, fun ⟨x1, x2, x3, ()⟩ hp => rounds_ok (step5 x1 x2 x3) (ok5 x1 x2 x3 hp)⟩
theorem run (x0 : (List Maker)) (x1 : Int) : runFn E H Tryz.f254 fs.ps fs.rs (x0, (x1, ())) = raw x0 x1 := by kernel_rfl
theorem env : EnvOk Tryz.prog E := env_cons laws_szMaker.known (env_nil tys)
theorem loops : ∀ c, Tryz.f254.body = some c → LoopsOk E H c := loops_of (by kernel_rfl) (by kernel_rfl) fun i l h => match i, h with
  | 0, h => Option.some.inj h ▸ lok5
  | n + 1, h => by cases h
theorem sound : Sound Tryz.prog 254 fs := fn_sound env mixed Tryz.func254 H loops fun ⟨x0, x1, ()⟩ hw hp => (run x0 x1).trans (eq x0 x1 hw hp)
theorem known : Seen Tryz.prog 254 fs := ⟨sound, _, Tryz.func254, by kernel_rfl, by kernel_rfl⟩
end laws_szMakerS
namespace laws_szIntS
noncomputable def fs : FS := ⟨[(.val (.sl 3 (.int .i64)) .f), (.val (.int .i64) .f)], [((.int .i64), .o)], fun x => laws_szIntS.pre x.1 x.2.1, fun x => ((), ((laws_szIntS x.1 x.2.1), ()))⟩
noncomputable def E : Env := ⟨theta, [], []⟩
noncomputable def H : List LC := []
noncomputable def code (i : Nat) : Code := (loopsOf (bodyOf Tryz.f159)).getD i .skip
theorem run (x0 : (List Int)) (x1 : Int) : runFn E H Tryz.f159 fs.ps fs.rs (x0, (x1, ())) = raw x0 x1 := by kernel_rfl
theorem env : EnvOk Tryz.prog E := env_nil tys
theorem loops : ∀ c, Tryz.f159.body = some c → LoopsOk E H c := loops_none (by kernel_rfl)
theorem sound : Sound Tryz.prog 159 fs := fn_sound env mixed Tryz.func159 H loops fun ⟨x0, x1, ()⟩ hw hp => (run x0 x1).trans (eq x0 x1 hw hp)
theorem known : Seen Tryz.prog 159 fs := ⟨sound, _, Tryz.func159, by kernel_rfl, by kernel_rfl⟩
end laws_szIntS
namespace laws_szGroup
noncomputable def fs : FS := ⟨[(.val tyS18 .f), (.val (.int .i64) .f)], [((.int .i64), .o)], fun x => laws_szGroup.pre x.1 x.2.1, fun x => ((), ((laws_szGroup x.1 x.2.1), ()))⟩
noncomputable def E : Env := ⟨theta, [(159, laws_szIntS.fs)], []⟩
noncomputable def H : List LC := []
noncomputable def code (i : Nat) : Code := (loopsOf (bodyOf Tryz.f316)).getD i .skip
theorem run (x0 : Group) (x1 : Int) : runFn E H Tryz.f316 fs.ps fs.rs (x0, (x1, ())) = raw x0 x1 := by kernel_rfl
theorem env : EnvOk Tryz.prog E := env_cons laws_szIntS.known (env_nil tys)
theorem loops : ∀ c, Tryz.f316.body = some c → LoopsOk E H c := loops_none (by kernel_rfl)
theorem sound : Sound Tryz.prog 316 fs := fn_sound env mixed Tryz.func316 H loops fun ⟨x0, x1, ()⟩ hw hp => (run x0 x1).trans (eq x0 x1 hw hp)
theorem known : Seen Tryz.prog 316 fs := ⟨sound, _, Tryz.func316, by kernel_rfl, by kernel_rfl⟩
end laws_szGroup
namespace laws_szGroupS
noncomputable def fs : FS := ⟨[(.val (.sl 331 tyS18) .f), (.val (.int .i64) .f)], [((.int .i64), .o)], fun x => laws_szGroupS.pre x.1 x.2.1, fun x => ((), ((laws_szGroupS x.1 x.2.1), ()))⟩
noncomputable def E : Env := ⟨theta, [(316, laws_szGroup.fs)], []⟩
noncomputable def sh5 : ShSt := ⟨[(.one (.dat (.sl 331 tyS18))), ui, uu, uu, uu, ui, uu, uu, uu, uu, uu, uu, uu, uu, uu, uu, uu, uu, uu, uu, uu, uu, uu, uu, uu, uu, uu], []⟩
noncomputable def outs5 : List OutC := [⟨.ret, ⟨0, [4], []⟩, ⟨[uu, uu, uu, uu, ui, uu, uu, uu, uu, uu, uu, uu, uu, uu, uu, uu, uu, uu, uu, uu, uu, uu, uu, uu, uu, uu, uu], []⟩⟩, ⟨(.exit 0), ⟨0, [1], []⟩, ⟨[uu, ui, uu, uu, uu, uu, uu, uu, uu, uu, uu, uu, uu, uu, uu, uu, uu, uu, uu, uu, uu, uu, uu, uu, uu, uu, uu], []⟩⟩]
noncomputable def L5 : LC := ⟨5, ⟨5, [0, 1, 5], []⟩, sh5, outs5, pre5, fn5⟩
noncomputable def H : List LC := [L5]
noncomputable def code (i : Nat) : Code := (loopsOf (bodyOf Tryz.f255)).getD i .skip
theorem step5 (x1 : (List Group)) (x2 : Int) (x3 : Int) : L5.step E H (code 0) (x1, (x2, (x3, ()))) = raw5 x1 x2 x3 := by kernel_rfl
theorem lok5 : LoopOk E H (code 0) L5 := ⟨mu5, fun ⟨x1, x2, x3, ()⟩ hp => rounds_ok (step5 x1 x2 x3) (ok5 x1 x2 x3 hp)⟩
theorem run (x0 : (List Group)) (x1 : Int) : runFn E H Tryz.f255 fs.ps fs.rs (x0, (x1, ())) = raw x0 x1 := by kernel_rfl
theorem env : EnvOk Tryz.prog E := env_cons laws_szGroup.known (env_nil tys)
theorem loops : ∀ c, Tryz.f255.body = some c → LoopsOk E H c := loops_of (by kernel_rfl) (by kernel_rfl) fun i l h => match i, h with
  | 0, h => Option.some.inj h ▸ lok5
  | n + 1, h => by cases h
theorem sound : Sound Tryz.prog 255 fs := fn_sound env mixed Tryz.func255 H loops fun ⟨x0, x1, ()⟩ hw hp => (run x0 x1).trans (eq x0 x1 hw hp)
theorem known : Seen Tryz.prog 255 fs := ⟨sound, _, Tryz.func255, by kernel_rfl, by kernel_rfl⟩
end laws_szGroupS
namespace laws_szAnswer
noncomputable def fs : FS := ⟨[(.val tyS19 .f), (.val (.int .i64) .f)], [((.int .i64), .o)], fun x => laws_szAnswer.pre x.1 x.2.1, fun x => ((), ((laws_szAnswer x.1 x.2.1), ()))⟩
noncomputable def E : Env := ⟨theta, [], []⟩
noncomputable def H : List LC := []
noncomputable def code (i : Nat) : Code := (loopsOf (bodyOf Tryz.f317)).getD i .skip
theorem run (x0 : Answer) (x1 : Int) : runFn E H Tryz.f317 fs.ps fs.rs (x0, (x1, ())) = raw x0 x1 := by kernel_rfl
theorem env : EnvOk Tryz.prog E := env_nil tys
theorem loops : ∀ c, Tryz.f317.body = some c → LoopsOk E H c := loops_none (by kernel_rfl)
theorem sound : Sound Tryz.prog 317 fs := fn_sound env mixed Tryz.func317 H loops fun ⟨x0, x1, ()⟩ hw hp => (run x0 x1).trans (eq x0 x1 hw hp)
theorem known : Seen Tryz.prog 317 fs := ⟨sound, _, Tryz.func317, by kernel_rfl, by kernel_rfl⟩
end laws_szAnswer
namespace laws_szAnswerS
noncomputable def fs : FS := ⟨[(.val (.sl 333 tyS19) .f), (.val (.int .i64) .f)], [((.int .i64), .o)], fun x => laws_szAnswerS.pre x.1 x.2.1, fun x => ((), ((laws_szAnswerS x.1 x.2.1), ()))⟩
noncomputable def E : Env := ⟨theta, [(317, laws_szAnswer.fs)], []⟩
noncomputable def sh5 : ShSt := ⟨[(.one (.dat (.sl 333 tyS19))), ui, uu, uu, uu, ui, uu, uu, uu, uu, uu, uu, uu, uu, uu, uu, uu, uu, uu, uu, uu, uu, uu, uu, uu, uu, uu], []⟩
noncomputable def outs5 : List OutC := [⟨.ret, ⟨0, [4], []⟩, ⟨[uu, uu, uu, uu, ui, uu, uu, uu, uu, uu, uu, uu, uu, uu, uu, uu, uu, uu, uu, uu, uu, uu, uu, uu, uu, uu, uu], []⟩⟩, ⟨(.exit 0), ⟨0, [1], []⟩, ⟨[uu, ui, uu, uu, uu, uu, uu, uu, uu, uu, uu, uu, uu, uu, uu, uu, uu, uu, uu, uu, uu, uu, uu, uu, uu, uu, uu], []⟩⟩]
noncomputable def L5 : LC := ⟨5, ⟨5, [0, 1, 5], []⟩, sh5, outs5, pre5, fn5⟩
noncomputable def H : List LC := [L5]
noncomputable def code (i : Nat) : Code := (loopsOf (bodyOf Tryz.f256)).getD i .skip
theorem step5 (x1 : (List Answer)) (x2 : Int) (x3 : Int) : L5.step E H (code 0) (x1, (x2, (x3, ()))) = raw5 x1 x2 x3 := by kernel_rfl
theorem lok5 : LoopOk E H (code 0) L5 := ⟨mu5, fun ⟨x1, x2, x3, ()⟩ hp => rounds_ok (step5 x1 x2 x3) (ok5 x1 x2 x3 hp)⟩
theorem run (x0 : (List Answer)) (x1 : Int) : runFn E H Tryz.f256 fs.ps fs.rs (x0, (x1, ())) = raw x0 x1 := by kernel_rfl
theorem env : EnvOk Tryz.prog E := env_cons laws_szAnswer.known (env_nil tys)
theorem loops : ∀ c, Tryz.f256.body = some c → LoopsOk E H c := loops_of (by kernel_rfl) (by kernel_rfl) fun i l h => match i, h with
  | 0, h => Option.some.inj h ▸ lok5
  | n + 1, h => by cases h
theorem sound : Sound Tryz.prog 256 fs := fn_sound env mixed Tryz.func256 H loops fun ⟨x0, x1, ()⟩ hw hp => (run x0 x1).trans (eq x0 x1 hw hp)
theorem known : Seen Tryz.prog 256 fs := ⟨sound, _, Tryz.func256, by kernel_rfl, by kernel_rfl⟩
end laws_szAnswerS
namespace laws_szKeep
noncomputable def fs : FS := ⟨[(.val tyS13 .f), (.val (.int .i64) .f)], [((.int .i64), .o)], fun x => laws_szKeep.pre x.1 x.2.1, fun x => ((), ((laws_szKeep x.1 x.2.1), ()))⟩
noncomputable def E : Env := ⟨theta, [(253, laws_szRowS.fs), (254, laws_szMakerS.fs), (159, laws_szIntS.fs), (255, laws_szGroupS.fs), (256, laws_szAnswerS.fs)], []⟩
noncomputable def H : List LC := []
noncomputable def code (i : Nat) : Code := (loopsOf (bodyOf Tryz.f160)).getD i .skip
theorem run (x0 : ((List Row) × ((List Maker) × ((List Group) × (Int × ((List Int) × ((List Answer) × Unit))))))) (x1 : Int) : runFn E H Tryz.f160 fs.ps fs.rs (x0, (x1, ())) = raw x0 x1 := by kernel_rfl
theorem env : EnvOk Tryz.prog E := env_cons laws_szRowS.known (env_cons laws_szMakerS.known (env_cons laws_szIntS.known (env_cons laws_szGroupS.known (env_cons laws_szAnswerS.known (env_nil tys)))))
theorem loops : ∀ c, Tryz.f160.body = some c → LoopsOk E H c := loops_none (by kernel_rfl)
theorem sound : Sound Tryz.prog 160 fs := fn_sound env mixed Tryz.func160 H loops fun ⟨x0, x1, ()⟩ hw hp => (run x0 x1).trans (eq x0 x1 hw hp)
theorem known : Seen Tryz.prog 160 fs := ⟨sound, _, Tryz.func160, by kernel_rfl, by kernel_rfl⟩
end laws_szKeep
namespace laws_szHard
noncomputable def fs : FS := ⟨[(.val (.pair (.int .i64) (.pair (.int .i64) (.pair (.pair (.int .i64) (.pair (.int .i64) (.pair (.sl 293 tyS12) .unit))) (.pair tyS13 .unit)))) .f), (.val (.int .i64) .f)], [((.int .i64), .o)], fun x => laws_szHard.pre x.1 x.2.1, fun x => ((), ((laws_szHard x.1 x.2.1), ()))⟩
noncomputable def E : Env := ⟨theta, [(252, laws_szLog.fs), (160, laws_szKeep.fs)], []⟩
noncomputable def H : List LC := []
noncomputable def code (i : Nat) : Code := (loopsOf (bodyOf Tryz.f157)).getD i .skip
theorem run (x0 : (Int × (Int × (Log × (((List Row) × ((List Maker) × ((List Group) × (Int × ((List Int) × ((List Answer) × Unit)))))) × Unit))))) (x1 : Int) : runFn E H Tryz.f157 fs.ps fs.rs (x0, (x1, ())) = raw x0 x1 := by kernel_rfl
theorem env : EnvOk Tryz.prog E := env_cons laws_szLog.known (env_cons laws_szKeep.known (env_nil tys))
theorem loops : ∀ c, Tryz.f157.body = some c → LoopsOk E H c := loops_none (by kernel_rfl)
theorem sound : Sound Tryz.prog 157 fs := fn_sound env mixed Tryz.func157 H loops fun ⟨x0, x1, ()⟩ hw hp => (run x0 x1).trans (eq x0 x1 hw hp)
theorem known : Seen Tryz.prog 157 fs := ⟨sound, _, Tryz.func157, by kernel_rfl, by kernel_rfl⟩
end laws_szHard
namespace laws_szBoolS
noncomputable def fs : FS := ⟨[(.val (.sl 4 .bool) .f), (.val (.int .i64) .f)], [((.int .i64), .o)], fun x => laws_szBoolS.pre x.1 x.2.1, fun x => ((), ((laws_szBoolS x.1 x.2.1), ()))⟩
noncomputable def E : Env := ⟨theta, [], []⟩
noncomputable def H : List LC := []
noncomputable def code (i : Nat) : Code := (loopsOf (bodyOf Tryz.f158)).getD i .skip
theorem run (x0 : (List Bool)) (x1 : Int) : runFn E H Tryz.f158 fs.ps fs.rs (x0, (x1, ())) = raw x0 x1 := by kernel_rfl
theorem env : EnvOk Tryz.prog E := env_nil tys
theorem loops : ∀ c, Tryz.f158.body = some c → LoopsOk E H c := loops_none (by kernel_rfl)
theorem sound : Sound Tryz.prog 158 fs := fn_sound env mixed Tryz.func158 H loops fun ⟨x0, x1, ()⟩ hw hp => (run x0 x1).trans (eq x0 x1 hw hp)
theorem known : Seen Tryz.prog 158 fs := ⟨sound, _, Tryz.func158, by kernel_rfl, by kernel_rfl⟩
end laws_szBoolS
namespace laws_szByteS
noncomputable def fs : FS := ⟨[(.val (.sl 5 (.int .u8)) .f), (.val (.int .i64) .f)], [((.int .i64), .o)], fun x => laws_szByteS.pre x.1 x.2.1, fun x => ((), ((laws_szByteS x.1 x.2.1), ()))⟩
noncomputable def E : Env := ⟨theta, [], []⟩
noncomputable def H : List LC := []
noncomputable def code (i : Nat) : Code := (loopsOf (bodyOf Tryz.f257)).getD i .skip
theorem run (x0 : (List Int)) (x1 : Int) : runFn E H Tryz.f257 fs.ps fs.rs (x0, (x1, ())) = raw x0 x1 := by kernel_rfl
theorem env : EnvOk Tryz.prog E := env_nil tys
theorem loops : ∀ c, Tryz.f257.body = some c → LoopsOk E H c := loops_none (by kernel_rfl)
theorem sound : Sound Tryz.prog 257 fs := fn_sound env mixed Tryz.func257 H loops fun ⟨x0, x1, ()⟩ hw hp => (run x0 x1).trans (eq x0 x1 hw hp)
theorem known : Seen Tryz.prog 257 fs := ⟨sound, _, Tryz.func257, by kernel_rfl, by kernel_rfl⟩
end laws_szByteS
namespace laws_szDisk
noncomputable def fs : FS := ⟨[(.val (.pair (.sl 5 (.int .u8)) (.pair (.int .i64) .unit)) .f), (.val (.int .i64) .f)], [((.int .i64), .o)], fun x => laws_szDisk.pre x.1 x.2.1, fun x => ((), ((laws_szDisk x.1 x.2.1), ()))⟩
noncomputable def E : Env := ⟨theta, [(257, laws_szByteS.fs)], []⟩
noncomputable def H : List LC := []
noncomputable def code (i : Nat) : Code := (loopsOf (bodyOf Tryz.f161)).getD i .skip
theorem run (x0 : Disk) (x1 : Int) : runFn E H Tryz.f161 fs.ps fs.rs (x0, (x1, ())) = raw x0 x1 := by kernel_rfl
theorem env : EnvOk Tryz.prog E := env_cons laws_szByteS.known (env_nil tys)
theorem loops : ∀ c, Tryz.f161.body = some c → LoopsOk E H c := loops_none (by kernel_rfl)
theorem sound : Sound Tryz.prog 161 fs := fn_sound env mixed Tryz.func161 H loops fun ⟨x0, x1, ()⟩ hw hp => (run x0 x1).trans (eq x0 x1 hw hp)
theorem known : Seen Tryz.prog 161 fs := ⟨sound, _, Tryz.func161, by kernel_rfl, by kernel_rfl⟩
end laws_szDisk
namespace laws_szRpc
noncomputable def fs : FS := ⟨[(.val tyS110 .f), (.val (.int .i64) .f)], [((.int .i64), .o)], fun x => laws_szRpc.pre x.1 x.2.1, fun x => ((), ((laws_szRpc x.1 x.2.1), ()))⟩
noncomputable def E : Env := ⟨theta, [(163, laws_szEntryS.fs)], []⟩
noncomputable def H : List LC := []
noncomputable def code (i : Nat) : Code := (loopsOf (bodyOf Tryz.f50)).getD i .skip
theorem run (x0 : (Int × (Int × (Int × (Int × (Int × (Int × (Int × ((List Entry) × (Bool × ((List UInt8) × Unit))))))))))) (x1 : Int) : runFn E H Tryz.f50 fs.ps fs.rs (x0, (x1, ())) = raw x0 x1 := by kernel_rfl
theorem env : EnvOk Tryz.prog E := env_cons laws_szEntryS.known (env_nil tys)
theorem loops : ∀ c, Tryz.f50.body = some c → LoopsOk E H c := loops_none (by kernel_rfl)
theorem sound : Sound Tryz.prog 50 fs := fn_sound env mixed Tryz.func50 H loops fun ⟨x0, x1, ()⟩ hw hp => (run x0 x1).trans (eq x0 x1 hw hp)
theorem known : Seen Tryz.prog 50 fs := ⟨sound, _, Tryz.func50, by kernel_rfl, by kernel_rfl⟩
end laws_szRpc
namespace laws_szRpcS
noncomputable def fs : FS := ⟨[(.val (.sl 107 tyS110) .f), (.val (.int .i64) .f)], [((.int .i64), .o)], fun x => laws_szRpcS.pre x.1 x.2.1, fun x => ((), ((laws_szRpcS x.1 x.2.1), ()))⟩
noncomputable def E : Env := ⟨theta, [(50, laws_szRpc.fs)], []⟩
noncomputable def sh5 : ShSt := ⟨[(.one (.dat (.sl 107 tyS110))), ui, uu, uu, uu, ui, uu, uu, uu, uu, uu, uu, uu, uu, uu, uu, uu, uu, uu, uu, uu, uu, uu, uu, uu, uu, uu], []⟩
noncomputable def outs5 : List OutC := [⟨.ret, ⟨0, [4], []⟩, ⟨[uu, uu, uu, uu, ui, uu, uu, uu, uu, uu, uu, uu, uu, uu, uu, uu, uu, uu, uu, uu, uu, uu, uu, uu, uu, uu, uu], []⟩⟩, ⟨(.exit 0), ⟨0, [1], []⟩, ⟨[uu, ui, uu, uu, uu, uu, uu, uu, uu, uu, uu, uu, uu, uu, uu, uu, uu, uu, uu, uu, uu, uu, uu, uu, uu, uu, uu], []⟩⟩]
noncomputable def L5 : LC := ⟨5, ⟨5, [0, 1, 5], []⟩, sh5, outs5, pre5, fn5⟩
noncomputable def H : List LC := [L5]
noncomputable def code (i : Nat) : Code := (loopsOf (bodyOf Tryz.f162)).getD i .skip
theorem step5 (x1 : (List (Int × (Int × (Int × (Int × (Int × (Int × (Int × ((List Entry) × (Bool × ((List UInt8) × Unit)))))))))))) (x2 : Int) (x3 : Int) : L5.step E H (code 0) (x1, (x2, (x3, ()))) = raw5 x1 x2 x3 := by kernel_rfl
theorem lok5 : LoopOk E H (code 0) L5 := ⟨mu5, fun ⟨x1, x2, x3, ()⟩ hp => rounds_ok (step5 x1 x2 x3) (ok5 x1 x2 x3 hp)⟩
theorem run (x0 : (List (Int × (Int × (Int × (Int × (Int × (Int × (Int × ((List Entry) × (Bool × ((List UInt8) × Unit)))))))))))) (x1 : Int) : runFn E H Tryz.f162 fs.ps fs.rs (x0, (x1, ())) = raw x0 x1 := by kernel_rfl
theorem env : EnvOk Tryz.prog E := env_cons laws_szRpc.known (env_nil tys)
theorem loops : ∀ c, Tryz.f162.body = some c → LoopsOk E H c := loops_of (by kernel_rfl) (by kernel_rfl) fun i l h => match i, h with
  | 0, h => Option.some.inj h ▸ lok5
  | n + 1, h => by cases h
theorem sound : Sound Tryz.prog 162 fs := fn_sound env mixed Tryz.func162 H loops fun ⟨x0, x1, ()⟩ hw hp => (run x0 x1).trans (eq x0 x1 hw hp)
theorem known : Seen Tryz.prog 162 fs := ⟨sound, _, Tryz.func162, by kernel_rfl, by kernel_rfl⟩
end laws_szRpcS
namespace laws_szPeer
noncomputable def fs : FS := ⟨[(.val tyS112 .f), (.val (.int .i64) .f)], [((.int .i64), .o)], fun x => laws_szPeer.pre x.1 x.2.1, fun x => ((), ((laws_szPeer x.1 x.2.1), ()))⟩
noncomputable def E : Env := ⟨theta, [(159, laws_szIntS.fs), (160, laws_szKeep.fs), (157, laws_szHard.fs), (158, laws_szBoolS.fs), (161, laws_szDisk.fs), (162, laws_szRpcS.fs)], []⟩
noncomputable def H : List LC := []
noncomputable def code (i : Nat) : Code := (loopsOf (bodyOf Tryz.f49)).getD i .skip
theorem run (x0 : (Int × ((Int × (Int × (Log × (((List Row) × ((List Maker) × ((List Group) × (Int × ((List Int) × ((List Answer) × Unit)))))) × Unit)))) × (Int × ((List Bool) × ((List Int) × ((List Int) × (Int × (((List Row) × ((List Maker) × ((List Group) × (Int × ((List Int) × ((List Answer) × Unit)))))) × (Disk × ((List (Int × (Int × (Int × (Int × (Int × (Int × (Int × ((List Entry) × (Bool × ((List UInt8) × Unit))))))))))) × Unit))))))))))) (x1 : Int) : runFn E H Tryz.f49 fs.ps fs.rs (x0, (x1, ())) = raw x0 x1 := by kernel_rfl
theorem env : EnvOk Tryz.prog E := env_cons laws_szIntS.known (env_cons laws_szKeep.known (env_cons laws_szHard.known (env_cons laws_szBoolS.known (env_cons laws_szDisk.known (env_cons laws_szRpcS.known (env_nil tys))))))
theorem loops : ∀ c, Tryz.f49.body = some c → LoopsOk E H c := loops_none (by kernel_rfl)
theorem sound : Sound Tryz.prog 49 fs := fn_sound env mixed Tryz.func49 H loops fun ⟨x0, x1, ()⟩ hw hp => (run x0 x1).trans (eq x0 x1 hw hp)
theorem known : Seen Tryz.prog 49 fs := ⟨sound, _, Tryz.func49, by kernel_rfl, by kernel_rfl⟩
end laws_szPeer
namespace spec_l8Copy
noncomputable def fs : FS := ⟨[(.val tyS114 .f)], [(tyS114, .o)], fun x => spec_l8Copy.pre x.1, fun x => ((), ((spec_l8Copy x.1), ()))⟩
noncomputable def E : Env := ⟨theta, [], []⟩
noncomputable def H : List LC := []
noncomputable def code (i : Nat) : Code := (loopsOf (bodyOf Tryz.f292)).getD i .skip
theorem run (x0 : Log) : runFn E H Tryz.f292 fs.ps fs.rs (x0, ()) = raw x0 := by kernel_rfl
theorem env : EnvOk Tryz.prog E := env_nil tys
theorem loops : ∀ c, Tryz.f292.body = some c → LoopsOk E H c := loops_none (by kernel_rfl)
theorem sound : Sound Tryz.prog 292 fs := fn_sound env mixed Tryz.func292 H loops fun ⟨x0, ()⟩ hw hp => (run x0).trans (eq x0 hw hp)
theorem known : Seen Tryz.prog 292 fs := ⟨sound, _, Tryz.func292, by kernel_rfl, by kernel_rfl⟩
end spec_l8Copy
namespace spec_l3Copy
noncomputable def fs : FS := ⟨[(.val tyS111 .f)], [(tyS111, .o)], fun x => spec_l3Copy.pre x.1, fun x => ((), ((spec_l3Copy x.1), ()))⟩
noncomputable def E : Env := ⟨theta, [], []⟩
noncomputable def H : List LC := []
noncomputable def code (i : Nat) : Code := (loopsOf (bodyOf Tryz.f298)).getD i .skip
theorem run (x0 : Row) : runFn E H Tryz.f298 fs.ps fs.rs (x0, ()) = raw x0 := by kernel_rfl
theorem env : EnvOk Tryz.prog E := env_nil tys
theorem loops : ∀ c, Tryz.f298.body = some c → LoopsOk E H c := loops_none (by kernel_rfl)
theorem sound : Sound Tryz.prog 298 fs := fn_sound env mixed Tryz.func298 H loops fun ⟨x0, ()⟩ hw hp => (run x0).trans (eq x0 hw hp)
theorem known : Seen Tryz.prog 298 fs := ⟨sound, _, Tryz.func298, by kernel_rfl, by kernel_rfl⟩
end spec_l3Copy
namespace spec_l4Copy
noncomputable def fs : FS := ⟨[(.val tyS15 .f)], [(tyS15, .o)], fun x => spec_l4Copy.pre x.1, fun x => ((), ((spec_l4Copy x.1), ()))⟩
noncomputable def E : Env := ⟨theta, [], []⟩
noncomputable def H : List LC := []
noncomputable def code (i : Nat) : Code := (loopsOf (bodyOf Tryz.f299)).getD i .skip
theorem run (x0 : Maker) : runFn E H Tryz.f299 fs.ps fs.rs (x0, ()) = raw x0 := by kernel_rfl
theorem env : EnvOk Tryz.prog E := env_nil tys
theorem loops : ∀ c, Tryz.f299.body = some c → LoopsOk E H c := loops_none (by kernel_rfl)
theorem sound : Sound Tryz.prog 299 fs := fn_sound env mixed Tryz.func299 H loops fun ⟨x0, ()⟩ hw hp => (run x0).trans (eq x0 hw hp)
theorem known : Seen Tryz.prog 299 fs := ⟨sound, _, Tryz.func299, by kernel_rfl, by kernel_rfl⟩
end spec_l4Copy
namespace spec_l5Copy
noncomputable def fs : FS := ⟨[(.val tyS18 .f)], [(tyS18, .o)], fun x => spec_l5Copy.pre x.1, fun x => ((), ((spec_l5Copy x.1), ()))⟩
noncomputable def E : Env := ⟨theta, [], []⟩
noncomputable def H : List LC := []
noncomputable def code (i : Nat) : Code := (loopsOf (bodyOf Tryz.f300)).getD i .skip
theorem run (x0 : Group) : runFn E H Tryz.f300 fs.ps fs.rs (x0, ()) = raw x0 := by kernel_rfl
theorem env : EnvOk Tryz.prog E := env_nil tys
theorem loops : ∀ c, Tryz.f300.body = some c → LoopsOk E H c := loops_none (by kernel_rfl)
theorem sound : Sound Tryz.prog 300 fs := fn_sound env mixed Tryz.func300 H loops fun ⟨x0, ()⟩ hw hp => (run x0).trans (eq x0 hw hp)
theorem known : Seen Tryz.prog 300 fs := ⟨sound, _, Tryz.func300, by kernel_rfl, by kernel_rfl⟩
end spec_l5Copy
namespace spec_l6Copy
noncomputable def fs : FS := ⟨[(.val tyS11 .f)], [(tyS11, .o)], fun x => spec_l6Copy.pre x.1, fun x => ((), ((spec_l6Copy x.1), ()))⟩
noncomputable def E : Env := ⟨theta, [(298, spec_l3Copy.fs), (299, spec_l4Copy.fs), (300, spec_l5Copy.fs)], []⟩
noncomputable def sh3 : ShSt := ⟨[uu, (.one (.bptr 0 [] tyS11)), (.one (.bptr 32 [] tyS11)), (.one (.bptr 8544 [] tyS11)), ui, uu, uu, uu, uu, uu, uu, uu, uu, uu, uu, uu, uu, uu, uu, uu, uu, uu, uu, uu, uu, uu, uu, uu, uu, uu, uu, uu, uu, uu, uu, uu, uu, uu, uu, uu, uu, uu, uu, uu, uu, uu, uu, uu, uu, uu, uu, uu, uu, uu, uu, uu, uu, uu, uu, uu, uu, uu, uu, uu, uu, uu, uu, uu, uu, uu, uu, uu, uu], [(0, (.box tyS11 (.dat tyS11))), (32, (.box tyS11 (.pair (.arr 20000000) (.pair (.arr 20000001) (.pair (.arr 20000002) (.pair (.dat (.int .i64)) (.pair (.arr 20000003) (.pair (.arr 20000004) (.dat .unit))))))))), (20000000, (.arr 42 tyS111)), (20000001, (.arr 156 tyS15)), (20000002, (.arr 159 tyS18)), (20000003, (.arr 3 (.int .i64))), (20000004, (.arr 48 tyS19)), (8544, (.box tyS11 (.pair (.arr 20000005) (.pair (.arr 20000006) (.pair (.arr 20000007) (.pair (.dat (.int .i64)) (.pair (.arr 20000008) (.pair (.arr 20000009) (.dat .unit))))))))), (20000005, (.arr 42 tyS111)), (20000006, (.arr 156 tyS15)), (20000007, (.arr 159 tyS18)), (20000008, (.arr 3 (.int .i64))), (20000009, (.arr 48 tyS19))]⟩
noncomputable def outs3 : List OutC := [⟨(.exit 0), ⟨0, [1, 2, 3], []⟩, ⟨[uu, (.one (.bptr 0 [] tyS11)), (.one (.bptr 32 [] tyS11)), (.one (.bptr 8544 [] tyS11)), uu, uu, uu, uu, uu, uu, uu, uu, uu, uu, uu, uu, uu, uu, uu, uu, uu, uu, uu, uu, uu, uu, uu, uu, uu, uu, uu, uu, uu, uu, uu, uu, uu, uu, uu, uu, uu, uu, uu, uu, uu, uu, uu, uu, uu, uu, uu, uu, uu, uu, uu, uu, uu, uu, uu, uu, uu, uu, uu, uu, uu, uu, uu, uu, uu, uu, uu, uu, uu], [(0, (.box tyS11 (.dat tyS11))), (32, (.box tyS11 (.pair (.arr 20000000) (.pair (.arr 20000001) (.pair (.arr 20000002) (.pair (.dat (.int .i64)) (.pair (.arr 20000003) (.pair (.arr 20000004) (.dat .unit))))))))), (20000000, (.arr 42 tyS111)), (20000001, (.arr 156 tyS15)), (20000002, (.arr 159 tyS18)), (20000003, (.arr 3 (.int .i64))), (20000004, (.arr 48 tyS19)), (8544, (.box tyS11 (.pair (.arr 20000005) (.pair (.arr 20000006) (.pair (.arr 20000007) (.pair (.dat (.int .i64)) (.pair (.arr 20000008) (.pair (.arr 20000009) (.dat .unit))))))))), (20000005, (.arr 42 tyS111)), (20000006, (.arr 156 tyS15)), (20000007, (.arr 159 tyS18)), (20000008, (.arr 3 (.int .i64))), (20000009, (.arr 48 tyS19))]⟩⟩]
noncomputable def L3 : LC := ⟨3, ⟨3, [1, 2, 3, 4], []⟩, sh3, outs3, pre3, fn3⟩
noncomputable def sh7 : ShSt := ⟨[uu, (.one (.bptr 0 [] tyS11)), (.one (.bptr 32 [] tyS11)), (.one (.bptr 8544 [] tyS11)), uu, ui, uu, uu, uu, uu, uu, uu, uu, uu, uu, uu, uu, uu, uu, uu, uu, uu, uu, uu, uu, uu, uu, uu, uu, uu, uu, uu, uu, uu, uu, uu, uu, uu, uu, uu, uu, uu, uu, uu, uu, uu, uu, uu, uu, uu, uu, uu, uu, uu, uu, uu, uu, uu, uu, uu, uu, uu, uu, uu, uu, uu, uu, uu, uu, uu, uu, uu, uu], [(0, (.box tyS11 (.dat tyS11))), (32, (.box tyS11 (.pair (.arr 20000000) (.pair (.arr 20000001) (.pair (.arr 20000002) (.pair (.dat (.int .i64)) (.pair (.arr 20000003) (.pair (.arr 20000004) (.dat .unit))))))))), (20000000, (.arr 42 tyS111)), (20000001, (.arr 156 tyS15)), (20000002, (.arr 159 tyS18)), (20000003, (.arr 3 (.int .i64))), (20000004, (.arr 48 tyS19)), (8544, (.box tyS11 (.pair (.arr 20000005) (.pair (.arr 20000006) (.pair (.arr 20000007) (.pair (.dat (.int .i64)) (.pair (.arr 20000008) (.pair (.arr 20000009) (.dat .unit))))))))), (20000005, (.arr 42 tyS111)), (20000006, (.arr 156 tyS15)), (20000007, (.arr 159 tyS18)), (20000008, (.arr 3 (.int .i64))), (20000009, (.arr 48 tyS19))]⟩
noncomputable def outs7 : List OutC := [⟨(.exit 2), ⟨0, [1, 2, 3], []⟩, ⟨[uu, (.one (.bptr 0 [] tyS11)), (.one (.bptr 32 [] tyS11)), (.one (.bptr 8544 [] tyS11)), uu, uu, uu, uu, uu, uu, uu, uu, uu, uu, uu, uu, uu, uu, uu, uu, uu, uu, uu, uu, uu, uu, uu, uu, uu, uu, uu, uu, uu, uu, uu, uu, uu, uu, uu, uu, uu, uu, uu, uu, uu, uu, uu, uu, uu, uu, uu, uu, uu, uu, uu, uu, uu, uu, uu, uu, uu, uu, uu, uu, uu, uu, uu, uu, uu, uu, uu, uu, uu], [(0, (.box tyS11 (.dat tyS11))), (32, (.box tyS11 (.pair (.arr 20000000) (.pair (.arr 20000001) (.pair (.arr 20000002) (.pair (.dat (.int .i64)) (.pair (.arr 20000003) (.pair (.arr 20000004) (.dat .unit))))))))), (20000000, (.arr 42 tyS111)), (20000001, (.arr 156 tyS15)), (20000002, (.arr 159 tyS18)), (20000003, (.arr 3 (.int .i64))), (20000004, (.arr 48 tyS19)), (8544, (.box tyS11 (.pair (.arr 20000005) (.pair (.arr 20000006) (.pair (.arr 20000007) (.pair (.dat (.int .i64)) (.pair (.arr 20000008) (.pair (.arr 20000009) (.dat .unit))))))))), (20000005, (.arr 42 tyS111)), (20000006, (.arr 156 tyS15)), (20000007, (.arr 159 tyS18)), (20000008, (.arr 3 (.int .i64))), (20000009, (.arr 48 tyS19))]⟩⟩]
noncomputable def L7 : LC := ⟨7, ⟨7, [1, 2, 3, 5], []⟩, sh7, outs7, pre7, fn7⟩
noncomputable def sh11 : ShSt := ⟨[uu, (.one (.bptr 0 [] tyS11)), (.one (.bptr 32 [] tyS11)), (.one (.bptr 8544 [] tyS11)), uu, uu, ui, uu, uu, uu, uu, uu, uu, uu, uu, uu, uu, uu, uu, uu, uu, uu, uu, uu, uu, uu, uu, uu, uu, uu, uu, uu, uu, uu, uu, uu, uu, uu, uu, uu, uu, uu, uu, uu, uu, uu, uu, uu, uu, uu, uu, uu, uu, uu, uu, uu, uu, uu, uu, uu, uu, uu, uu, uu, uu, uu, uu, uu, uu, uu, uu, uu, uu], [(0, (.box tyS11 (.dat tyS11))), (32, (.box tyS11 (.pair (.arr 20000000) (.pair (.arr 20000001) (.pair (.arr 20000002) (.pair (.dat (.int .i64)) (.pair (.arr 20000003) (.pair (.arr 20000004) (.dat .unit))))))))), (20000000, (.arr 42 tyS111)), (20000001, (.arr 156 tyS15)), (20000002, (.arr 159 tyS18)), (20000003, (.arr 3 (.int .i64))), (20000004, (.arr 48 tyS19)), (8544, (.box tyS11 (.pair (.arr 20000005) (.pair (.arr 20000006) (.pair (.arr 20000007) (.pair (.dat (.int .i64)) (.pair (.arr 20000008) (.pair (.arr 20000009) (.dat .unit))))))))), (20000005, (.arr 42 tyS111)), (20000006, (.arr 156 tyS15)), (20000007, (.arr 159 tyS18)), (20000008, (.arr 3 (.int .i64))), (20000009, (.arr 48 tyS19))]⟩
noncomputable def outs11 : List OutC := [⟨(.exit 4), ⟨0, [2, 3], []⟩, ⟨[uu, uu, (.one (.bptr 32 [] tyS11)), (.one (.bptr 8544 [] tyS11)), uu, uu, uu, uu, uu, uu, uu, uu, uu, uu, uu, uu, uu, uu, uu, uu, uu, uu, uu, uu, uu, uu, uu, uu, uu, uu, uu, uu, uu, uu, uu, uu, uu, uu, uu, uu, uu, uu, uu, uu, uu, uu, uu, uu, uu, uu, uu, uu, uu, uu, uu, uu, uu, uu, uu, uu, uu, uu, uu, uu, uu, uu, uu, uu, uu, uu, uu, uu, uu], [(32, (.box tyS11 (.pair (.arr 20000000) (.pair (.arr 20000001) (.pair (.arr 20000002) (.pair (.dat (.int .i64)) (.pair (.arr 20000003) (.pair (.arr 20000004) (.dat .unit))))))))), (20000000, (.arr 42 tyS111)), (20000001, (.arr 156 tyS15)), (20000002, (.arr 159 tyS18)), (20000003, (.arr 3 (.int .i64))), (20000004, (.arr 48 tyS19)), (8544, (.box tyS11 (.pair (.arr 20000005) (.pair (.arr 20000006) (.pair (.arr 20000007) (.pair (.dat (.int .i64)) (.pair (.arr 20000008) (.pair (.arr 20000009) (.dat .unit))))))))), (20000005, (.arr 42 tyS111)), (20000006, (.arr 156 tyS15)), (20000007, (.arr 159 tyS18)), (20000008, (.arr 3 (.int .i64))), (20000009, (.arr 48 tyS19))]⟩⟩]
noncomputable def L11 : LC := ⟨11, ⟨11, [1, 2, 3, 6], []⟩, sh11, outs11, pre11, fn11⟩
noncomputable def H : List LC := [L3, L7, L11]
noncomputable def code (i : Nat) : Code := (loopsOf (bodyOf Tryz.f213)).getD i .skip
theorem step3 (x1 : Int) (x2 : ((List Row) × ((List Maker) × ((List Group) × (Int × ((List Int) × ((List Answer) × Unit))))))) (x3 : Int) (x4 : Unit) (x5 : (List Row)) (x6 : (List Maker)) (x7 : (List Group)) (x8 : (List Int)) (x9 : (List Answer)) (x10 : Int) (x11 : Unit) (x12 : (List Row)) (x13 : (List Maker)) (x14 : (List Group)) (x15 : (List Int)) (x16 : (List Answer)) : L3.step E H (code 0) (x1, (x2, (x3, (x4, (x5, (x6, (x7, (x8, (x9, (x10, (x11, (x12, (x13, (x14, (x15, (x16, ())))))))))))))))) = raw3 x1 x2 x3 x4 x5 x6 x7 x8 x9 x10 x11 x12 x13 x14 x15 x16 := by kernel_rfl
theorem lok3 : LoopOk E H (code 0) L3 := ⟨mu3, fun ⟨x1, x2, x3, x4, x5, x6, x7, x8, x9, x10, x11, x12, x13, x14, x15, x16, ()⟩ hp => rounds_ok (step3 x1 x2 x3 x4 x5 x6 x7 x8 x9 x10 x11 x12 x13 x14 x15 x16) (ok3 x1 x2 x3 x4 x5 x6 x7 x8 x9 x10 x11 x12 x13 x14 x15 x16 hp)⟩
theorem step7 (x1 : Int) (x2 : ((List Row) × ((List Maker) × ((List Group) × (Int × ((List Int) × ((List Answer) × Unit))))))) (x3 : Int) (x4 : Unit) (x5 : (List Row)) (x6 : (List Maker)) (x7 : (List Group)) (x8 : (List Int)) (x9 : (List Answer)) (x10 : Int) (x11 : Unit) (x12 : (List Row)) (x13 : (List Maker)) (x14 : (List Group)) (x15 : (List Int)) (x16 : (List Answer)) : L7.step E H (code 1) (x1, (x2, (x3, (x4, (x5, (x6, (x7, (x8, (x9, (x10, (x11, (x12, (x13, (x14, (x15, (x16, ())))))))))))))))) = raw7 x1 x2 x3 x4 x5 x6 x7 x8 x9 x10 x11 x12 x13 x14 x15 x16 := by kernel_rfl
theorem lok7 : LoopOk E H (code 1) L7 := ⟨mu7, fun ⟨x1, x2, x3, x4, x5, x6, x7, x8, x9, x10, x11, x12, x13, x14, x15, x16, ()⟩ hp => rounds_ok (step7 x1 x2 x3 x4 x5 x6 x7 x8 x9 x10 x11 x12 x13 x14 x15 x16) (ok7 x1 x2 x3 x4 x5 x6 x7 x8 x9 x10 x11 x12 x13 x14 x15 x16 hp)⟩
theorem step11 (x1 : Int) (x2 : ((List Row) × ((List Maker) × ((List Group) × (Int × ((List Int) × ((List Answer) × Unit))))))) (x3 : Int) (x4 : Unit) (x5 : (List Row)) (x6 : (List Maker)) (x7 : (List Group)) (x8 : (List Int)) (x9 : (List Answer)) (x10 : Int) (x11 : Unit) (x12 : (List Row)) (x13 : (List Maker)) (x14 : (List Group)) (x15 : (List Int)) (x16 : (List Answer)) : L11.step E H (code 2) (x1, (x2, (x3, (x4, (x5, (x6, (x7, (x8, (x9, (x10, (x11, (x12, (x13, (x14, (x15, (x16, ())))))))))))))))) = raw11 x1 x2 x3 x4 x5 x6 x7 x8 x9 x10 x11 x12 x13 x14 x15 x16 := by kernel_rfl
theorem lok11 : LoopOk E H (code 2) L11 := ⟨mu11, fun ⟨x1, x2, x3, x4, x5, x6, x7, x8, x9, x10, x11, x12, x13, x14, x15, x16, ()⟩ hp => rounds_ok (step11 x1 x2 x3 x4 x5 x6 x7 x8 x9 x10 x11 x12 x13 x14 x15 x16) (ok11 x1 x2 x3 x4 x5 x6 x7 x8 x9 x10 x11 x12 x13 x14 x15 x16 hp)⟩
theorem run (x0 : ((List Row) × ((List Maker) × ((List Group) × (Int × ((List Int) × ((List Answer) × Unit))))))) : runFn E H Tryz.f213 fs.ps fs.rs (x0, ()) = raw x0 := by kernel_rfl
theorem env : EnvOk Tryz.prog E := env_cons spec_l3Copy.known (env_cons spec_l4Copy.known (env_cons spec_l5Copy.known (env_nil tys)))
theorem loops : ∀ c, Tryz.f213.body = some c → LoopsOk E H c := loops_of (by kernel_rfl) (by kernel_rfl) fun i l h => match i, h with
  | 0, h => Option.some.inj h ▸ lok3
  | 1, h => Option.some.inj h ▸ lok7
  | 2, h => Option.some.inj h ▸ lok11
  | n + 3, h => by cases h
theorem sound : Sound Tryz.prog 213 fs := fn_sound env mixed Tryz.func213 H loops fun ⟨x0, ()⟩ hw hp => (run x0).trans (eq x0 hw hp)
theorem known : Seen Tryz.prog 213 fs := ⟨sound, _, Tryz.func213, by kernel_rfl, by kernel_rfl⟩
end spec_l6Copy
namespace spec_l11Copy
noncomputable def fs : FS := ⟨[(.val (.pair (.int .i64) (.pair (.int .i64) (.pair tyS114 (.pair tyS11 .unit)))) .f)], [((.pair (.int .i64) (.pair (.int .i64) (.pair tyS114 (.pair tyS11 .unit)))), .o)], fun x => spec_l11Copy.pre x.1, fun x => ((), ((spec_l11Copy x.1), ()))⟩
noncomputable def E : Env := ⟨theta, [(292, spec_l8Copy.fs), (213, spec_l6Copy.fs)], []⟩
noncomputable def H : List LC := []
noncomputable def code (i : Nat) : Code := (loopsOf (bodyOf Tryz.f209)).getD i .skip
theorem run (x0 : (Int × (Int × (Log × (((List Row) × ((List Maker) × ((List Group) × (Int × ((List Int) × ((List Answer) × Unit)))))) × Unit))))) : runFn E H Tryz.f209 fs.ps fs.rs (x0, ()) = raw x0 := by kernel_rfl
theorem env : EnvOk Tryz.prog E := env_cons spec_l8Copy.known (env_cons spec_l6Copy.known (env_nil tys))
theorem loops : ∀ c, Tryz.f209.body = some c → LoopsOk E H c := loops_none (by kernel_rfl)
theorem sound : Sound Tryz.prog 209 fs := fn_sound env mixed Tryz.func209 H loops fun ⟨x0, ()⟩ hw hp => (run x0).trans (eq x0 hw hp)
theorem known : Seen Tryz.prog 209 fs := ⟨sound, _, Tryz.func209, by kernel_rfl, by kernel_rfl⟩
end spec_l11Copy
namespace spec_l10Copy
noncomputable def fs : FS := ⟨[(.val (.pair (.sl 5 (.int .u8)) (.pair (.int .i64) .unit)) .f)], [((.pair (.sl 5 (.int .u8)) (.pair (.int .i64) .unit)), .o)], fun x => spec_l10Copy.pre x.1, fun x => ((), ((spec_l10Copy x.1), ()))⟩
noncomputable def E : Env := ⟨theta, [], []⟩
noncomputable def H : List LC := []
noncomputable def code (i : Nat) : Code := (loopsOf (bodyOf Tryz.f259)).getD i .skip
theorem run (x0 : Disk) : runFn E H Tryz.f259 fs.ps fs.rs (x0, ()) = raw x0 := by kernel_rfl
theorem env : EnvOk Tryz.prog E := env_nil tys
theorem loops : ∀ c, Tryz.f259.body = some c → LoopsOk E H c := loops_none (by kernel_rfl)
theorem sound : Sound Tryz.prog 259 fs := fn_sound env mixed Tryz.func259 H loops fun ⟨x0, ()⟩ hw hp => (run x0).trans (eq x0 hw hp)
theorem known : Seen Tryz.prog 259 fs := ⟨sound, _, Tryz.func259, by kernel_rfl, by kernel_rfl⟩
end spec_l10Copy
namespace spec_l12Rpc
noncomputable def fs : FS := ⟨[(.val tyS14 .f)], [(tyS14, .o)], fun x => spec_l12Rpc.pre x.1, fun x => ((), ((spec_l12Rpc x.1), ()))⟩
noncomputable def E : Env := ⟨theta, [], []⟩
noncomputable def H : List LC := []
noncomputable def code (i : Nat) : Code := (loopsOf (bodyOf Tryz.f165)).getD i .skip
theorem run (x0 : (Int × (Int × (Int × (Int × (Int × (Int × (Int × ((List Entry) × (Bool × ((List UInt8) × Unit))))))))))) : runFn E H Tryz.f165 fs.ps fs.rs (x0, ()) = raw x0 := by kernel_rfl
theorem env : EnvOk Tryz.prog E := env_nil tys
theorem loops : ∀ c, Tryz.f165.body = some c → LoopsOk E H c := loops_none (by kernel_rfl)
theorem sound : Sound Tryz.prog 165 fs := fn_sound env mixed Tryz.func165 H loops fun ⟨x0, ()⟩ hw hp => (run x0).trans (eq x0 hw hp)
theorem known : Seen Tryz.prog 165 fs := ⟨sound, _, Tryz.func165, by kernel_rfl, by kernel_rfl⟩
end spec_l12Rpc
namespace spec_l12Rpcs
noncomputable def fs : FS := ⟨[(.val (.sl 113 tyS14) .f)], [((.sl 113 tyS14), .o)], fun x => spec_l12Rpcs.pre x.1, fun x => ((), ((spec_l12Rpcs x.1), ()))⟩
noncomputable def E : Env := ⟨theta, [(165, spec_l12Rpc.fs)], []⟩
noncomputable def sh3 : ShSt := ⟨[(.one (.dat (.sl 113 tyS14))), uu, uu, (.one (.arr 20000000)), ui, uu, uu, uu, uu, uu, uu, uu, uu, uu, uu, uu, uu, uu, uu, uu, uu], [(20000000, (.arr 113 tyS14))]⟩
noncomputable def outs3 : List OutC := [⟨(.exit 0), ⟨0, [3], [(3, (113, tyS14))]⟩, ⟨[uu, uu, uu, (.one (.arr 20000000)), uu, uu, uu, uu, uu, uu, uu, uu, uu, uu, uu, uu, uu, uu, uu, uu, uu], [(20000000, (.arr 113 tyS14))]⟩⟩]
noncomputable def L3 : LC := ⟨3, ⟨3, [0, 3, 4], [(3, (113, tyS14))]⟩, sh3, outs3, pre3, fn3⟩
noncomputable def H : List LC := [L3]
noncomputable def code (i : Nat) : Code := (loopsOf (bodyOf Tryz.f260)).getD i .skip
theorem step3 (x1 : (List (Int × (Int × (Int × (Int × (Int × (Int × (Int × ((List Entry) × (Bool × ((List UInt8) × Unit)))))))))))) (x2 : Int) (x3 : (List (Int × (Int × (Int × (Int × (Int × (Int × (Int × ((List Entry) × (Bool × ((List UInt8) × Unit)))))))))))) : L3.step E H (code 0) (x1, (x2, (x3, ()))) = raw3 x1 x2 x3 := by kernel_rfl
theorem lok3 : LoopOk E H (code 0) L3 := ⟨mu3, fun ⟨x1, x2, x3, ()⟩ hp => rounds_ok (step3 x1 x2 x3) (ok3 x1 x2 x3 hp)⟩
theorem run (x0 : (List (Int × (Int × (Int × (Int × (Int × (Int × (Int × ((List Entry) × (Bool × ((List UInt8) × Unit)))))))))))) : runFn E H Tryz.f260 fs.ps fs.rs (x0, ()) = raw x0 := by kernel_rfl
theorem env : EnvOk Tryz.prog E := env_cons spec_l12Rpc.known (env_nil tys)
theorem loops : ∀ c, Tryz.f260.body = some c → LoopsOk E H c := loops_of (by kernel_rfl) (by kernel_rfl) fun i l h => match i, h with
  | 0, h => Option.some.inj h ▸ lok3
  | n + 1, h => by cases h
theorem sound : Sound Tryz.prog 260 fs := fn_sound env mixed Tryz.func260 H loops fun ⟨x0, ()⟩ hw hp => (run x0).trans (eq x0 hw hp)
theorem known : Seen Tryz.prog 260 fs := ⟨sound, _, Tryz.func260, by kernel_rfl, by kernel_rfl⟩
end spec_l12Rpcs
namespace spec_l12Copy
noncomputable def fs : FS := ⟨[(.val tyS17 .f)], [(tyS17, .o)], fun x => spec_l12Copy.pre x.1, fun x => ((), ((spec_l12Copy x.1), ()))⟩
noncomputable def E : Env := ⟨theta, [(213, spec_l6Copy.fs), (209, spec_l11Copy.fs), (259, spec_l10Copy.fs), (260, spec_l12Rpcs.fs)], []⟩
noncomputable def H : List LC := []
noncomputable def code (i : Nat) : Code := (loopsOf (bodyOf Tryz.f164)).getD i .skip
theorem run (x0 : (Int × ((Int × (Int × (Log × (((List Row) × ((List Maker) × ((List Group) × (Int × ((List Int) × ((List Answer) × Unit)))))) × Unit)))) × (Int × ((List Bool) × ((List Int) × ((List Int) × (Int × (((List Row) × ((List Maker) × ((List Group) × (Int × ((List Int) × ((List Answer) × Unit)))))) × (Disk × ((List (Int × (Int × (Int × (Int × (Int × (Int × (Int × ((List Entry) × (Bool × ((List UInt8) × Unit))))))))))) × Unit))))))))))) : runFn E H Tryz.f164 fs.ps fs.rs (x0, ()) = raw x0 := by kernel_rfl
theorem env : EnvOk Tryz.prog E := env_cons spec_l6Copy.known (env_cons spec_l11Copy.known (env_cons spec_l10Copy.known (env_cons spec_l12Rpcs.known (env_nil tys))))
theorem loops : ∀ c, Tryz.f164.body = some c → LoopsOk E H c := loops_none (by kernel_rfl)
theorem sound : Sound Tryz.prog 164 fs := fn_sound env mixed Tryz.func164 H loops fun ⟨x0, ()⟩ hw hp => (run x0).trans (eq x0 hw hp)
theorem known : Seen Tryz.prog 164 fs := ⟨sound, _, Tryz.func164, by kernel_rfl, by kernel_rfl⟩
end spec_l12Copy
namespace spec_Tell
noncomputable def fs : FS := ⟨[(.val tyS17 .f), (.val tyS14 .f)], [(tyS17, .o), (.bool, .o)], fun x => spec_Tell.pre x.1 x.2.1, fun x => ((), ((spec_Tell x.1 x.2.1).1, ((spec_Tell x.1 x.2.1).2, ())))⟩
noncomputable def E : Env := ⟨theta, [(165, spec_l12Rpc.fs), (164, spec_l12Copy.fs)], []⟩
noncomputable def H : List LC := []
noncomputable def code (i : Nat) : Code := (loopsOf (bodyOf Tryz.f51)).getD i .skip
theorem run (x0 : (Int × ((Int × (Int × (Log × (((List Row) × ((List Maker) × ((List Group) × (Int × ((List Int) × ((List Answer) × Unit)))))) × Unit)))) × (Int × ((List Bool) × ((List Int) × ((List Int) × (Int × (((List Row) × ((List Maker) × ((List Group) × (Int × ((List Int) × ((List Answer) × Unit)))))) × (Disk × ((List (Int × (Int × (Int × (Int × (Int × (Int × (Int × ((List Entry) × (Bool × ((List UInt8) × Unit))))))))))) × Unit))))))))))) (x1 : (Int × (Int × (Int × (Int × (Int × (Int × (Int × ((List Entry) × (Bool × ((List UInt8) × Unit))))))))))) : runFn E H Tryz.f51 fs.ps fs.rs (x0, (x1, ())) = raw x0 x1 := by kernel_rfl
theorem env : EnvOk Tryz.prog E := env_cons spec_l12Rpc.known (env_cons spec_l12Copy.known (env_nil tys))
theorem loops : ∀ c, Tryz.f51.body = some c → LoopsOk E H c := loops_none (by kernel_rfl)
theorem sound : Sound Tryz.prog 51 fs := fn_sound env mixed Tryz.func51 H loops fun ⟨x0, x1, ()⟩ hw hp => (run x0 x1).trans (eq x0 x1 hw hp)
theorem known : Seen Tryz.prog 51 fs := ⟨sound, _, Tryz.func51, by kernel_rfl, by kernel_rfl⟩
end spec_Tell
namespace laws_eqCmd
noncomputable def fs : FS := ⟨[(.val (.pair (.int .i64) (.pair (.int .i64) (.pair (.int .i64) (.pair (.int .i64) tyS19)))) .f), (.val (.pair (.int .i64) (.pair (.int .i64) (.pair (.int .i64) (.pair (.int .i64) tyS19)))) .f)], [(.bool, .o)], fun _ => true, fun x => ((), ((laws_eqCmd x.1 x.2.1), ()))⟩
noncomputable def E : Env := ⟨theta, [], []⟩
noncomputable def H : List LC := []
noncomputable def code (i : Nat) : Code := (loopsOf (bodyOf Tryz.f183)).getD i .skip
theorem run (x0 : Cmd) (x1 : Cmd) : runFn E H Tryz.f183 fs.ps fs.rs (x0, (x1, ())) = raw x0 x1 := by kernel_rfl
theorem env : EnvOk Tryz.prog E := env_nil tys
theorem loops : ∀ c, Tryz.f183.body = some c → LoopsOk E H c := loops_none (by kernel_rfl)
theorem sound : Sound Tryz.prog 183 fs := fn_sound env mixed Tryz.func183 H loops fun ⟨x0, x1, ()⟩ hw _ => (run x0 x1).trans (eq x0 x1 hw)
theorem known : Seen Tryz.prog 183 fs := ⟨sound, _, Tryz.func183, by kernel_rfl, by kernel_rfl⟩
end laws_eqCmd
namespace laws_eqEntry
noncomputable def fs : FS := ⟨[(.val tyS12 .f), (.val tyS12 .f)], [(.bool, .o)], fun _ => true, fun x => ((), ((laws_eqEntry x.1 x.2.1), ()))⟩
noncomputable def E : Env := ⟨theta, [(183, laws_eqCmd.fs)], []⟩
noncomputable def H : List LC := []
noncomputable def code (i : Nat) : Code := (loopsOf (bodyOf Tryz.f269)).getD i .skip
theorem run (x0 : Entry) (x1 : Entry) : runFn E H Tryz.f269 fs.ps fs.rs (x0, (x1, ())) = raw x0 x1 := by kernel_rfl
theorem env : EnvOk Tryz.prog E := env_cons laws_eqCmd.known (env_nil tys)
theorem loops : ∀ c, Tryz.f269.body = some c → LoopsOk E H c := loops_none (by kernel_rfl)
theorem sound : Sound Tryz.prog 269 fs := fn_sound env mixed Tryz.func269 H loops fun ⟨x0, x1, ()⟩ hw _ => (run x0 x1).trans (eq x0 x1 hw)
theorem known : Seen Tryz.prog 269 fs := ⟨sound, _, Tryz.func269, by kernel_rfl, by kernel_rfl⟩
end laws_eqEntry
namespace laws_eqEntryS
noncomputable def fs : FS := ⟨[(.val (.sl 167 tyS12) .f), (.val (.sl 167 tyS12) .f)], [(.bool, .o)], fun _ => true, fun x => ((), ((laws_eqEntryS x.1 x.2.1), ()))⟩
noncomputable def E : Env := ⟨theta, [(269, laws_eqEntry.fs)], []⟩
noncomputable def sh4 : ShSt := ⟨[(.one (.dat (.sl 167 tyS12))), (.one (.dat (.sl 167 tyS12))), uu, uu, uu, ui, uu, uu, uu, uu, uu, uu, uu, uu, uu, uu, uu, uu, uu, uu, uu, uu, uu, uu, uu, uu, uu], []⟩
noncomputable def outs4 : List OutC := [⟨.ret, ⟨0, [4], []⟩, ⟨[uu, uu, uu, uu, (.one (.dat .bool)), uu, uu, uu, uu, uu, uu, uu, uu, uu, uu, uu, uu, uu, uu, uu, uu, uu, uu, uu, uu, uu, uu], []⟩⟩, ⟨(.exit 0), ⟨0, [], []⟩, ⟨[uu, uu, uu, uu, uu, uu, uu, uu, uu, uu, uu, uu, uu, uu, uu, uu, uu, uu, uu, uu, uu, uu, uu, uu, uu, uu, uu], []⟩⟩]
noncomputable def L4 : LC := ⟨4, ⟨4, [0, 1, 5], []⟩, sh4, outs4, pre4, fn4⟩
noncomputable def H : List LC := [L4]
noncomputable def code (i : Nat) : Code := (loopsOf (bodyOf Tryz.f175)).getD i .skip
theorem step4 (x1 : (List Entry)) (x2 : (List Entry)) (x3 : Int) : L4.step E H (code 0) (x1, (x2, (x3, ()))) = raw4 x1 x2 x3 := by kernel_rfl
theorem lok4 : LoopOk E H (code 0) L4 := ⟨mu4, fun ⟨x1, x2, x3, ()⟩ hp => rounds_ok (step4 x1 x2 x3) (ok4 x1 x2 x3 hp)⟩
theorem run (x0 : (List Entry)) (x1 : (List Entry)) : runFn E H Tryz.f175 fs.ps fs.rs (x0, (x1, ())) = raw x0 x1 := by kernel_rfl
theorem env : EnvOk Tryz.prog E := env_cons laws_eqEntry.known (env_nil tys)
theorem loops : ∀ c, Tryz.f175.body = some c → LoopsOk E H c := loops_of (by kernel_rfl) (by kernel_rfl) fun i l h => match i, h with
  | 0, h => Option.some.inj h ▸ lok4
  | n + 1, h => by cases h
theorem sound : Sound Tryz.prog 175 fs := fn_sound env mixed Tryz.func175 H loops fun ⟨x0, x1, ()⟩ hw _ => (run x0 x1).trans (eq x0 x1 hw)
theorem known : Seen Tryz.prog 175 fs := ⟨sound, _, Tryz.func175, by kernel_rfl, by kernel_rfl⟩
end laws_eqEntryS
namespace laws_eqRpc
noncomputable def fs : FS := ⟨[(.val tyS14 .f), (.val tyS14 .f)], [(.bool, .o)], fun _ => true, fun x => ((), ((laws_eqRpc x.1 x.2.1), ()))⟩
noncomputable def E : Env := ⟨theta, [(175, laws_eqEntryS.fs)], []⟩
noncomputable def H : List LC := []
noncomputable def code (i : Nat) : Code := (loopsOf (bodyOf Tryz.f55)).getD i .skip
theorem run (x0 : (Int × (Int × (Int × (Int × (Int × (Int × (Int × ((List Entry) × (Bool × ((List UInt8) × Unit))))))))))) (x1 : (Int × (Int × (Int × (Int × (Int × (Int × (Int × ((List Entry) × (Bool × ((List UInt8) × Unit))))))))))) : runFn E H Tryz.f55 fs.ps fs.rs (x0, (x1, ())) = raw x0 x1 := by kernel_rfl
theorem env : EnvOk Tryz.prog E := env_cons laws_eqEntryS.known (env_nil tys)
theorem loops : ∀ c, Tryz.f55.body = some c → LoopsOk E H c := loops_none (by kernel_rfl)
theorem sound : Sound Tryz.prog 55 fs := fn_sound env mixed Tryz.func55 H loops fun ⟨x0, x1, ()⟩ hw _ => (run x0 x1).trans (eq x0 x1 hw)
theorem known : Seen Tryz.prog 55 fs := ⟨sound, _, Tryz.func55, by kernel_rfl, by kernel_rfl⟩
end laws_eqRpc
namespace laws_markText
noncomputable def fs : FS := ⟨[(.val (.int .i64) .f)], [(.str, .o)], fun x => laws_markText.pre x.1, fun x => ((), ((laws_markText x.1), ()))⟩
noncomputable def E : Env := ⟨theta, [], []⟩
noncomputable def sh4 : ShSt := ⟨[ui, uu, uu, (.one (.dat .str)), uu, uu, uu, uu, uu, uu, uu, uu, uu, uu, uu, uu, uu, uu, uu, uu], []⟩
noncomputable def outs4 : List OutC := [⟨(.exit 0), ⟨0, [3], []⟩, ⟨[uu, uu, uu, (.one (.dat .str)), uu, uu, uu, uu, uu, uu, uu, uu, uu, uu, uu, uu, uu, uu, uu, uu], []⟩⟩]
noncomputable def L4 : LC := ⟨4, ⟨4, [0, 3], []⟩, sh4, outs4, pre4, fn4⟩
noncomputable def H : List LC := [L4]
noncomputable def code (i : Nat) : Code := (loopsOf (bodyOf Tryz.f184)).getD i .skip
theorem step4 (x1 : Int) (x2 : (List UInt8)) : L4.step E H (code 0) (x1, (x2, ())) = raw4 x1 x2 := by kernel_rfl
theorem lok4 : LoopOk E H (code 0) L4 := ⟨mu4, fun ⟨x1, x2, ()⟩ hp => rounds_ok (step4 x1 x2) (ok4 x1 x2 hp)⟩
theorem run (x0 : Int) : runFn E H Tryz.f184 fs.ps fs.rs (x0, ()) = raw x0 := by kernel_rfl
theorem env : EnvOk Tryz.prog E := env_nil tys
theorem loops : ∀ c, Tryz.f184.body = some c → LoopsOk E H c := loops_of (by kernel_rfl) (by kernel_rfl) fun i l h => match i, h with
  | 0, h => Option.some.inj h ▸ lok4
  | n + 1, h => by cases h
theorem sound : Sound Tryz.prog 184 fs := fn_sound env mixed Tryz.func184 H loops fun ⟨x0, ()⟩ hw hp => (run x0).trans (eq x0 hw hp)
theorem known : Seen Tryz.prog 184 fs := ⟨sound, _, Tryz.func184, by kernel_rfl, by kernel_rfl⟩
end laws_markText
namespace laws_markEntryS
noncomputable def fs : FS := ⟨[(.mut (.sl 167 tyS12)), (.val (.int .i64) .f)], [((.int .i64), .o)], fun x => laws_markEntryS.pre x.1 x.2.1, fun x => (((laws_markEntryS x.1 x.2.1).1, ()), ((laws_markEntryS x.1 x.2.1).2, ()))⟩
noncomputable def E : Env := ⟨theta, [(184, laws_markText.fs)], []⟩
noncomputable def sh2 : ShSt := ⟨[(.one (.arr 40000001)), ui, uu, uu, uu, ui, uu, uu, uu, uu, uu, uu, uu, uu, uu, uu, uu, uu, uu, uu, uu, uu, uu, uu, uu, uu, uu, uu, uu, uu, uu, uu, uu, uu, uu, uu, uu, uu, uu, uu, uu, uu, uu, uu, uu, uu, uu, uu, uu, uu, uu, uu, uu, uu, uu, uu, uu, uu, uu, uu, uu, uu, uu, uu, uu, uu, uu, uu, uu, uu, uu, uu, uu, uu, uu, uu, uu, uu, uu, uu, uu, uu, uu, uu, uu, uu], [(40000001, (.arr 167 tyS12))]⟩
noncomputable def outs2 : List OutC := [⟨(.exit 0), ⟨0, [1, 0], []⟩, ⟨[(.one (.arr 40000001)), ui, uu, uu, uu, uu, uu, uu, uu, uu, uu, uu, uu, uu, uu, uu, uu, uu, uu, uu, uu, uu, uu, uu, uu, uu, uu, uu, uu, uu, uu, uu, uu, uu, uu, uu, uu, uu, uu, uu, uu, uu, uu, uu, uu, uu, uu, uu, uu, uu, uu, uu, uu, uu, uu, uu, uu, uu, uu, uu, uu, uu, uu, uu, uu, uu, uu, uu, uu, uu, uu, uu, uu, uu, uu, uu, uu, uu, uu, uu, uu, uu, uu, uu, uu, uu], [(40000001, (.arr 167 tyS12))]⟩⟩]
noncomputable def L2 : LC := ⟨2, ⟨2, [0, 1, 5], []⟩, sh2, outs2, pre2, fn2⟩
noncomputable def H : List LC := [L2]
noncomputable def code (i : Nat) : Code := (loopsOf (bodyOf Tryz.f176)).getD i .skip
theorem step2 (x1 : Int) (x2 : Int) (x3 : (List Entry)) : L2.step E H (code 0) (x1, (x2, (x3, ()))) = raw2 x1 x2 x3 := by kernel_rfl
theorem lok2 : LoopOk E H (code 0) L2 := ⟨mu2, fun ⟨x1, x2, x3, ()⟩ hp => rounds_ok (step2 x1 x2 x3) (ok2 x1 x2 x3 hp)⟩
theorem run (x0 : (List Entry)) (x1 : Int) : runFn E H Tryz.f176 fs.ps fs.rs (x0, (x1, ())) = raw x0 x1 := by kernel_rfl
theorem env : EnvOk Tryz.prog E := env_cons laws_markText.known (env_nil tys)
theorem loops : ∀ c, Tryz.f176.body = some c → LoopsOk E H c := loops_of (by kernel_rfl) (by kernel_rfl) fun i l h => match i, h with
  | 0, h => Option.some.inj h ▸ lok2
  | n + 1, h => by cases h
theorem sound : Sound Tryz.prog 176 fs := fn_sound env mixed Tryz.func176 H loops fun ⟨x0, x1, ()⟩ hw hp => (run x0 x1).trans (eq x0 x1 hw hp)
theorem known : Seen Tryz.prog 176 fs := ⟨sound, _, Tryz.func176, by kernel_rfl, by kernel_rfl⟩
end laws_markEntryS
namespace laws_markRpc
noncomputable def fs : FS := ⟨[(.mut tyS14), (.val (.int .i64) .f)], [((.int .i64), .o)], fun x => laws_markRpc.pre x.1 x.2.1, fun x => (((laws_markRpc x.1 x.2.1).1, ()), ((laws_markRpc x.1 x.2.1).2, ()))⟩
noncomputable def E : Env := ⟨theta, [(176, laws_markEntryS.fs)], []⟩
noncomputable def H : List LC := []
noncomputable def code (i : Nat) : Code := (loopsOf (bodyOf Tryz.f56)).getD i .skip
theorem run (x0 : (Int × (Int × (Int × (Int × (Int × (Int × (Int × ((List Entry) × (Bool × ((List UInt8) × Unit))))))))))) (x1 : Int) : runFn E H Tryz.f56 fs.ps fs.rs (x0, (x1, ())) = raw x0 x1 := by kernel_rfl
theorem env : EnvOk Tryz.prog E := env_cons laws_markEntryS.known (env_nil tys)
theorem loops : ∀ c, Tryz.f56.body = some c → LoopsOk E H c := loops_none (by kernel_rfl)
theorem sound : Sound Tryz.prog 56 fs := fn_sound env mixed Tryz.func56 H loops fun ⟨x0, x1, ()⟩ hw hp => (run x0 x1).trans (eq x0 x1 hw hp)
theorem known : Seen Tryz.prog 56 fs := ⟨sound, _, Tryz.func56, by kernel_rfl, by kernel_rfl⟩
end laws_markRpc
namespace laws_markLog
noncomputable def fs : FS := ⟨[(.mut tyS114), (.val (.int .i64) .f)], [((.int .i64), .o)], fun x => laws_markLog.pre x.1 x.2.1, fun x => (((laws_markLog x.1 x.2.1).1, ()), ((laws_markLog x.1 x.2.1).2, ()))⟩
noncomputable def E : Env := ⟨theta, [(176, laws_markEntryS.fs)], []⟩
noncomputable def H : List LC := []
noncomputable def code (i : Nat) : Code := (loopsOf (bodyOf Tryz.f192)).getD i .skip
theorem run (x0 : Log) (x1 : Int) : runFn E H Tryz.f192 fs.ps fs.rs (x0, (x1, ())) = raw x0 x1 := by kernel_rfl
theorem env : EnvOk Tryz.prog E := env_cons laws_markEntryS.known (env_nil tys)
theorem loops : ∀ c, Tryz.f192.body = some c → LoopsOk E H c := loops_none (by kernel_rfl)
theorem sound : Sound Tryz.prog 192 fs := fn_sound env mixed Tryz.func192 H loops fun ⟨x0, x1, ()⟩ hw hp => (run x0 x1).trans (eq x0 x1 hw hp)
theorem known : Seen Tryz.prog 192 fs := ⟨sound, _, Tryz.func192, by kernel_rfl, by kernel_rfl⟩
end laws_markLog
namespace laws_markItemS
noncomputable def fs : FS := ⟨[(.mut (.sl 44 tyS16)), (.val (.int .i64) .f)], [((.int .i64), .o)], fun x => laws_markItemS.pre x.1 x.2.1, fun x => (((laws_markItemS x.1 x.2.1).1, ()), ((laws_markItemS x.1 x.2.1).2, ()))⟩
noncomputable def E : Env := ⟨theta, [(184, laws_markText.fs)], []⟩
noncomputable def sh2 : ShSt := ⟨[(.one (.arr 40000001)), ui, uu, uu, uu, ui, uu, uu, uu, uu, uu, uu, uu, uu, uu, uu, uu, uu, uu, uu, uu, uu, uu, uu, uu, uu, uu, uu, uu, uu, uu, uu, uu, uu, uu, uu, uu, uu, uu, uu, uu, uu, uu, uu, uu, uu, uu, uu, uu, uu], [(40000001, (.arr 44 tyS16))]⟩
noncomputable def outs2 : List OutC := [⟨(.exit 0), ⟨0, [1, 0], []⟩, ⟨[(.one (.arr 40000001)), ui, uu, uu, uu, uu, uu, uu, uu, uu, uu, uu, uu, uu, uu, uu, uu, uu, uu, uu, uu, uu, uu, uu, uu, uu, uu, uu, uu, uu, uu, uu, uu, uu, uu, uu, uu, uu, uu, uu, uu, uu, uu, uu, uu, uu, uu, uu, uu, uu], [(40000001, (.arr 44 tyS16))]⟩⟩]
noncomputable def L2 : LC := ⟨2, ⟨2, [0, 1, 5], []⟩, sh2, outs2, pre2, fn2⟩
noncomputable def H : List LC := [L2]
noncomputable def code (i : Nat) : Code := (loopsOf (bodyOf Tryz.f273)).getD i .skip
theorem step2 (x1 : Int) (x2 : Int) (x3 : (List Item)) : L2.step E H (code 0) (x1, (x2, (x3, ()))) = raw2 x1 x2 x3 := by kernel_rfl
theorem lok2 : LoopOk E H (code 0) L2 := ⟨mu2, fun ⟨x1, x2, x3, ()⟩ hp => rounds_ok (step2 x1 x2 x3) (ok2 x1 x2 x3 hp)⟩
theorem run (x0 : (List Item)) (x1 : Int) : runFn E H Tryz.f273 fs.ps fs.rs (x0, (x1, ())) = raw x0 x1 := by kernel_rfl
theorem env : EnvOk Tryz.prog E := env_cons laws_markText.known (env_nil tys)
theorem loops : ∀ c, Tryz.f273.body = some c → LoopsOk E H c := loops_of (by kernel_rfl) (by kernel_rfl) fun i l h => match i, h with
  | 0, h => Option.some.inj h ▸ lok2
  | n + 1, h => by cases h
theorem sound : Sound Tryz.prog 273 fs := fn_sound env mixed Tryz.func273 H loops fun ⟨x0, x1, ()⟩ hw hp => (run x0 x1).trans (eq x0 x1 hw hp)
theorem known : Seen Tryz.prog 273 fs := ⟨sound, _, Tryz.func273, by kernel_rfl, by kernel_rfl⟩
end laws_markItemS
namespace laws_markRowS
noncomputable def fs : FS := ⟨[(.mut (.sl 42 tyS111)), (.val (.int .i64) .f)], [((.int .i64), .o)], fun x => laws_markRowS.pre x.1 x.2.1, fun x => (((laws_markRowS x.1 x.2.1).1, ()), ((laws_markRowS x.1 x.2.1).2, ()))⟩
noncomputable def E : Env := ⟨theta, [(273, laws_markItemS.fs)], []⟩
noncomputable def sh2 : ShSt := ⟨[(.one (.arr 40000001)), ui, uu, uu, uu, ui, uu, uu, uu, uu, uu, uu, uu, uu, uu, uu, uu, uu, uu, uu, uu, uu, uu, uu, uu, uu, uu, uu, uu, uu, uu, uu, uu, uu], [(40000001, (.arr 42 tyS111))]⟩
noncomputable def outs2 : List OutC := [⟨(.exit 0), ⟨0, [1, 0], []⟩, ⟨[(.one (.arr 40000001)), ui, uu, uu, uu, uu, uu, uu, uu, uu, uu, uu, uu, uu, uu, uu, uu, uu, uu, uu, uu, uu, uu, uu, uu, uu, uu, uu, uu, uu, uu, uu, uu, uu], [(40000001, (.arr 42 tyS111))]⟩⟩]
noncomputable def L2 : LC := ⟨2, ⟨2, [0, 1, 5], []⟩, sh2, outs2, pre2, fn2⟩
noncomputable def H : List LC := [L2]
noncomputable def code (i : Nat) : Code := (loopsOf (bodyOf Tryz.f185)).getD i .skip
theorem step2 (x1 : Int) (x2 : Int) (x3 : (List Row)) : L2.step E H (code 0) (x1, (x2, (x3, ()))) = raw2 x1 x2 x3 := by kernel_rfl
theorem lok2 : LoopOk E H (code 0) L2 := ⟨mu2, fun ⟨x1, x2, x3, ()⟩ hp => rounds_ok (step2 x1 x2 x3) (ok2 x1 x2 x3 hp)⟩
theorem run (x0 : (List Row)) (x1 : Int) : runFn E H Tryz.f185 fs.ps fs.rs (x0, (x1, ())) = raw x0 x1 := by kernel_rfl
theorem env : EnvOk Tryz.prog E := env_cons laws_markItemS.known (env_nil tys)
theorem loops : ∀ c, Tryz.f185.body = some c → LoopsOk E H c := loops_of (by kernel_rfl) (by kernel_rfl) fun i l h => match i, h with
  | 0, h => Option.some.inj h ▸ lok2
  | n + 1, h => by cases h
theorem sound : Sound Tryz.prog 185 fs := fn_sound env mixed Tryz.func185 H loops fun ⟨x0, x1, ()⟩ hw hp => (run x0 x1).trans (eq x0 x1 hw hp)
theorem known : Seen Tryz.prog 185 fs := ⟨sound, _, Tryz.func185, by kernel_rfl, by kernel_rfl⟩
end laws_markRowS
namespace laws_markMarkS
noncomputable def fs : FS := ⟨[(.mut (.sl 254 tyS113)), (.val (.int .i64) .f)], [((.int .i64), .o)], fun x => laws_markMarkS.pre x.1 x.2.1, fun x => (((laws_markMarkS x.1 x.2.1).1, ()), ((laws_markMarkS x.1 x.2.1).2, ()))⟩
noncomputable def E : Env := ⟨theta, [], []⟩
noncomputable def sh2 : ShSt := ⟨[(.one (.arr 40000001)), ui, uu, uu, uu, ui, uu, uu, uu, uu, uu, uu, uu, uu, uu, uu, uu, uu, uu, uu, uu, uu, uu, uu, uu, uu, uu], [(40000001, (.arr 254 tyS113))]⟩
noncomputable def outs2 : List OutC := [⟨(.exit 0), ⟨0, [1, 0], []⟩, ⟨[(.one (.arr 40000001)), ui, uu, uu, uu, uu, uu, uu, uu, uu, uu, uu, uu, uu, uu, uu, uu, uu, uu, uu, uu, uu, uu, uu, uu, uu, uu], [(40000001, (.arr 254 tyS113))]⟩⟩]
noncomputable def L2 : LC := ⟨2, ⟨2, [0, 1, 5], []⟩, sh2, outs2, pre2, fn2⟩
noncomputable def H : List LC := [L2]
noncomputable def code (i : Nat) : Code := (loopsOf (bodyOf Tryz.f274)).getD i .skip
theorem step2 (x1 : Int) (x2 : Int) (x3 : (List Mark)) : L2.step E H (code 0) (x1, (x2, (x3, ()))) = raw2 x1 x2 x3 := by kernel_rfl
theorem lok2 : LoopOk E H (code 0) L2 := ⟨mu2, fun ⟨x1, x2, x3, ()⟩ hp => rounds_ok (step2 x1 x2 x3) (ok2 x1 x2 x3 hp)⟩
theorem run (x0 : (List Mark)) (x1 : Int) : runFn E H Tryz.f274 fs.ps fs.rs (x0, (x1, ())) = raw x0 x1 := by kernel_rfl
theorem env : EnvOk Tryz.prog E := env_nil tys
theorem loops : ∀ c, Tryz.f274.body = some c → LoopsOk E H c := loops_of (by kernel_rfl) (by kernel_rfl) fun i l h => match i, h with
  | 0, h => Option.some.inj h ▸ lok2
  | n + 1, h => by cases h
theorem sound : Sound Tryz.prog 274 fs := fn_sound env mixed Tryz.func274 H loops fun ⟨x0, x1, ()⟩ hw hp => (run x0 x1).trans (eq x0 x1 hw hp)
theorem known : Seen Tryz.prog 274 fs := ⟨sound, _, Tryz.func274, by kernel_rfl, by kernel_rfl⟩
end laws_markMarkS
namespace laws_markMakerS
noncomputable def fs : FS := ⟨[(.mut (.sl 156 tyS15)), (.val (.int .i64) .f)], [((.int .i64), .o)], fun x => laws_markMakerS.pre x.1 x.2.1, fun x => (((laws_markMakerS x.1 x.2.1).1, ()), ((laws_markMakerS x.1 x.2.1).2, ()))⟩
noncomputable def E : Env := ⟨theta, [(274, laws_markMarkS.fs)], []⟩
noncomputable def sh2 : ShSt := ⟨[(.one (.arr 40000001)), ui, uu, uu, uu, ui, uu, uu, uu, uu, uu, uu, uu, uu, uu, uu, uu, uu, uu, uu, uu, uu, uu, uu, uu, uu, uu, uu, uu, uu, uu, uu, uu, uu, uu, uu, uu, uu, uu, uu, uu, uu, uu, uu, uu, uu, uu, uu], [(40000001, (.arr 156 tyS15))]⟩
noncomputable def outs2 : List OutC := [⟨(.exit 0), ⟨0, [1, 0], []⟩, ⟨[(.one (.arr 40000001)), ui, uu, uu, uu, uu, uu, uu, uu, uu, uu, uu, uu, uu, uu, uu, uu, uu, uu, uu, uu, uu, uu, uu, uu, uu, uu, uu, uu, uu, uu, uu, uu, uu, uu, uu, uu, uu, uu, uu, uu, uu, uu, uu, uu, uu, uu, uu], [(40000001, (.arr 156 tyS15))]⟩⟩]
noncomputable def L2 : LC := ⟨2, ⟨2, [0, 1, 5], []⟩, sh2, outs2, pre2, fn2⟩
noncomputable def H : List LC := [L2]
noncomputable def code (i : Nat) : Code := (loopsOf (bodyOf Tryz.f186)).getD i .skip
theorem step2 (x1 : Int) (x2 : Int) (x3 : (List Maker)) : L2.step E H (code 0) (x1, (x2, (x3, ()))) = raw2 x1 x2 x3 := by kernel_rfl
theorem lok2 : LoopOk E H (code 0) L2 := ⟨mu2, fun ⟨x1, x2, x3, ()⟩ hp => rounds_ok (step2 x1 x2 x3) (ok2 x1 x2 x3 hp)⟩
theorem run (x0 : (List Maker)) (x1 : Int) : runFn E H Tryz.f186 fs.ps fs.rs (x0, (x1, ())) = raw x0 x1 := by kernel_rfl
theorem env : EnvOk Tryz.prog E := env_cons laws_markMarkS.known (env_nil tys)
theorem loops : ∀ c, Tryz.f186.body = some c → LoopsOk E H c := loops_of (by kernel_rfl) (by kernel_rfl) fun i l h => match i, h with
  | 0, h => Option.some.inj h ▸ lok2
  | n + 1, h => by cases h
theorem sound : Sound Tryz.prog 186 fs := fn_sound env mixed Tryz.func186 H loops fun ⟨x0, x1, ()⟩ hw hp => (run x0 x1).trans (eq x0 x1 hw hp)
theorem known : Seen Tryz.prog 186 fs := ⟨sound, _, Tryz.func186, by kernel_rfl, by kernel_rfl⟩
end laws_markMakerS
namespace laws_markIntS
noncomputable def fs : FS := ⟨[(.mut (.sl 3 (.int .i64))), (.val (.int .i64) .f)], [((.int .i64), .o)], fun x => laws_markIntS.pre x.1 x.2.1, fun x => (((laws_markIntS x.1 x.2.1).1, ()), ((laws_markIntS x.1 x.2.1).2, ()))⟩
noncomputable def E : Env := ⟨theta, [], []⟩
noncomputable def sh2 : ShSt := ⟨[(.one (.arr 40000001)), ui, uu, uu, uu, ui, uu, uu, uu, uu, uu, uu, uu, uu, uu, uu, uu, uu, uu], [(40000001, (.arr 3 (.int .i64)))]⟩
noncomputable def outs2 : List OutC := [⟨(.exit 0), ⟨0, [1, 0], []⟩, ⟨[(.one (.arr 40000001)), ui, uu, uu, uu, uu, uu, uu, uu, uu, uu, uu, uu, uu, uu, uu, uu, uu, uu], [(40000001, (.arr 3 (.int .i64)))]⟩⟩]
noncomputable def L2 : LC := ⟨2, ⟨2, [0, 1, 5], []⟩, sh2, outs2, pre2, fn2⟩
noncomputable def H : List LC := [L2]
noncomputable def code (i : Nat) : Code := (loopsOf (bodyOf Tryz.f150)).getD i .skip
theorem step2 (x1 : Int) (x2 : Int) (x3 : (List Int)) : L2.step E H (code 0) (x1, (x2, (x3, ()))) = raw2 x1 x2 x3 := by kernel_rfl
theorem lok2 : LoopOk E H (code 0) L2 := ⟨mu2, fun ⟨x1, x2, x3, ()⟩ hp => rounds_ok (step2 x1 x2 x3) (ok2 x1 x2 x3 hp)⟩
theorem run (x0 : (List Int)) (x1 : Int) : runFn E H Tryz.f150 fs.ps fs.rs (x0, (x1, ())) = raw x0 x1 := by kernel_rfl
theorem env : EnvOk Tryz.prog E := env_nil tys
theorem loops : ∀ c, Tryz.f150.body = some c → LoopsOk E H c := loops_of (by kernel_rfl) (by kernel_rfl) fun i l h => match i, h with
  | 0, h => Option.some.inj h ▸ lok2
  | n + 1, h => by cases h
theorem sound : Sound Tryz.prog 150 fs := fn_sound env mixed Tryz.func150 H loops fun ⟨x0, x1, ()⟩ hw hp => (run x0 x1).trans (eq x0 x1 hw hp)
theorem known : Seen Tryz.prog 150 fs := ⟨sound, _, Tryz.func150, by kernel_rfl, by kernel_rfl⟩
end laws_markIntS
namespace laws_markGroupS
noncomputable def fs : FS := ⟨[(.mut (.sl 159 tyS18)), (.val (.int .i64) .f)], [((.int .i64), .o)], fun x => laws_markGroupS.pre x.1 x.2.1, fun x => (((laws_markGroupS x.1 x.2.1).1, ()), ((laws_markGroupS x.1 x.2.1).2, ()))⟩
noncomputable def E : Env := ⟨theta, [(150, laws_markIntS.fs)], []⟩
noncomputable def sh2 : ShSt := ⟨[(.one (.arr 40000001)), ui, uu, uu, uu, ui, uu, uu, uu, uu, uu, uu, uu, uu, uu, uu, uu, uu, uu, uu, uu, uu, uu, uu, uu, uu, uu, uu, uu, uu, uu, uu, uu, uu, uu, uu, uu, uu, uu, uu, uu], [(40000001, (.arr 159 tyS18))]⟩
noncomputable def outs2 : List OutC := [⟨(.exit 0), ⟨0, [1, 0], []⟩, ⟨[(.one (.arr 40000001)), ui, uu, uu, uu, uu, uu, uu, uu, uu, uu, uu, uu, uu, uu, uu, uu, uu, uu, uu, uu, uu, uu, uu, uu, uu, uu, uu, uu, uu, uu, uu, uu, uu, uu, uu, uu, uu, uu, uu, uu], [(40000001, (.arr 159 tyS18))]⟩⟩]
noncomputable def L2 : LC := ⟨2, ⟨2, [0, 1, 5], []⟩, sh2, outs2, pre2, fn2⟩
noncomputable def H : List LC := [L2]
noncomputable def code (i : Nat) : Code := (loopsOf (bodyOf Tryz.f187)).getD i .skip
theorem step2 (x1 : Int) (x2 : Int) (x3 : (List Group)) : L2.step E H (code 0) (x1, (x2, (x3, ()))) = raw2 x1 x2 x3 := by kernel_rfl
theorem lok2 : LoopOk E H (code 0) L2 := ⟨mu2, fun ⟨x1, x2, x3, ()⟩ hp => rounds_ok (step2 x1 x2 x3) (ok2 x1 x2 x3 hp)⟩
theorem run (x0 : (List Group)) (x1 : Int) : runFn E H Tryz.f187 fs.ps fs.rs (x0, (x1, ())) = raw x0 x1 := by kernel_rfl
theorem env : EnvOk Tryz.prog E := env_cons laws_markIntS.known (env_nil tys)
theorem loops : ∀ c, Tryz.f187.body = some c → LoopsOk E H c := loops_of (by kernel_rfl) (by kernel_rfl) fun i l h => match i, h with
  | 0, h => Option.some.inj h ▸ lok2
  | n + 1, h => by cases h
theorem sound : Sound Tryz.prog 187 fs := fn_sound env mixed Tryz.func187 H loops fun ⟨x0, x1, ()⟩ hw hp => (run x0 x1).trans (eq x0 x1 hw hp)
theorem known : Seen Tryz.prog 187 fs := ⟨sound, _, Tryz.func187, by kernel_rfl, by kernel_rfl⟩
end laws_markGroupS
namespace laws_markAnswerS
noncomputable def fs : FS := ⟨[(.mut (.sl 48 tyS19)), (.val (.int .i64) .f)], [((.int .i64), .o)], fun x => laws_markAnswerS.pre x.1 x.2.1, fun x => (((laws_markAnswerS x.1 x.2.1).1, ()), ((laws_markAnswerS x.1 x.2.1).2, ()))⟩
noncomputable def E : Env := ⟨theta, [(184, laws_markText.fs)], []⟩
noncomputable def sh2 : ShSt := ⟨[(.one (.arr 40000001)), ui, uu, uu, uu, ui, uu, uu, uu, uu, uu, uu, uu, uu, uu, uu, uu, uu, uu, uu, uu, uu, uu, uu, uu, uu, uu, uu, uu, uu, uu, uu, uu, uu, uu, uu, uu, uu, uu, uu, uu, uu, uu], [(40000001, (.arr 48 tyS19))]⟩
noncomputable def outs2 : List OutC := [⟨(.exit 0), ⟨0, [1, 0], []⟩, ⟨[(.one (.arr 40000001)), ui, uu, uu, uu, uu, uu, uu, uu, uu, uu, uu, uu, uu, uu, uu, uu, uu, uu, uu, uu, uu, uu, uu, uu, uu, uu, uu, uu, uu, uu, uu, uu, uu, uu, uu, uu, uu, uu, uu, uu, uu, uu], [(40000001, (.arr 48 tyS19))]⟩⟩]
noncomputable def L2 : LC := ⟨2, ⟨2, [0, 1, 5], []⟩, sh2, outs2, pre2, fn2⟩
noncomputable def H : List LC := [L2]
noncomputable def code (i : Nat) : Code := (loopsOf (bodyOf Tryz.f64)).getD i .skip
theorem step2 (x1 : Int) (x2 : Int) (x3 : (List Answer)) : L2.step E H (code 0) (x1, (x2, (x3, ()))) = raw2 x1 x2 x3 := by kernel_rfl
theorem lok2 : LoopOk E H (code 0) L2 := ⟨mu2, fun ⟨x1, x2, x3, ()⟩ hp => rounds_ok (step2 x1 x2 x3) (ok2 x1 x2 x3 hp)⟩
theorem run (x0 : (List Answer)) (x1 : Int) : runFn E H Tryz.f64 fs.ps fs.rs (x0, (x1, ())) = raw x0 x1 := by kernel_rfl
theorem env : EnvOk Tryz.prog E := env_cons laws_markText.known (env_nil tys)
theorem loops : ∀ c, Tryz.f64.body = some c → LoopsOk E H c := loops_of (by kernel_rfl) (by kernel_rfl) fun i l h => match i, h with
  | 0, h => Option.some.inj h ▸ lok2
  | n + 1, h => by cases h
theorem sound : Sound Tryz.prog 64 fs := fn_sound env mixed Tryz.func64 H loops fun ⟨x0, x1, ()⟩ hw hp => (run x0 x1).trans (eq x0 x1 hw hp)
theorem known : Seen Tryz.prog 64 fs := ⟨sound, _, Tryz.func64, by kernel_rfl, by kernel_rfl⟩
end laws_markAnswerS
namespace laws_markKeep
noncomputable def fs : FS := ⟨[(.mut tyS11), (.val (.int .i64) .f)], [((.int .i64), .o)], fun x => laws_markKeep.pre x.1 x.2.1, fun x => (((laws_markKeep x.1 x.2.1).1, ()), ((laws_markKeep x.1 x.2.1).2, ()))⟩
noncomputable def E : Env := ⟨theta, [(185, laws_markRowS.fs), (186, laws_markMakerS.fs), (150, laws_markIntS.fs), (187, laws_markGroupS.fs), (64, laws_markAnswerS.fs)], []⟩
noncomputable def H : List LC := []
noncomputable def code (i : Nat) : Code := (loopsOf (bodyOf Tryz.f63)).getD i .skip
theorem run (x0 : ((List Row) × ((List Maker) × ((List Group) × (Int × ((List Int) × ((List Answer) × Unit))))))) (x1 : Int) : runFn E H Tryz.f63 fs.ps fs.rs (x0, (x1, ())) = raw x0 x1 := by kernel_rfl
theorem env : EnvOk Tryz.prog E := env_cons laws_markRowS.known (env_cons laws_markMakerS.known (env_cons laws_markIntS.known (env_cons laws_markGroupS.known (env_cons laws_markAnswerS.known (env_nil tys)))))
theorem loops : ∀ c, Tryz.f63.body = some c → LoopsOk E H c := loops_none (by kernel_rfl)
theorem sound : Sound Tryz.prog 63 fs := fn_sound env mixed Tryz.func63 H loops fun ⟨x0, x1, ()⟩ hw hp => (run x0 x1).trans (eq x0 x1 hw hp)
theorem known : Seen Tryz.prog 63 fs := ⟨sound, _, Tryz.func63, by kernel_rfl, by kernel_rfl⟩
end laws_markKeep
namespace laws_markHard
noncomputable def fs : FS := ⟨[(.mut (.pair (.int .i64) (.pair (.int .i64) (.pair tyS114 (.pair tyS11 .unit))))), (.val (.int .i64) .f)], [((.int .i64), .o)], fun x => laws_markHard.pre x.1 x.2.1, fun x => (((laws_markHard x.1 x.2.1).1, ()), ((laws_markHard x.1 x.2.1).2, ()))⟩
noncomputable def E : Env := ⟨theta, [(192, laws_markLog.fs), (63, laws_markKeep.fs)], []⟩
noncomputable def H : List LC := []
noncomputable def code (i : Nat) : Code := (loopsOf (bodyOf Tryz.f73)).getD i .skip
theorem run (x0 : (Int × (Int × (Log × (((List Row) × ((List Maker) × ((List Group) × (Int × ((List Int) × ((List Answer) × Unit)))))) × Unit))))) (x1 : Int) : runFn E H Tryz.f73 fs.ps fs.rs (x0, (x1, ())) = raw x0 x1 := by kernel_rfl
theorem env : EnvOk Tryz.prog E := env_cons laws_markLog.known (env_cons laws_markKeep.known (env_nil tys))
theorem loops : ∀ c, Tryz.f73.body = some c → LoopsOk E H c := loops_none (by kernel_rfl)
theorem sound : Sound Tryz.prog 73 fs := fn_sound env mixed Tryz.func73 H loops fun ⟨x0, x1, ()⟩ hw hp => (run x0 x1).trans (eq x0 x1 hw hp)
theorem known : Seen Tryz.prog 73 fs := ⟨sound, _, Tryz.func73, by kernel_rfl, by kernel_rfl⟩
end laws_markHard
namespace laws_markBoolS
noncomputable def fs : FS := ⟨[(.mut (.sl 4 .bool)), (.val (.int .i64) .f)], [((.int .i64), .o)], fun x => laws_markBoolS.pre x.1 x.2.1, fun x => (((laws_markBoolS x.1 x.2.1).1, ()), ((laws_markBoolS x.1 x.2.1).2, ()))⟩
noncomputable def E : Env := ⟨theta, [], []⟩
noncomputable def sh2 : ShSt := ⟨[(.one (.arr 40000001)), ui, uu, uu, uu, ui, uu, uu, uu, uu, uu, uu, uu, uu, uu, uu, uu, uu, uu, uu, uu], [(40000001, (.arr 4 .bool))]⟩
noncomputable def outs2 : List OutC := [⟨(.exit 0), ⟨0, [1, 0], []⟩, ⟨[(.one (.arr 40000001)), ui, uu, uu, uu, uu, uu, uu, uu, uu, uu, uu, uu, uu, uu, uu, uu, uu, uu, uu, uu], [(40000001, (.arr 4 .bool))]⟩⟩]
noncomputable def L2 : LC := ⟨2, ⟨2, [0, 1, 5], []⟩, sh2, outs2, pre2, fn2⟩
noncomputable def H : List LC := [L2]
noncomputable def code (i : Nat) : Code := (loopsOf (bodyOf Tryz.f149)).getD i .skip
theorem step2 (x1 : Int) (x2 : Int) (x3 : (List Bool)) : L2.step E H (code 0) (x1, (x2, (x3, ()))) = raw2 x1 x2 x3 := by kernel_rfl
theorem lok2 : LoopOk E H (code 0) L2 := ⟨mu2, fun ⟨x1, x2, x3, ()⟩ hp => rounds_ok (step2 x1 x2 x3) (ok2 x1 x2 x3 hp)⟩
theorem run (x0 : (List Bool)) (x1 : Int) : runFn E H Tryz.f149 fs.ps fs.rs (x0, (x1, ())) = raw x0 x1 := by kernel_rfl
theorem env : EnvOk Tryz.prog E := env_nil tys
theorem loops : ∀ c, Tryz.f149.body = some c → LoopsOk E H c := loops_of (by kernel_rfl) (by kernel_rfl) fun i l h => match i, h with
  | 0, h => Option.some.inj h ▸ lok2
  | n + 1, h => by cases h
theorem sound : Sound Tryz.prog 149 fs := fn_sound env mixed Tryz.func149 H loops fun ⟨x0, x1, ()⟩ hw hp => (run x0 x1).trans (eq x0 x1 hw hp)
theorem known : Seen Tryz.prog 149 fs := ⟨sound, _, Tryz.func149, by kernel_rfl, by kernel_rfl⟩
end laws_markBoolS
namespace laws_markByteS
noncomputable def fs : FS := ⟨[(.mut (.sl 5 (.int .u8))), (.val (.int .i64) .f)], [((.int .i64), .o)], fun x => laws_markByteS.pre x.1 x.2.1, fun x => (((laws_markByteS x.1 x.2.1).1, ()), ((laws_markByteS x.1 x.2.1).2, ()))⟩
noncomputable def E : Env := ⟨theta, [], []⟩
noncomputable def sh2 : ShSt := ⟨[(.one (.arr 40000001)), ui, uu, uu, uu, ui, uu, uu, uu, uu, uu, uu, uu, uu, uu, uu, uu, uu, uu, uu], [(40000001, (.arr 5 (.int .u8)))]⟩
noncomputable def outs2 : List OutC := [⟨(.exit 0), ⟨0, [1, 0], []⟩, ⟨[(.one (.arr 40000001)), ui, uu, uu, uu, uu, uu, uu, uu, uu, uu, uu, uu, uu, uu, uu, uu, uu, uu, uu], [(40000001, (.arr 5 (.int .u8)))]⟩⟩]
noncomputable def L2 : LC := ⟨2, ⟨2, [0, 1, 5], []⟩, sh2, outs2, pre2, fn2⟩
noncomputable def H : List LC := [L2]
noncomputable def code (i : Nat) : Code := (loopsOf (bodyOf Tryz.f72)).getD i .skip
theorem step2 (x1 : Int) (x2 : Int) (x3 : (List Int)) : L2.step E H (code 0) (x1, (x2, (x3, ()))) = raw2 x1 x2 x3 := by kernel_rfl
theorem lok2 : LoopOk E H (code 0) L2 := ⟨mu2, fun ⟨x1, x2, x3, ()⟩ hp => rounds_ok (step2 x1 x2 x3) (ok2 x1 x2 x3 hp)⟩
theorem run (x0 : (List Int)) (x1 : Int) : runFn E H Tryz.f72 fs.ps fs.rs (x0, (x1, ())) = raw x0 x1 := by kernel_rfl
theorem env : EnvOk Tryz.prog E := env_nil tys
theorem loops : ∀ c, Tryz.f72.body = some c → LoopsOk E H c := loops_of (by kernel_rfl) (by kernel_rfl) fun i l h => match i, h with
  | 0, h => Option.some.inj h ▸ lok2
  | n + 1, h => by cases h
theorem sound : Sound Tryz.prog 72 fs := fn_sound env mixed Tryz.func72 H loops fun ⟨x0, x1, ()⟩ hw hp => (run x0 x1).trans (eq x0 x1 hw hp)
theorem known : Seen Tryz.prog 72 fs := ⟨sound, _, Tryz.func72, by kernel_rfl, by kernel_rfl⟩
end laws_markByteS
namespace laws_markDisk
noncomputable def fs : FS := ⟨[(.mut (.pair (.sl 5 (.int .u8)) (.pair (.int .i64) .unit))), (.val (.int .i64) .f)], [((.int .i64), .o)], fun x => laws_markDisk.pre x.1 x.2.1, fun x => (((laws_markDisk x.1 x.2.1).1, ()), ((laws_markDisk x.1 x.2.1).2, ()))⟩
noncomputable def E : Env := ⟨theta, [(72, laws_markByteS.fs)], []⟩
noncomputable def H : List LC := []
noncomputable def code (i : Nat) : Code := (loopsOf (bodyOf Tryz.f151)).getD i .skip
theorem run (x0 : Disk) (x1 : Int) : runFn E H Tryz.f151 fs.ps fs.rs (x0, (x1, ())) = raw x0 x1 := by kernel_rfl
theorem env : EnvOk Tryz.prog E := env_cons laws_markByteS.known (env_nil tys)
theorem loops : ∀ c, Tryz.f151.body = some c → LoopsOk E H c := loops_none (by kernel_rfl)
theorem sound : Sound Tryz.prog 151 fs := fn_sound env mixed Tryz.func151 H loops fun ⟨x0, x1, ()⟩ hw hp => (run x0 x1).trans (eq x0 x1 hw hp)
theorem known : Seen Tryz.prog 151 fs := ⟨sound, _, Tryz.func151, by kernel_rfl, by kernel_rfl⟩
end laws_markDisk
namespace laws_markRpcS
noncomputable def fs : FS := ⟨[(.mut (.sl 113 tyS14)), (.val (.int .i64) .f)], [((.int .i64), .o)], fun x => laws_markRpcS.pre x.1 x.2.1, fun x => (((laws_markRpcS x.1 x.2.1).1, ()), ((laws_markRpcS x.1 x.2.1).2, ()))⟩
noncomputable def E : Env := ⟨theta, [(184, laws_markText.fs), (176, laws_markEntryS.fs)], []⟩
noncomputable def sh2 : ShSt := ⟨[(.one (.arr 40000001)), ui, uu, uu, uu, ui, uu, uu, uu, uu, uu, uu, uu, uu, uu, uu, uu, uu, uu, uu, uu, uu, uu, uu, uu, uu, uu, uu, uu, uu, uu, uu, uu, uu, uu, uu, uu, uu, uu, uu, uu, uu, uu, uu, uu, uu, uu, uu, uu, uu, uu, uu, uu, uu, uu, uu, uu, uu, uu, uu, uu, uu, uu, uu, uu, uu, uu, uu, uu, uu, uu, uu, uu, uu, uu, uu, uu, uu, uu, uu, uu, uu, uu, uu, uu, uu], [(40000001, (.arr 113 tyS14))]⟩
noncomputable def outs2 : List OutC := [⟨(.exit 0), ⟨0, [1, 0], []⟩, ⟨[(.one (.arr 40000001)), ui, uu, uu, uu, uu, uu, uu, uu, uu, uu, uu, uu, uu, uu, uu, uu, uu, uu, uu, uu, uu, uu, uu, uu, uu, uu, uu, uu, uu, uu, uu, uu, uu, uu, uu, uu, uu, uu, uu, uu, uu, uu, uu, uu, uu, uu, uu, uu, uu, uu, uu, uu, uu, uu, uu, uu, uu, uu, uu, uu, uu, uu, uu, uu, uu, uu, uu, uu, uu, uu, uu, uu, uu, uu, uu, uu, uu, uu, uu, uu, uu, uu, uu, uu, uu], [(40000001, (.arr 113 tyS14))]⟩⟩]
noncomputable def L2 : LC := ⟨2, ⟨2, [0, 1, 5], []⟩, sh2, outs2, pre2, fn2⟩
noncomputable def H : List LC := [L2]
noncomputable def code (i : Nat) : Code := (loopsOf (bodyOf Tryz.f152)).getD i .skip
theorem step2 (x1 : Int) (x2 : Int) (x3 : (List (Int × (Int × (Int × (Int × (Int × (Int × (Int × ((List Entry) × (Bool × ((List UInt8) × Unit)))))))))))) : L2.step E H (code 0) (x1, (x2, (x3, ()))) = raw2 x1 x2 x3 := by kernel_rfl
theorem lok2 : LoopOk E H (code 0) L2 := ⟨mu2, fun ⟨x1, x2, x3, ()⟩ hp => rounds_ok (step2 x1 x2 x3) (ok2 x1 x2 x3 hp)⟩
theorem run (x0 : (List (Int × (Int × (Int × (Int × (Int × (Int × (Int × ((List Entry) × (Bool × ((List UInt8) × Unit)))))))))))) (x1 : Int) : runFn E H Tryz.f152 fs.ps fs.rs (x0, (x1, ())) = raw x0 x1 := by kernel_rfl
theorem env : EnvOk Tryz.prog E := env_cons laws_markText.known (env_cons laws_markEntryS.known (env_nil tys))
theorem loops : ∀ c, Tryz.f152.body = some c → LoopsOk E H c := loops_of (by kernel_rfl) (by kernel_rfl) fun i l h => match i, h with
  | 0, h => Option.some.inj h ▸ lok2
  | n + 1, h => by cases h
theorem sound : Sound Tryz.prog 152 fs := fn_sound env mixed Tryz.func152 H loops fun ⟨x0, x1, ()⟩ hw hp => (run x0 x1).trans (eq x0 x1 hw hp)
theorem known : Seen Tryz.prog 152 fs := ⟨sound, _, Tryz.func152, by kernel_rfl, by kernel_rfl⟩
end laws_markRpcS
namespace laws_markPeer
noncomputable def fs : FS := ⟨[(.mut tyS17), (.val (.int .i64) .f)], [((.int .i64), .o)], fun x => laws_markPeer.pre x.1 x.2.1, fun x => (((laws_markPeer x.1 x.2.1).1, ()), ((laws_markPeer x.1 x.2.1).2, ()))⟩
noncomputable def E : Env := ⟨theta, [(150, laws_markIntS.fs), (63, laws_markKeep.fs), (73, laws_markHard.fs), (149, laws_markBoolS.fs), (151, laws_markDisk.fs), (152, laws_markRpcS.fs)], []⟩
noncomputable def H : List LC := []
noncomputable def code (i : Nat) : Code := (loopsOf (bodyOf Tryz.f47)).getD i .skip
theorem run (x0 : (Int × ((Int × (Int × (Log × (((List Row) × ((List Maker) × ((List Group) × (Int × ((List Int) × ((List Answer) × Unit)))))) × Unit)))) × (Int × ((List Bool) × ((List Int) × ((List Int) × (Int × (((List Row) × ((List Maker) × ((List Group) × (Int × ((List Int) × ((List Answer) × Unit)))))) × (Disk × ((List (Int × (Int × (Int × (Int × (Int × (Int × (Int × ((List Entry) × (Bool × ((List UInt8) × Unit))))))))))) × Unit))))))))))) (x1 : Int) : runFn E H Tryz.f47 fs.ps fs.rs (x0, (x1, ())) = raw x0 x1 := by kernel_rfl
theorem env : EnvOk Tryz.prog E := env_cons laws_markIntS.known (env_cons laws_markKeep.known (env_cons laws_markHard.known (env_cons laws_markBoolS.known (env_cons laws_markDisk.known (env_cons laws_markRpcS.known (env_nil tys))))))
theorem loops : ∀ c, Tryz.f47.body = some c → LoopsOk E H c := loops_none (by kernel_rfl)
theorem sound : Sound Tryz.prog 47 fs := fn_sound env mixed Tryz.func47 H loops fun ⟨x0, x1, ()⟩ hw hp => (run x0 x1).trans (eq x0 x1 hw hp)
theorem known : Seen Tryz.prog 47 fs := ⟨sound, _, Tryz.func47, by kernel_rfl, by kernel_rfl⟩
end laws_markPeer
namespace laws_toCmd
noncomputable def fs : FS := ⟨[(.val (.pair (.int .i64) (.pair (.int .i64) (.pair (.int .i64) (.pair (.int .i64) tyS19)))) .f)], [((.pair (.int .i64) (.pair (.int .i64) (.pair (.int .i64) (.pair (.int .i64) tyS19)))), .o)], fun _ => true, fun x => ((), ((laws_toCmd x.1), ()))⟩
noncomputable def E : Env := ⟨theta, [], []⟩
noncomputable def H : List LC := []
noncomputable def code (i : Nat) : Code := (loopsOf (bodyOf Tryz.f178)).getD i .skip
theorem run (x0 : Cmd) : runFn E H Tryz.f178 fs.ps fs.rs (x0, ()) = raw x0 := by kernel_rfl
theorem env : EnvOk Tryz.prog E := env_nil tys
theorem loops : ∀ c, Tryz.f178.body = some c → LoopsOk E H c := loops_none (by kernel_rfl)
theorem sound : Sound Tryz.prog 178 fs := fn_sound env mixed Tryz.func178 H loops fun ⟨x0, ()⟩ hw _ => (run x0).trans (eq x0 hw)
theorem known : Seen Tryz.prog 178 fs := ⟨sound, _, Tryz.func178, by kernel_rfl, by kernel_rfl⟩
end laws_toCmd
namespace laws_toEntry
noncomputable def fs : FS := ⟨[(.val tyS12 .f)], [(tyS12, .o)], fun _ => true, fun x => ((), ((laws_toEntry x.1), ()))⟩
noncomputable def E : Env := ⟨theta, [(178, laws_toCmd.fs)], []⟩
noncomputable def H : List LC := []
noncomputable def code (i : Nat) : Code := (loopsOf (bodyOf Tryz.f266)).getD i .skip
theorem run (x0 : Entry) : runFn E H Tryz.f266 fs.ps fs.rs (x0, ()) = raw x0 := by kernel_rfl
theorem env : EnvOk Tryz.prog E := env_cons laws_toCmd.known (env_nil tys)
theorem loops : ∀ c, Tryz.f266.body = some c → LoopsOk E H c := loops_none (by kernel_rfl)
theorem sound : Sound Tryz.prog 266 fs := fn_sound env mixed Tryz.func266 H loops fun ⟨x0, ()⟩ hw _ => (run x0).trans (eq x0 hw)
theorem known : Seen Tryz.prog 266 fs := ⟨sound, _, Tryz.func266, by kernel_rfl, by kernel_rfl⟩
end laws_toEntry
namespace laws_toEntryS
noncomputable def fs : FS := ⟨[(.val (.sl 293 tyS12) .f)], [((.sl 167 tyS12), .o)], fun x => laws_toEntryS.pre x.1, fun x => ((), ((laws_toEntryS x.1), ()))⟩
noncomputable def E : Env := ⟨theta, [(266, laws_toEntry.fs)], []⟩
noncomputable def sh3 : ShSt := ⟨[(.one (.dat (.sl 293 tyS12))), uu, uu, (.one (.arr 20000000)), ui, uu, uu, uu, uu, uu, uu, uu, uu, uu, uu, uu, uu, uu, uu, uu, uu, uu, uu], [(20000000, (.arr 167 tyS12))]⟩
noncomputable def outs3 : List OutC := [⟨(.exit 0), ⟨0, [3], []⟩, ⟨[uu, uu, uu, (.one (.arr 20000000)), uu, uu, uu, uu, uu, uu, uu, uu, uu, uu, uu, uu, uu, uu, uu, uu, uu, uu, uu], [(20000000, (.arr 167 tyS12))]⟩⟩]
noncomputable def L3 : LC := ⟨3, ⟨3, [0, 3, 4], []⟩, sh3, outs3, pre3, fn3⟩
noncomputable def H : List LC := [L3]
noncomputable def code (i : Nat) : Code := (loopsOf (bodyOf Tryz.f172)).getD i .skip
theorem step3 (x1 : (List Entry)) (x2 : Int) (x3 : (List Entry)) : L3.step E H (code 0) (x1, (x2, (x3, ()))) = raw3 x1 x2 x3 := by kernel_rfl
theorem lok3 : LoopOk E H (code 0) L3 := ⟨mu3, fun ⟨x1, x2, x3, ()⟩ hp => rounds_ok (step3 x1 x2 x3) (ok3 x1 x2 x3 hp)⟩
theorem run (x0 : (List Entry)) : runFn E H Tryz.f172 fs.ps fs.rs (x0, ()) = raw x0 := by kernel_rfl
theorem env : EnvOk Tryz.prog E := env_cons laws_toEntry.known (env_nil tys)
theorem loops : ∀ c, Tryz.f172.body = some c → LoopsOk E H c := loops_of (by kernel_rfl) (by kernel_rfl) fun i l h => match i, h with
  | 0, h => Option.some.inj h ▸ lok3
  | n + 1, h => by cases h
theorem sound : Sound Tryz.prog 172 fs := fn_sound env mixed Tryz.func172 H loops fun ⟨x0, ()⟩ hw hp => (run x0).trans (eq x0 hw hp)
theorem known : Seen Tryz.prog 172 fs := ⟨sound, _, Tryz.func172, by kernel_rfl, by kernel_rfl⟩
end laws_toEntryS
namespace laws_toLog
noncomputable def fs : FS := ⟨[(.val (.pair (.int .i64) (.pair (.int .i64) (.pair (.sl 293 tyS12) .unit))) .f)], [(tyS114, .o)], fun x => laws_toLog.pre x.1, fun x => ((), ((laws_toLog x.1), ()))⟩
noncomputable def E : Env := ⟨theta, [(172, laws_toEntryS.fs)], []⟩
noncomputable def H : List LC := []
noncomputable def code (i : Nat) : Code := (loopsOf (bodyOf Tryz.f261)).getD i .skip
theorem run (x0 : Log) : runFn E H Tryz.f261 fs.ps fs.rs (x0, ()) = raw x0 := by kernel_rfl
theorem env : EnvOk Tryz.prog E := env_cons laws_toEntryS.known (env_nil tys)
theorem loops : ∀ c, Tryz.f261.body = some c → LoopsOk E H c := loops_none (by kernel_rfl)
theorem sound : Sound Tryz.prog 261 fs := fn_sound env mixed Tryz.func261 H loops fun ⟨x0, ()⟩ hw hp => (run x0).trans (eq x0 hw hp)
theorem known : Seen Tryz.prog 261 fs := ⟨sound, _, Tryz.func261, by kernel_rfl, by kernel_rfl⟩
end laws_toLog
namespace laws_toItem
noncomputable def fs : FS := ⟨[(.val tyS16 .f)], [(tyS16, .o)], fun _ => true, fun x => ((), ((laws_toItem x.1), ()))⟩
noncomputable def E : Env := ⟨theta, [], []⟩
noncomputable def H : List LC := []
noncomputable def code (i : Nat) : Code := (loopsOf (bodyOf Tryz.f390)).getD i .skip
theorem run (x0 : Item) : runFn E H Tryz.f390 fs.ps fs.rs (x0, ()) = raw x0 := by kernel_rfl
theorem env : EnvOk Tryz.prog E := env_nil tys
theorem loops : ∀ c, Tryz.f390.body = some c → LoopsOk E H c := loops_none (by kernel_rfl)
theorem sound : Sound Tryz.prog 390 fs := fn_sound env mixed Tryz.func390 H loops fun ⟨x0, ()⟩ hw _ => (run x0).trans (eq x0 hw)
theorem known : Seen Tryz.prog 390 fs := ⟨sound, _, Tryz.func390, by kernel_rfl, by kernel_rfl⟩
end laws_toItem
namespace laws_toItemS
noncomputable def fs : FS := ⟨[(.val (.sl 380 tyS16) .f)], [((.sl 44 tyS16), .o)], fun x => laws_toItemS.pre x.1, fun x => ((), ((laws_toItemS x.1), ()))⟩
noncomputable def E : Env := ⟨theta, [(390, laws_toItem.fs)], []⟩
noncomputable def sh3 : ShSt := ⟨[(.one (.dat (.sl 380 tyS16))), uu, uu, (.one (.arr 20000000)), ui, uu, uu, uu, uu, uu, uu, uu, uu, uu, uu, uu, uu, uu, uu, uu, uu, uu, uu], [(20000000, (.arr 44 tyS16))]⟩
noncomputable def outs3 : List OutC := [⟨(.exit 0), ⟨0, [3], []⟩, ⟨[uu, uu, uu, (.one (.arr 20000000)), uu, uu, uu, uu, uu, uu, uu, uu, uu, uu, uu, uu, uu, uu, uu, uu, uu, uu, uu], [(20000000, (.arr 44 tyS16))]⟩⟩]
noncomputable def L3 : LC := ⟨3, ⟨3, [0, 3, 4], []⟩, sh3, outs3, pre3, fn3⟩
noncomputable def H : List LC := [L3]
noncomputable def code (i : Nat) : Code := (loopsOf (bodyOf Tryz.f359)).getD i .skip
theorem step3 (x1 : (List Item)) (x2 : Int) (x3 : (List Item)) : L3.step E H (code 0) (x1, (x2, (x3, ()))) = raw3 x1 x2 x3 := by kernel_rfl
theorem lok3 : LoopOk E H (code 0) L3 := ⟨mu3, fun ⟨x1, x2, x3, ()⟩ hp => rounds_ok (step3 x1 x2 x3) (ok3 x1 x2 x3 hp)⟩
theorem run (x0 : (List Item)) : runFn E H Tryz.f359 fs.ps fs.rs (x0, ()) = raw x0 := by kernel_rfl
theorem env : EnvOk Tryz.prog E := env_cons laws_toItem.known (env_nil tys)
theorem loops : ∀ c, Tryz.f359.body = some c → LoopsOk E H c := loops_of (by kernel_rfl) (by kernel_rfl) fun i l h => match i, h with
  | 0, h => Option.some.inj h ▸ lok3
  | n + 1, h => by cases h
theorem sound : Sound Tryz.prog 359 fs := fn_sound env mixed Tryz.func359 H loops fun ⟨x0, ()⟩ hw hp => (run x0).trans (eq x0 hw hp)
theorem known : Seen Tryz.prog 359 fs := ⟨sound, _, Tryz.func359, by kernel_rfl, by kernel_rfl⟩
end laws_toItemS
namespace laws_toRow
noncomputable def fs : FS := ⟨[(.val (.pair (.int .i64) (.pair (.int .i64) (.pair (.sl 380 tyS16) .unit))) .f)], [(tyS111, .o)], fun x => laws_toRow.pre x.1, fun x => ((), ((laws_toRow x.1), ()))⟩
noncomputable def E : Env := ⟨theta, [(359, laws_toItemS.fs)], []⟩
noncomputable def H : List LC := []
noncomputable def code (i : Nat) : Code := (loopsOf (bodyOf Tryz.f318)).getD i .skip
theorem run (x0 : Row) : runFn E H Tryz.f318 fs.ps fs.rs (x0, ()) = raw x0 := by kernel_rfl
theorem env : EnvOk Tryz.prog E := env_cons laws_toItemS.known (env_nil tys)
theorem loops : ∀ c, Tryz.f318.body = some c → LoopsOk E H c := loops_none (by kernel_rfl)
theorem sound : Sound Tryz.prog 318 fs := fn_sound env mixed Tryz.func318 H loops fun ⟨x0, ()⟩ hw hp => (run x0).trans (eq x0 hw hp)
theorem known : Seen Tryz.prog 318 fs := ⟨sound, _, Tryz.func318, by kernel_rfl, by kernel_rfl⟩
end laws_toRow
end Go.Aw.Pl
