/-
  These laws hold: FnExactTold: each answers true for every input, and nothing of its arguments is changed. Conditions: those of the given statements alone.
  Printed by a program of the proof's author: what each function does, by the plain machine (the texts Aw.. and Ax..), and the rows at the end.
-/
import Derived.Test.YtpcdhadfpeojkaaRows
import Derived.JoinedOf
import Derived.Test.YtpcdhadfpeojkaaPtb
namespace Go.Aw.Pl
open Go Go.Aw Go.Proofs
set_option linter.unusedVariables false
set_option maxRecDepth 20000
noncomputable abbrev uu : ShS := .one .undef
noncomputable abbrev ui : ShS := .one (.dat (.int .i64))
abbrev tyS14 : Ty := .pair (.int .i64) (.pair (.int .i64) .unit)
abbrev tyS15 : Ty := .pair (.int .i64) (.pair (.int .i64) (.pair .str (.pair .str .unit)))
abbrev tyS13 : Ty := .pair (.int .i64) (.pair (.int .i64) (.pair (.int .i64) (.pair (.int .i64) tyS15)))
abbrev tyS16 : Ty := .pair (.int .i64) (.pair (.int .i64) (.pair (.int .i64) (.pair (.int .i64) (.pair (.int .i64) (.pair (.int .i64) (.pair (.int .i64) (.pair (.sl 89 (.pair (.int .i64) (.pair tyS13 .unit))) (.pair .bool (.pair .str .unit)))))))))
abbrev tyS19 : Ty := .pair (.int .i64) (.pair (.int .i64) (.pair (.int .i64) (.pair (.int .i64) (.pair (.int .i64) (.pair (.int .i64) (.pair (.int .i64) (.pair (.sl 243 (.pair (.int .i64) (.pair tyS13 .unit))) (.pair .bool (.pair .str .unit)))))))))
abbrev tyS111 : Ty := .pair (.int .i64) (.pair (.sl 3 (.int .i64)) (.pair (.sl 3 (.int .i64)) (.pair (.sl 3 (.int .i64)) .unit)))
abbrev tyS112 : Ty := .pair (.int .i64) (.pair .str (.pair .str tyS14))
abbrev tyS113 : Ty := .pair (.int .i64) (.pair (.int .i64) (.pair tyS15 tyS14))
abbrev tyS114 : Ty := .pair (.int .i64) (.pair (.int .i64) (.pair (.int .i64) (.pair (.int .i64) (.pair (.sl 205 tyS14) .unit))))
abbrev tyS116 : Ty := .pair (.int .i64) (.pair (.int .i64) (.pair (.sl 89 (.pair (.int .i64) (.pair tyS13 .unit))) .unit))
abbrev tyS117 : Ty := .pair (.int .i64) (.pair (.int .i64) (.pair (.int .i64) (.pair (.int .i64) (.pair (.sl 301 tyS14) .unit))))
abbrev tyS18 : Ty := .pair (.sl 263 (.pair (.int .i64) (.pair (.int .i64) (.pair (.sl 298 tyS112) .unit)))) (.pair (.sl 267 tyS117) (.pair (.sl 269 tyS111) (.pair (.int .i64) (.pair (.sl 3 (.int .i64)) (.pair (.sl 170 tyS15) .unit)))))
abbrev tyS12 : Ty := .pair (.int .i64) (.pair (.pair (.int .i64) (.pair (.int .i64) (.pair (.pair (.int .i64) (.pair (.int .i64) (.pair (.sl 243 (.pair (.int .i64) (.pair tyS13 .unit))) .unit))) (.pair tyS18 .unit)))) (.pair (.int .i64) (.pair (.sl 4 .bool) (.pair (.sl 3 (.int .i64)) (.pair (.sl 3 (.int .i64)) (.pair (.int .i64) (.pair tyS18 (.pair (.pair (.sl 5 (.int .u8)) (.pair (.int .i64) .unit)) (.pair (.sl 166 tyS19) .unit)))))))))
abbrev tyS115 : Ty := .pair (.pair (.int .i64) (.pair (.int .i64) tyS14)) (.pair (.int .i64) (.pair (.sl 163 tyS12) (.pair (.sl 166 tyS19) (.pair (.sl 168 tyS13) (.pair (.sl 3 (.int .i64)) (.pair (.sl 172 tyS113) (.pair (.sl 168 tyS13) .unit)))))))
abbrev tyS118 : Ty := .pair (.int .i64) (.pair (.int .i64) (.pair (.sl 200 tyS112) .unit))
abbrev tyS17 : Ty := .pair (.sl 197 tyS118) (.pair (.sl 203 tyS114) (.pair (.sl 207 tyS111) (.pair (.int .i64) (.pair (.sl 3 (.int .i64)) (.pair (.sl 101 tyS15) .unit)))))
abbrev tyS11 : Ty := .pair (.int .i64) (.pair (.pair (.int .i64) (.pair (.int .i64) (.pair tyS116 (.pair tyS17 .unit)))) (.pair (.int .i64) (.pair (.sl 4 .bool) (.pair (.sl 3 (.int .i64)) (.pair (.sl 3 (.int .i64)) (.pair (.int .i64) (.pair tyS17 (.pair (.pair (.sl 5 (.int .u8)) (.pair (.int .i64) .unit)) (.pair (.sl 181 tyS16) .unit)))))))))
abbrev tyS110 : Ty := .pair (.pair (.int .i64) (.pair (.int .i64) tyS14)) (.pair (.int .i64) (.pair (.sl 178 tyS11) (.pair (.sl 181 tyS16) (.pair (.sl 87 tyS13) (.pair (.sl 3 (.int .i64)) (.pair (.sl 103 tyS113) (.pair (.sl 87 tyS13) .unit)))))))
noncomputable def theta : List (TypeId × Ty) := [(1, .op),
  (2, (.int .i64)),
  (3, (.int .i64)),
  (4, .bool),
  (5, (.int .u8)),
  (6, (.int .u8)),
  (7, (.pair (.int .i64) (.pair (.int .i64) (.pair .bool (.pair (.int .u8) .unit))))),
  (8, (.pair (.int .i64) (.pair (.int .i64) (.pair .bool (.pair (.int .u8) .unit))))),
  (9, .str),
  (10, .str),
  (11, .str),
  (12, (.int .u64)),
  (15, .op),
  (16, .op),
  (17, .op),
  (21, (.int .i32)),
  (22, (.sl 5 (.int .u8))),
  (23, .op),
  (24, (.pair (.sl 5 (.int .u8)) (.pair (.int .i64) .unit))),
  (25, (.pair (.sl 5 (.int .u8)) (.pair (.int .i64) .unit))),
  (27, .op),
  (28, .op),
  (30, .op),
  (32, .op),
  (33, .op),
  (34, .op),
  (35, .op),
  (37, .op),
  (38, (.sl 89 (.pair (.int .i64) (.pair tyS13 .unit)))),
  (39, (.pair (.int .i64) (.pair (.int .i64) (.pair (.int .i64) (.pair (.int .i64) (.pair (.sl 89 (.pair (.int .i64) (.pair tyS13 .unit))) (.pair .str .unit))))))),
  (40, (.pair (.int .i64) (.pair (.int .i64) (.pair (.int .i64) (.pair (.int .i64) (.pair (.sl 89 (.pair (.int .i64) (.pair tyS13 .unit))) (.pair .str .unit))))))),
  (42, .op),
  (43, .op),
  (44, .op),
  (45, (.pair (.int .i64) (.pair (.int .i64) tyS14))),
  (46, (.pair (.int .i64) (.pair (.int .i64) tyS14))),
  (47, (.sl 163 tyS12)),
  (48, (.sl 166 tyS19)),
  (49, (.sl 168 tyS13)),
  (50, (.sl 3 (.int .i64))),
  (51, (.sl 172 tyS113)),
  (52, tyS115),
  (53, tyS115),
  (54, .op),
  (55, .op),
  (56, (.pair (.int .i64) (.pair (.int .i64) tyS14))),
  (57, (.sl 178 tyS11)),
  (58, (.sl 181 tyS16)),
  (59, (.sl 87 tyS13)),
  (60, (.sl 103 tyS113)),
  (61, tyS110),
  (62, tyS110),
  (63, .op),
  (64, .op),
  (65, .op),
  (66, .op),
  (67, .op),
  (68, .op),
  (69, .op),
  (70, .op),
  (71, .op),
  (72, .op),
  (73, .op),
  (74, .op),
  (76, .op),
  (78, .op),
  (79, .op),
  (80, .op),
  (81, (.pair (.sl 5 (.int .u8)) (.pair (.int .i64) (.pair .bool .unit)))),
  (82, (.pair (.sl 5 (.int .u8)) (.pair (.int .i64) (.pair .bool .unit)))),
  (83, .op),
  (84, .op),
  (85, .op),
  (86, tyS13),
  (87, tyS13),
  (88, (.pair (.int .i64) (.pair tyS13 .unit))),
  (89, (.pair (.int .i64) (.pair tyS13 .unit))),
  (90, .op),
  (91, .op),
  (92, .op),
  (93, .op),
  (94, (.int .u64)),
  (95, .op),
  (96, .op),
  (97, .op),
  (98, .op),
  (99, .op),
  (100, tyS15),
  (101, tyS15),
  (102, tyS113),
  (103, tyS113),
  (104, .op),
  (105, .op),
  (106, .op),
  (107, .op),
  (108, .op),
  (109, .op),
  (110, .op),
  (111, .op),
  (112, .op),
  (113, .op),
  (114, .op),
  (115, .op),
  (116, .op),
  (117, .op),
  (118, (.pair (.sl 5 (.int .u8)) tyS14)),
  (119, (.pair (.sl 5 (.int .u8)) tyS14)),
  (120, .op),
  (121, .op),
  (122, (.sl 197 tyS118)),
  (123, (.sl 203 tyS114)),
  (124, (.sl 207 tyS111)),
  (125, (.sl 101 tyS15)),
  (126, tyS17),
  (127, tyS17),
  (129, .op),
  (130, .op),
  (131, .op),
  (132, .op),
  (133, (.pair (.sl 5 (.int .u8)) (.pair (.int .i64) (.pair .bool .unit)))),
  (134, (.pair (.sl 5 (.int .u8)) (.pair (.int .i64) (.pair .bool .unit)))),
  (135, .op),
  (136, .op),
  (137, .op),
  (138, .op),
  (139, .op),
  (140, .op),
  (141, .op),
  (142, .op),
  (143, .op),
  (144, .op),
  (145, .op),
  (146, (.sl 22 (.sl 5 (.int .u8)))),
  (147, .op),
  (148, .op),
  (149, (.sl 243 (.pair (.int .i64) (.pair tyS13 .unit)))),
  (150, (.pair (.int .i64) (.pair (.int .i64) (.pair (.sl 243 (.pair (.int .i64) (.pair tyS13 .unit))) .unit)))),
  (151, (.pair (.int .i64) (.pair (.int .i64) (.pair (.sl 243 (.pair (.int .i64) (.pair tyS13 .unit))) .unit)))),
  (152, (.sl 263 (.pair (.int .i64) (.pair (.int .i64) (.pair (.sl 298 tyS112) .unit))))),
  (153, (.sl 267 tyS117)),
  (154, (.sl 269 tyS111)),
  (155, (.sl 170 tyS15)),
  (156, tyS18),
  (157, tyS18),
  (158, (.pair (.int .i64) (.pair (.int .i64) (.pair (.pair (.int .i64) (.pair (.int .i64) (.pair (.sl 243 (.pair (.int .i64) (.pair tyS13 .unit))) .unit))) (.pair tyS18 .unit))))),
  (159, (.pair (.int .i64) (.pair (.int .i64) (.pair (.pair (.int .i64) (.pair (.int .i64) (.pair (.sl 243 (.pair (.int .i64) (.pair tyS13 .unit))) .unit))) (.pair tyS18 .unit))))),
  (160, (.sl 4 .bool)),
  (161, (.pair (.sl 5 (.int .u8)) (.pair (.int .i64) .unit))),
  (162, tyS12),
  (163, tyS12),
  (164, .op),
  (165, tyS19),
  (166, tyS19),
  (167, .op),
  (168, tyS13),
  (169, .op),
  (170, tyS15),
  (171, tyS113),
  (172, tyS113),
  (173, tyS116),
  (174, tyS116),
  (175, (.pair (.int .i64) (.pair (.int .i64) (.pair tyS116 (.pair tyS17 .unit))))),
  (176, (.pair (.int .i64) (.pair (.int .i64) (.pair tyS116 (.pair tyS17 .unit))))),
  (177, tyS11),
  (178, tyS11),
  (179, .op),
  (180, tyS16),
  (181, tyS16),
  (182, .op),
  (183, .op),
  (184, .op),
  (185, .op),
  (186, .op),
  (187, .op),
  (188, .op),
  (189, .op),
  (190, .op),
  (191, .op),
  (193, .op),
  (194, .op),
  (195, (.sl 200 tyS112)),
  (196, tyS118),
  (197, tyS118),
  (198, .op),
  (199, tyS112),
  (200, tyS112),
  (201, (.sl 205 tyS14)),
  (202, tyS114),
  (203, tyS114),
  (204, tyS14),
  (205, tyS14),
  (206, tyS111),
  (207, tyS111),
  (208, .op),
  (210, .op),
  (211, .op),
  (212, .op),
  (213, .op),
  (214, .op),
  (215, .op),
  (216, .op),
  (217, .op),
  (218, .op),
  (219, .op),
  (220, .op),
  (221, .op),
  (222, .op),
  (223, .op),
  (224, .op),
  (225, .op),
  (226, .op),
  (227, .op),
  (228, .op),
  (229, .op),
  (230, .op),
  (231, .op),
  (232, .op),
  (234, .op),
  (235, .op),
  (236, .op),
  (237, .op),
  (238, .op),
  (239, .op),
  (240, .op),
  (241, .op),
  (242, (.pair (.int .i64) (.pair tyS13 .unit))),
  (243, (.pair (.int .i64) (.pair tyS13 .unit))),
  (244, .op),
  (245, .op),
  (246, .op),
  (247, .op),
  (248, .op),
  (249, .op),
  (250, .op),
  (251, .op),
  (252, .op),
  (253, .op),
  (254, .op),
  (255, .op),
  (256, .op),
  (257, .op),
  (258, .op),
  (259, .op),
  (260, .op),
  (261, (.sl 298 tyS112)),
  (262, (.pair (.int .i64) (.pair (.int .i64) (.pair (.sl 298 tyS112) .unit)))),
  (263, (.pair (.int .i64) (.pair (.int .i64) (.pair (.sl 298 tyS112) .unit)))),
  (264, .op),
  (265, (.sl 301 tyS14)),
  (266, tyS117),
  (267, tyS117),
  (268, .op),
  (269, tyS111),
  (270, .op),
  (271, .op),
  (272, .op),
  (273, .op),
  (274, .op),
  (275, .op),
  (276, .op),
  (277, .op),
  (278, .op),
  (279, .op),
  (280, .op),
  (281, (.sl 9 .str)),
  (282, .op),
  (283, .op),
  (284, .op),
  (285, .op),
  (286, .op),
  (287, .op),
  (288, .op),
  (289, .op),
  (291, .op),
  (292, .op),
  (294, .op),
  (295, .op),
  (296, .op),
  (297, .op),
  (298, tyS112),
  (299, .op),
  (300, .op),
  (301, tyS14),
  (302, .op),
  (303, .op),
  (304, .op),
  (305, .op),
  (307, .op),
  (309, .op),
  (310, .op),
  (311, .op),
  (312, .op),
  (313, .op),
  (314, .op),
  (320, (.int .u32)),
  (321, (.int .u8)),
  (322, (.int .u8)),
  (323, .op),
  (324, .op),
  (325, (.int .i32)),
  (326, (.int .i32))]
theorem tys : ∀ t T, find theta t = some T → tyF Try.prog T (.t t) = true := tys_of (by kernel_rfl)
theorem mixed : Try.prog.follows .mixedOrders = true := by kernel_rfl
namespace laws_szCmd
noncomputable def fs : FS := ⟨[(.val tyS13 .f), (.val (.int .i64) .f)], [((.int .i64), .o)], fun x => laws_szCmd.pre x.1 x.2.1, fun x => ((), ((laws_szCmd x.1 x.2.1), ()))⟩
noncomputable def E : Env := ⟨theta, [], []⟩
noncomputable def H : List LC := []
noncomputable def code (i : Nat) : Code := (loopsOf (bodyOf Try.f96)).getD i .skip
theorem run (x0 : Cmd) (x1 : Int) : runFn E H Try.f96 fs.ps fs.rs (x0, (x1, ())) = raw x0 x1 := by kernel_rfl
theorem env : EnvOk Try.prog E := env_nil tys
theorem loops : ∀ c, Try.f96.body = some c → LoopsOk E H c := loops_none (by kernel_rfl)
theorem sound : Sound Try.prog 96 fs := fn_sound env mixed Try.func96 H loops fun ⟨x0, x1, ()⟩ hw hp => (run x0 x1).trans (eq x0 x1 hw hp)
theorem known : Seen Try.prog 96 fs := ⟨sound, _, Try.func96, by kernel_rfl, by kernel_rfl⟩
end laws_szCmd
namespace laws_szEntry
noncomputable def fs : FS := ⟨[(.val (.pair (.int .i64) (.pair tyS13 .unit)) .f), (.val (.int .i64) .f)], [((.int .i64), .o)], fun x => laws_szEntry.pre x.1 x.2.1, fun x => ((), ((laws_szEntry x.1 x.2.1), ()))⟩
noncomputable def E : Env := ⟨theta, [(96, laws_szCmd.fs)], []⟩
noncomputable def H : List LC := []
noncomputable def code (i : Nat) : Code := (loopsOf (bodyOf Try.f150)).getD i .skip
theorem run (x0 : Entry) (x1 : Int) : runFn E H Try.f150 fs.ps fs.rs (x0, (x1, ())) = raw x0 x1 := by kernel_rfl
theorem env : EnvOk Try.prog E := env_cons laws_szCmd.known (env_nil tys)
theorem loops : ∀ c, Try.f150.body = some c → LoopsOk E H c := loops_none (by kernel_rfl)
theorem sound : Sound Try.prog 150 fs := fn_sound env mixed Try.func150 H loops fun ⟨x0, x1, ()⟩ hw hp => (run x0 x1).trans (eq x0 x1 hw hp)
theorem known : Seen Try.prog 150 fs := ⟨sound, _, Try.func150, by kernel_rfl, by kernel_rfl⟩
end laws_szEntry
namespace laws_szEntryS
noncomputable def fs : FS := ⟨[(.val (.sl 243 (.pair (.int .i64) (.pair tyS13 .unit))) .f), (.val (.int .i64) .f)], [((.int .i64), .o)], fun x => laws_szEntryS.pre x.1 x.2.1, fun x => ((), ((laws_szEntryS x.1 x.2.1), ()))⟩
noncomputable def E : Env := ⟨theta, [(150, laws_szEntry.fs)], []⟩
noncomputable def sh5 : ShSt := ⟨[(.one (.dat (.sl 243 (.pair (.int .i64) (.pair tyS13 .unit))))), ui, uu, uu, uu, ui, uu, uu, uu, uu, uu, uu, uu, uu, uu, uu, uu, uu, uu, uu, uu, uu, uu, uu, uu, uu, uu], []⟩
noncomputable def outs5 : List OutC := [⟨.ret, ⟨0, [4], []⟩, ⟨[uu, uu, uu, uu, ui, uu, uu, uu, uu, uu, uu, uu, uu, uu, uu, uu, uu, uu, uu, uu, uu, uu, uu, uu, uu, uu, uu], []⟩⟩, ⟨(.exit 0), ⟨0, [1], []⟩, ⟨[uu, ui, uu, uu, uu, uu, uu, uu, uu, uu, uu, uu, uu, uu, uu, uu, uu, uu, uu, uu, uu, uu, uu, uu, uu, uu, uu], []⟩⟩]
noncomputable def L5 : LC := ⟨5, ⟨5, [0, 5, 1], []⟩, sh5, outs5, pre5, fn5⟩
noncomputable def H : List LC := [L5]
noncomputable def code (i : Nat) : Code := (loopsOf (bodyOf Try.f124)).getD i .skip
theorem step5 (x1 : (List Entry)) (x2 : Int) (x3 : Int) : L5.step E H (code 0) (x1, (x2, (x3, ()))) = raw5 x1 x2 x3 := by kernel_rfl
theorem lok5 : LoopOk E H (code 0) L5 := ⟨mu5, fun ⟨x1, x2, x3, ()⟩ hp => rounds_ok (step5 x1 x2 x3) (ok5 x1 x2 x3 hp)⟩
theorem run (x0 : (List Entry)) (x1 : Int) : runFn E H Try.f124 fs.ps fs.rs (x0, (x1, ())) = raw x0 x1 := by kernel_rfl
theorem env : EnvOk Try.prog E := env_cons laws_szEntry.known (env_nil tys)
theorem loops : ∀ c, Try.f124.body = some c → LoopsOk E H c := loops_of (by kernel_rfl) (by kernel_rfl) fun i l h => match i, h with
  | 0, h => Option.some.inj h ▸ lok5
  | n + 1, h => by cases h
theorem sound : Sound Try.prog 124 fs := fn_sound env mixed Try.func124 H loops fun ⟨x0, x1, ()⟩ hw hp => (run x0 x1).trans (eq x0 x1 hw hp)
theorem known : Seen Try.prog 124 fs := ⟨sound, _, Try.func124, by kernel_rfl, by kernel_rfl⟩
end laws_szEntryS
namespace laws_szLog
noncomputable def fs : FS := ⟨[(.val (.pair (.int .i64) (.pair (.int .i64) (.pair (.sl 243 (.pair (.int .i64) (.pair tyS13 .unit))) .unit))) .f), (.val (.int .i64) .f)], [((.int .i64), .o)], fun x => laws_szLog.pre x.1 x.2.1, fun x => ((), ((laws_szLog x.1 x.2.1), ()))⟩
noncomputable def E : Env := ⟨theta, [(124, laws_szEntryS.fs)], []⟩
noncomputable def H : List LC := []
noncomputable def code (i : Nat) : Code := (loopsOf (bodyOf Try.f144)).getD i .skip
theorem run (x0 : Log) (x1 : Int) : runFn E H Try.f144 fs.ps fs.rs (x0, (x1, ())) = raw x0 x1 := by kernel_rfl
theorem env : EnvOk Try.prog E := env_cons laws_szEntryS.known (env_nil tys)
theorem loops : ∀ c, Try.f144.body = some c → LoopsOk E H c := loops_none (by kernel_rfl)
theorem sound : Sound Try.prog 144 fs := fn_sound env mixed Try.func144 H loops fun ⟨x0, x1, ()⟩ hw hp => (run x0 x1).trans (eq x0 x1 hw hp)
theorem known : Seen Try.prog 144 fs := ⟨sound, _, Try.func144, by kernel_rfl, by kernel_rfl⟩
end laws_szLog
namespace laws_szItem
noncomputable def fs : FS := ⟨[(.val tyS112 .f), (.val (.int .i64) .f)], [((.int .i64), .o)], fun x => laws_szItem.pre x.1 x.2.1, fun x => ((), ((laws_szItem x.1 x.2.1), ()))⟩
noncomputable def E : Env := ⟨theta, [], []⟩
noncomputable def H : List LC := []
noncomputable def code (i : Nat) : Code := (loopsOf (bodyOf Try.f201)).getD i .skip
theorem run (x0 : Item) (x1 : Int) : runFn E H Try.f201 fs.ps fs.rs (x0, (x1, ())) = raw x0 x1 := by kernel_rfl
theorem env : EnvOk Try.prog E := env_nil tys
theorem loops : ∀ c, Try.f201.body = some c → LoopsOk E H c := loops_none (by kernel_rfl)
theorem sound : Sound Try.prog 201 fs := fn_sound env mixed Try.func201 H loops fun ⟨x0, x1, ()⟩ hw hp => (run x0 x1).trans (eq x0 x1 hw hp)
theorem known : Seen Try.prog 201 fs := ⟨sound, _, Try.func201, by kernel_rfl, by kernel_rfl⟩
end laws_szItem
namespace laws_szItemS
noncomputable def fs : FS := ⟨[(.val (.sl 298 tyS112) .f), (.val (.int .i64) .f)], [((.int .i64), .o)], fun x => laws_szItemS.pre x.1 x.2.1, fun x => ((), ((laws_szItemS x.1 x.2.1), ()))⟩
noncomputable def E : Env := ⟨theta, [(201, laws_szItem.fs)], []⟩
noncomputable def sh5 : ShSt := ⟨[(.one (.dat (.sl 298 tyS112))), ui, uu, uu, uu, ui, uu, uu, uu, uu, uu, uu, uu, uu, uu, uu, uu, uu, uu, uu, uu, uu, uu, uu, uu, uu, uu], []⟩
noncomputable def outs5 : List OutC := [⟨.ret, ⟨0, [4], []⟩, ⟨[uu, uu, uu, uu, ui, uu, uu, uu, uu, uu, uu, uu, uu, uu, uu, uu, uu, uu, uu, uu, uu, uu, uu, uu, uu, uu, uu], []⟩⟩, ⟨(.exit 0), ⟨0, [1], []⟩, ⟨[uu, ui, uu, uu, uu, uu, uu, uu, uu, uu, uu, uu, uu, uu, uu, uu, uu, uu, uu, uu, uu, uu, uu, uu, uu, uu, uu], []⟩⟩]
noncomputable def L5 : LC := ⟨5, ⟨5, [0, 5, 1], []⟩, sh5, outs5, pre5, fn5⟩
noncomputable def H : List LC := [L5]
noncomputable def code (i : Nat) : Code := (loopsOf (bodyOf Try.f185)).getD i .skip
theorem step5 (x1 : (List Item)) (x2 : Int) (x3 : Int) : L5.step E H (code 0) (x1, (x2, (x3, ()))) = raw5 x1 x2 x3 := by kernel_rfl
theorem lok5 : LoopOk E H (code 0) L5 := ⟨mu5, fun ⟨x1, x2, x3, ()⟩ hp => rounds_ok (step5 x1 x2 x3) (ok5 x1 x2 x3 hp)⟩
theorem run (x0 : (List Item)) (x1 : Int) : runFn E H Try.f185 fs.ps fs.rs (x0, (x1, ())) = raw x0 x1 := by kernel_rfl
theorem env : EnvOk Try.prog E := env_cons laws_szItem.known (env_nil tys)
theorem loops : ∀ c, Try.f185.body = some c → LoopsOk E H c := loops_of (by kernel_rfl) (by kernel_rfl) fun i l h => match i, h with
  | 0, h => Option.some.inj h ▸ lok5
  | n + 1, h => by cases h
theorem sound : Sound Try.prog 185 fs := fn_sound env mixed Try.func185 H loops fun ⟨x0, x1, ()⟩ hw hp => (run x0 x1).trans (eq x0 x1 hw hp)
theorem known : Seen Try.prog 185 fs := ⟨sound, _, Try.func185, by kernel_rfl, by kernel_rfl⟩
end laws_szItemS
namespace laws_szRow
noncomputable def fs : FS := ⟨[(.val (.pair (.int .i64) (.pair (.int .i64) (.pair (.sl 298 tyS112) .unit))) .f), (.val (.int .i64) .f)], [((.int .i64), .o)], fun x => laws_szRow.pre x.1 x.2.1, fun x => ((), ((laws_szRow x.1 x.2.1), ()))⟩
noncomputable def E : Env := ⟨theta, [(185, laws_szItemS.fs)], []⟩
noncomputable def H : List LC := []
noncomputable def code (i : Nat) : Code := (loopsOf (bodyOf Try.f169)).getD i .skip
theorem run (x0 : Row) (x1 : Int) : runFn E H Try.f169 fs.ps fs.rs (x0, (x1, ())) = raw x0 x1 := by kernel_rfl
theorem env : EnvOk Try.prog E := env_cons laws_szItemS.known (env_nil tys)
theorem loops : ∀ c, Try.f169.body = some c → LoopsOk E H c := loops_none (by kernel_rfl)
theorem sound : Sound Try.prog 169 fs := fn_sound env mixed Try.func169 H loops fun ⟨x0, x1, ()⟩ hw hp => (run x0 x1).trans (eq x0 x1 hw hp)
theorem known : Seen Try.prog 169 fs := ⟨sound, _, Try.func169, by kernel_rfl, by kernel_rfl⟩
end laws_szRow
namespace laws_szRowS
noncomputable def fs : FS := ⟨[(.val (.sl 263 (.pair (.int .i64) (.pair (.int .i64) (.pair (.sl 298 tyS112) .unit)))) .f), (.val (.int .i64) .f)], [((.int .i64), .o)], fun x => laws_szRowS.pre x.1 x.2.1, fun x => ((), ((laws_szRowS x.1 x.2.1), ()))⟩
noncomputable def E : Env := ⟨theta, [(169, laws_szRow.fs)], []⟩
noncomputable def sh5 : ShSt := ⟨[(.one (.dat (.sl 263 (.pair (.int .i64) (.pair (.int .i64) (.pair (.sl 298 tyS112) .unit)))))), ui, uu, uu, uu, ui, uu, uu, uu, uu, uu, uu, uu, uu, uu, uu, uu, uu, uu, uu, uu, uu, uu, uu, uu, uu, uu], []⟩
noncomputable def outs5 : List OutC := [⟨.ret, ⟨0, [4], []⟩, ⟨[uu, uu, uu, uu, ui, uu, uu, uu, uu, uu, uu, uu, uu, uu, uu, uu, uu, uu, uu, uu, uu, uu, uu, uu, uu, uu, uu], []⟩⟩, ⟨(.exit 0), ⟨0, [1], []⟩, ⟨[uu, ui, uu, uu, uu, uu, uu, uu, uu, uu, uu, uu, uu, uu, uu, uu, uu, uu, uu, uu, uu, uu, uu, uu, uu, uu, uu], []⟩⟩]
noncomputable def L5 : LC := ⟨5, ⟨5, [0, 5, 1], []⟩, sh5, outs5, pre5, fn5⟩
noncomputable def H : List LC := [L5]
noncomputable def code (i : Nat) : Code := (loopsOf (bodyOf Try.f145)).getD i .skip
theorem step5 (x1 : (List Row)) (x2 : Int) (x3 : Int) : L5.step E H (code 0) (x1, (x2, (x3, ()))) = raw5 x1 x2 x3 := by kernel_rfl
theorem lok5 : LoopOk E H (code 0) L5 := ⟨mu5, fun ⟨x1, x2, x3, ()⟩ hp => rounds_ok (step5 x1 x2 x3) (ok5 x1 x2 x3 hp)⟩
theorem run (x0 : (List Row)) (x1 : Int) : runFn E H Try.f145 fs.ps fs.rs (x0, (x1, ())) = raw x0 x1 := by kernel_rfl
theorem env : EnvOk Try.prog E := env_cons laws_szRow.known (env_nil tys)
theorem loops : ∀ c, Try.f145.body = some c → LoopsOk E H c := loops_of (by kernel_rfl) (by kernel_rfl) fun i l h => match i, h with
  | 0, h => Option.some.inj h ▸ lok5
  | n + 1, h => by cases h
theorem sound : Sound Try.prog 145 fs := fn_sound env mixed Try.func145 H loops fun ⟨x0, x1, ()⟩ hw hp => (run x0 x1).trans (eq x0 x1 hw hp)
theorem known : Seen Try.prog 145 fs := ⟨sound, _, Try.func145, by kernel_rfl, by kernel_rfl⟩
end laws_szRowS
namespace laws_szMarkS
noncomputable def fs : FS := ⟨[(.val (.sl 301 tyS14) .f), (.val (.int .i64) .f)], [((.int .i64), .o)], fun x => laws_szMarkS.pre x.1 x.2.1, fun x => ((), ((laws_szMarkS x.1 x.2.1), ()))⟩
noncomputable def E : Env := ⟨theta, [], []⟩
noncomputable def H : List LC := []
noncomputable def code (i : Nat) : Code := (loopsOf (bodyOf Try.f186)).getD i .skip
theorem run (x0 : (List Mark)) (x1 : Int) : runFn E H Try.f186 fs.ps fs.rs (x0, (x1, ())) = raw x0 x1 := by kernel_rfl
theorem env : EnvOk Try.prog E := env_nil tys
theorem loops : ∀ c, Try.f186.body = some c → LoopsOk E H c := loops_none (by kernel_rfl)
theorem sound : Sound Try.prog 186 fs := fn_sound env mixed Try.func186 H loops fun ⟨x0, x1, ()⟩ hw hp => (run x0 x1).trans (eq x0 x1 hw hp)
theorem known : Seen Try.prog 186 fs := ⟨sound, _, Try.func186, by kernel_rfl, by kernel_rfl⟩
end laws_szMarkS
namespace laws_szMaker
noncomputable def fs : FS := ⟨[(.val tyS117 .f), (.val (.int .i64) .f)], [((.int .i64), .o)], fun x => laws_szMaker.pre x.1 x.2.1, fun x => ((), ((laws_szMaker x.1 x.2.1), ()))⟩
noncomputable def E : Env := ⟨theta, [(186, laws_szMarkS.fs)], []⟩
noncomputable def H : List LC := []
noncomputable def code (i : Nat) : Code := (loopsOf (bodyOf Try.f170)).getD i .skip
theorem run (x0 : Maker) (x1 : Int) : runFn E H Try.f170 fs.ps fs.rs (x0, (x1, ())) = raw x0 x1 := by kernel_rfl
theorem env : EnvOk Try.prog E := env_cons laws_szMarkS.known (env_nil tys)
theorem loops : ∀ c, Try.f170.body = some c → LoopsOk E H c := loops_none (by kernel_rfl)
theorem sound : Sound Try.prog 170 fs := fn_sound env mixed Try.func170 H loops fun ⟨x0, x1, ()⟩ hw hp => (run x0 x1).trans (eq x0 x1 hw hp)
theorem known : Seen Try.prog 170 fs := ⟨sound, _, Try.func170, by kernel_rfl, by kernel_rfl⟩
end laws_szMaker
namespace laws_szMakerS
noncomputable def fs : FS := ⟨[(.val (.sl 267 tyS117) .f), (.val (.int .i64) .f)], [((.int .i64), .o)], fun x => laws_szMakerS.pre x.1 x.2.1, fun x => ((), ((laws_szMakerS x.1 x.2.1), ()))⟩
noncomputable def E : Env := ⟨theta, [(170, laws_szMaker.fs)], []⟩
noncomputable def sh5 : ShSt := ⟨[(.one (.dat (.sl 267 tyS117))), ui, uu, uu, uu, ui, uu, uu, uu, uu, uu, uu, uu, uu, uu, uu, uu, uu, uu, uu, uu, uu, uu, uu, uu, uu, uu], []⟩
noncomputable def outs5 : List OutC := [⟨.ret, ⟨0, [4], []⟩, ⟨[uu, uu, uu, uu, ui, uu, uu, uu, uu, uu, uu, uu, uu, uu, uu, uu, uu, uu, uu, uu, uu, uu, uu, uu, uu, uu, uu], []⟩⟩, ⟨(.exit 0), ⟨0, [1], []⟩, ⟨[uu, ui, uu, uu, uu, uu, uu, uu, uu, uu, uu, uu, uu, uu, uu, uu, uu, uu, uu, uu, uu, uu, uu, uu, uu, uu, uu], []⟩⟩]
noncomputable def L5 : LC := ⟨5, ⟨5, [0, 5, 1], []⟩, sh5, outs5, pre5, fn5⟩
noncomputable def H : List LC := [L5]
noncomputable def code (i : Nat) : Code := (loopsOf (bodyOf Try.f146)).getD i .skip
theorem step5 (x1 : (List Maker)) (x2 : Int) (x3 : Int) : L5.step E H (code 0) (x1, (x2, (x3, ()))) = raw5 x1 x2 x3 := by kernel_rfl
theorem lok5 : LoopOk E H (code 0) L5 := ⟨mu5, fun ⟨x1, x2, x3, ()⟩ hp => rounds_ok (step5 x1 x2 x3) (ok5 x1 x2 x3 hp)⟩
theorem run (x0 : (List Maker)) (x1 : Int) : runFn E H Try.f146 fs.ps fs.rs (x0, (x1, ())) = raw x0 x1 := by kernel_rfl
theorem env : EnvOk Try.prog E := env_cons laws_szMaker.known (env_nil tys)
theorem loops : ∀ c, Try.f146.body = some c → LoopsOk E H c := loops_of (by kernel_rfl) (by kernel_rfl) fun i l h => match i, h with
  | 0, h => Option.some.inj h ▸ lok5
  | n + 1, h => by cases h
theorem sound : Sound Try.prog 146 fs := fn_sound env mixed Try.func146 H loops fun ⟨x0, x1, ()⟩ hw hp => (run x0 x1).trans (eq x0 x1 hw hp)
theorem known : Seen Try.prog 146 fs := ⟨sound, _, Try.func146, by kernel_rfl, by kernel_rfl⟩
end laws_szMakerS
namespace laws_szIntS
noncomputable def fs : FS := ⟨[(.val (.sl 3 (.int .i64)) .f), (.val (.int .i64) .f)], [((.int .i64), .o)], fun x => laws_szIntS.pre x.1 x.2.1, fun x => ((), ((laws_szIntS x.1 x.2.1), ()))⟩
noncomputable def E : Env := ⟨theta, [], []⟩
noncomputable def H : List LC := []
noncomputable def code (i : Nat) : Code := (loopsOf (bodyOf Try.f57)).getD i .skip
theorem run (x0 : (List Int)) (x1 : Int) : runFn E H Try.f57 fs.ps fs.rs (x0, (x1, ())) = raw x0 x1 := by kernel_rfl
theorem env : EnvOk Try.prog E := env_nil tys
theorem loops : ∀ c, Try.f57.body = some c → LoopsOk E H c := loops_none (by kernel_rfl)
theorem sound : Sound Try.prog 57 fs := fn_sound env mixed Try.func57 H loops fun ⟨x0, x1, ()⟩ hw hp => (run x0 x1).trans (eq x0 x1 hw hp)
theorem known : Seen Try.prog 57 fs := ⟨sound, _, Try.func57, by kernel_rfl, by kernel_rfl⟩
end laws_szIntS
namespace laws_szGroup
noncomputable def fs : FS := ⟨[(.val tyS111 .f), (.val (.int .i64) .f)], [((.int .i64), .o)], fun x => laws_szGroup.pre x.1 x.2.1, fun x => ((), ((laws_szGroup x.1 x.2.1), ()))⟩
noncomputable def E : Env := ⟨theta, [(57, laws_szIntS.fs)], []⟩
noncomputable def H : List LC := []
noncomputable def code (i : Nat) : Code := (loopsOf (bodyOf Try.f171)).getD i .skip
theorem run (x0 : Group) (x1 : Int) : runFn E H Try.f171 fs.ps fs.rs (x0, (x1, ())) = raw x0 x1 := by kernel_rfl
theorem env : EnvOk Try.prog E := env_cons laws_szIntS.known (env_nil tys)
theorem loops : ∀ c, Try.f171.body = some c → LoopsOk E H c := loops_none (by kernel_rfl)
theorem sound : Sound Try.prog 171 fs := fn_sound env mixed Try.func171 H loops fun ⟨x0, x1, ()⟩ hw hp => (run x0 x1).trans (eq x0 x1 hw hp)
theorem known : Seen Try.prog 171 fs := ⟨sound, _, Try.func171, by kernel_rfl, by kernel_rfl⟩
end laws_szGroup
namespace laws_szGroupS
noncomputable def fs : FS := ⟨[(.val (.sl 269 tyS111) .f), (.val (.int .i64) .f)], [((.int .i64), .o)], fun x => laws_szGroupS.pre x.1 x.2.1, fun x => ((), ((laws_szGroupS x.1 x.2.1), ()))⟩
noncomputable def E : Env := ⟨theta, [(171, laws_szGroup.fs)], []⟩
noncomputable def sh5 : ShSt := ⟨[(.one (.dat (.sl 269 tyS111))), ui, uu, uu, uu, ui, uu, uu, uu, uu, uu, uu, uu, uu, uu, uu, uu, uu, uu, uu, uu, uu, uu, uu, uu, uu, uu], []⟩
noncomputable def outs5 : List OutC := [⟨.ret, ⟨0, [4], []⟩, ⟨[uu, uu, uu, uu, ui, uu, uu, uu, uu, uu, uu, uu, uu, uu, uu, uu, uu, uu, uu, uu, uu, uu, uu, uu, uu, uu, uu], []⟩⟩, ⟨(.exit 0), ⟨0, [1], []⟩, ⟨[uu, ui, uu, uu, uu, uu, uu, uu, uu, uu, uu, uu, uu, uu, uu, uu, uu, uu, uu, uu, uu, uu, uu, uu, uu, uu, uu], []⟩⟩]
noncomputable def L5 : LC := ⟨5, ⟨5, [0, 5, 1], []⟩, sh5, outs5, pre5, fn5⟩
noncomputable def H : List LC := [L5]
noncomputable def code (i : Nat) : Code := (loopsOf (bodyOf Try.f147)).getD i .skip
theorem step5 (x1 : (List Group)) (x2 : Int) (x3 : Int) : L5.step E H (code 0) (x1, (x2, (x3, ()))) = raw5 x1 x2 x3 := by kernel_rfl
theorem lok5 : LoopOk E H (code 0) L5 := ⟨mu5, fun ⟨x1, x2, x3, ()⟩ hp => rounds_ok (step5 x1 x2 x3) (ok5 x1 x2 x3 hp)⟩
theorem run (x0 : (List Group)) (x1 : Int) : runFn E H Try.f147 fs.ps fs.rs (x0, (x1, ())) = raw x0 x1 := by kernel_rfl
theorem env : EnvOk Try.prog E := env_cons laws_szGroup.known (env_nil tys)
theorem loops : ∀ c, Try.f147.body = some c → LoopsOk E H c := loops_of (by kernel_rfl) (by kernel_rfl) fun i l h => match i, h with
  | 0, h => Option.some.inj h ▸ lok5
  | n + 1, h => by cases h
theorem sound : Sound Try.prog 147 fs := fn_sound env mixed Try.func147 H loops fun ⟨x0, x1, ()⟩ hw hp => (run x0 x1).trans (eq x0 x1 hw hp)
theorem known : Seen Try.prog 147 fs := ⟨sound, _, Try.func147, by kernel_rfl, by kernel_rfl⟩
end laws_szGroupS
namespace laws_szAnswer
noncomputable def fs : FS := ⟨[(.val tyS15 .f), (.val (.int .i64) .f)], [((.int .i64), .o)], fun x => laws_szAnswer.pre x.1 x.2.1, fun x => ((), ((laws_szAnswer x.1 x.2.1), ()))⟩
noncomputable def E : Env := ⟨theta, [], []⟩
noncomputable def H : List LC := []
noncomputable def code (i : Nat) : Code := (loopsOf (bodyOf Try.f125)).getD i .skip
theorem run (x0 : Answer) (x1 : Int) : runFn E H Try.f125 fs.ps fs.rs (x0, (x1, ())) = raw x0 x1 := by kernel_rfl
theorem env : EnvOk Try.prog E := env_nil tys
theorem loops : ∀ c, Try.f125.body = some c → LoopsOk E H c := loops_none (by kernel_rfl)
theorem sound : Sound Try.prog 125 fs := fn_sound env mixed Try.func125 H loops fun ⟨x0, x1, ()⟩ hw hp => (run x0 x1).trans (eq x0 x1 hw hp)
theorem known : Seen Try.prog 125 fs := ⟨sound, _, Try.func125, by kernel_rfl, by kernel_rfl⟩
end laws_szAnswer
namespace laws_szAnswerS
noncomputable def fs : FS := ⟨[(.val (.sl 170 tyS15) .f), (.val (.int .i64) .f)], [((.int .i64), .o)], fun x => laws_szAnswerS.pre x.1 x.2.1, fun x => ((), ((laws_szAnswerS x.1 x.2.1), ()))⟩
noncomputable def E : Env := ⟨theta, [(125, laws_szAnswer.fs)], []⟩
noncomputable def sh5 : ShSt := ⟨[(.one (.dat (.sl 170 tyS15))), ui, uu, uu, uu, ui, uu, uu, uu, uu, uu, uu, uu, uu, uu, uu, uu, uu, uu, uu, uu, uu, uu, uu, uu, uu, uu], []⟩
noncomputable def outs5 : List OutC := [⟨.ret, ⟨0, [4], []⟩, ⟨[uu, uu, uu, uu, ui, uu, uu, uu, uu, uu, uu, uu, uu, uu, uu, uu, uu, uu, uu, uu, uu, uu, uu, uu, uu, uu, uu], []⟩⟩, ⟨(.exit 0), ⟨0, [1], []⟩, ⟨[uu, ui, uu, uu, uu, uu, uu, uu, uu, uu, uu, uu, uu, uu, uu, uu, uu, uu, uu, uu, uu, uu, uu, uu, uu, uu, uu], []⟩⟩]
noncomputable def L5 : LC := ⟨5, ⟨5, [0, 5, 1], []⟩, sh5, outs5, pre5, fn5⟩
noncomputable def H : List LC := [L5]
noncomputable def code (i : Nat) : Code := (loopsOf (bodyOf Try.f148)).getD i .skip
theorem step5 (x1 : (List Answer)) (x2 : Int) (x3 : Int) : L5.step E H (code 0) (x1, (x2, (x3, ()))) = raw5 x1 x2 x3 := by kernel_rfl
theorem lok5 : LoopOk E H (code 0) L5 := ⟨mu5, fun ⟨x1, x2, x3, ()⟩ hp => rounds_ok (step5 x1 x2 x3) (ok5 x1 x2 x3 hp)⟩
theorem run (x0 : (List Answer)) (x1 : Int) : runFn E H Try.f148 fs.ps fs.rs (x0, (x1, ())) = raw x0 x1 := by kernel_rfl
theorem env : EnvOk Try.prog E := env_cons laws_szAnswer.known (env_nil tys)
theorem loops : ∀ c, Try.f148.body = some c → LoopsOk E H c := loops_of (by kernel_rfl) (by kernel_rfl) fun i l h => match i, h with
  | 0, h => Option.some.inj h ▸ lok5
  | n + 1, h => by cases h
theorem sound : Sound Try.prog 148 fs := fn_sound env mixed Try.func148 H loops fun ⟨x0, x1, ()⟩ hw hp => (run x0 x1).trans (eq x0 x1 hw hp)
theorem known : Seen Try.prog 148 fs := ⟨sound, _, Try.func148, by kernel_rfl, by kernel_rfl⟩
end laws_szAnswerS
namespace laws_szKeep
noncomputable def fs : FS := ⟨[(.val tyS18 .f), (.val (.int .i64) .f)], [((.int .i64), .o)], fun x => laws_szKeep.pre x.1 x.2.1, fun x => ((), ((laws_szKeep x.1 x.2.1), ()))⟩
noncomputable def E : Env := ⟨theta, [(145, laws_szRowS.fs), (146, laws_szMakerS.fs), (57, laws_szIntS.fs), (147, laws_szGroupS.fs), (148, laws_szAnswerS.fs)], []⟩
noncomputable def H : List LC := []
noncomputable def code (i : Nat) : Code := (loopsOf (bodyOf Try.f122)).getD i .skip
theorem run (x0 : ((List Row) × ((List Maker) × ((List Group) × (Int × ((List Int) × ((List Answer) × Unit))))))) (x1 : Int) : runFn E H Try.f122 fs.ps fs.rs (x0, (x1, ())) = raw x0 x1 := by kernel_rfl
theorem env : EnvOk Try.prog E := env_cons laws_szRowS.known (env_cons laws_szMakerS.known (env_cons laws_szIntS.known (env_cons laws_szGroupS.known (env_cons laws_szAnswerS.known (env_nil tys)))))
theorem loops : ∀ c, Try.f122.body = some c → LoopsOk E H c := loops_none (by kernel_rfl)
theorem sound : Sound Try.prog 122 fs := fn_sound env mixed Try.func122 H loops fun ⟨x0, x1, ()⟩ hw hp => (run x0 x1).trans (eq x0 x1 hw hp)
theorem known : Seen Try.prog 122 fs := ⟨sound, _, Try.func122, by kernel_rfl, by kernel_rfl⟩
end laws_szKeep
namespace laws_szHard
noncomputable def fs : FS := ⟨[(.val (.pair (.int .i64) (.pair (.int .i64) (.pair (.pair (.int .i64) (.pair (.int .i64) (.pair (.sl 243 (.pair (.int .i64) (.pair tyS13 .unit))) .unit))) (.pair tyS18 .unit)))) .f), (.val (.int .i64) .f)], [((.int .i64), .o)], fun x => laws_szHard.pre x.1 x.2.1, fun x => ((), ((laws_szHard x.1 x.2.1), ()))⟩
noncomputable def E : Env := ⟨theta, [(144, laws_szLog.fs), (122, laws_szKeep.fs)], []⟩
noncomputable def H : List LC := []
noncomputable def code (i : Nat) : Code := (loopsOf (bodyOf Try.f120)).getD i .skip
theorem run (x0 : (Int × (Int × (Log × (((List Row) × ((List Maker) × ((List Group) × (Int × ((List Int) × ((List Answer) × Unit)))))) × Unit))))) (x1 : Int) : runFn E H Try.f120 fs.ps fs.rs (x0, (x1, ())) = raw x0 x1 := by kernel_rfl
theorem env : EnvOk Try.prog E := env_cons laws_szLog.known (env_cons laws_szKeep.known (env_nil tys))
theorem loops : ∀ c, Try.f120.body = some c → LoopsOk E H c := loops_none (by kernel_rfl)
theorem sound : Sound Try.prog 120 fs := fn_sound env mixed Try.func120 H loops fun ⟨x0, x1, ()⟩ hw hp => (run x0 x1).trans (eq x0 x1 hw hp)
theorem known : Seen Try.prog 120 fs := ⟨sound, _, Try.func120, by kernel_rfl, by kernel_rfl⟩
end laws_szHard
namespace laws_szBoolS
noncomputable def fs : FS := ⟨[(.val (.sl 4 .bool) .f), (.val (.int .i64) .f)], [((.int .i64), .o)], fun x => laws_szBoolS.pre x.1 x.2.1, fun x => ((), ((laws_szBoolS x.1 x.2.1), ()))⟩
noncomputable def E : Env := ⟨theta, [], []⟩
noncomputable def H : List LC := []
noncomputable def code (i : Nat) : Code := (loopsOf (bodyOf Try.f121)).getD i .skip
theorem run (x0 : (List Bool)) (x1 : Int) : runFn E H Try.f121 fs.ps fs.rs (x0, (x1, ())) = raw x0 x1 := by kernel_rfl
theorem env : EnvOk Try.prog E := env_nil tys
theorem loops : ∀ c, Try.f121.body = some c → LoopsOk E H c := loops_none (by kernel_rfl)
theorem sound : Sound Try.prog 121 fs := fn_sound env mixed Try.func121 H loops fun ⟨x0, x1, ()⟩ hw hp => (run x0 x1).trans (eq x0 x1 hw hp)
theorem known : Seen Try.prog 121 fs := ⟨sound, _, Try.func121, by kernel_rfl, by kernel_rfl⟩
end laws_szBoolS
namespace laws_szByteS
noncomputable def fs : FS := ⟨[(.val (.sl 5 (.int .u8)) .f), (.val (.int .i64) .f)], [((.int .i64), .o)], fun x => laws_szByteS.pre x.1 x.2.1, fun x => ((), ((laws_szByteS x.1 x.2.1), ()))⟩
noncomputable def E : Env := ⟨theta, [], []⟩
noncomputable def H : List LC := []
noncomputable def code (i : Nat) : Code := (loopsOf (bodyOf Try.f149)).getD i .skip
theorem run (x0 : (List Int)) (x1 : Int) : runFn E H Try.f149 fs.ps fs.rs (x0, (x1, ())) = raw x0 x1 := by kernel_rfl
theorem env : EnvOk Try.prog E := env_nil tys
theorem loops : ∀ c, Try.f149.body = some c → LoopsOk E H c := loops_none (by kernel_rfl)
theorem sound : Sound Try.prog 149 fs := fn_sound env mixed Try.func149 H loops fun ⟨x0, x1, ()⟩ hw hp => (run x0 x1).trans (eq x0 x1 hw hp)
theorem known : Seen Try.prog 149 fs := ⟨sound, _, Try.func149, by kernel_rfl, by kernel_rfl⟩
end laws_szByteS
namespace laws_szDisk
noncomputable def fs : FS := ⟨[(.val (.pair (.sl 5 (.int .u8)) (.pair (.int .i64) .unit)) .f), (.val (.int .i64) .f)], [((.int .i64), .o)], fun x => laws_szDisk.pre x.1 x.2.1, fun x => ((), ((laws_szDisk x.1 x.2.1), ()))⟩
noncomputable def E : Env := ⟨theta, [(149, laws_szByteS.fs)], []⟩
noncomputable def H : List LC := []
noncomputable def code (i : Nat) : Code := (loopsOf (bodyOf Try.f123)).getD i .skip
theorem run (x0 : Disk) (x1 : Int) : runFn E H Try.f123 fs.ps fs.rs (x0, (x1, ())) = raw x0 x1 := by kernel_rfl
theorem env : EnvOk Try.prog E := env_cons laws_szByteS.known (env_nil tys)
theorem loops : ∀ c, Try.f123.body = some c → LoopsOk E H c := loops_none (by kernel_rfl)
theorem sound : Sound Try.prog 123 fs := fn_sound env mixed Try.func123 H loops fun ⟨x0, x1, ()⟩ hw hp => (run x0 x1).trans (eq x0 x1 hw hp)
theorem known : Seen Try.prog 123 fs := ⟨sound, _, Try.func123, by kernel_rfl, by kernel_rfl⟩
end laws_szDisk
namespace laws_szRpc
noncomputable def fs : FS := ⟨[(.val tyS19 .f), (.val (.int .i64) .f)], [((.int .i64), .o)], fun x => laws_szRpc.pre x.1 x.2.1, fun x => ((), ((laws_szRpc x.1 x.2.1), ()))⟩
noncomputable def E : Env := ⟨theta, [(124, laws_szEntryS.fs)], []⟩
noncomputable def H : List LC := []
noncomputable def code (i : Nat) : Code := (loopsOf (bodyOf Try.f95)).getD i .skip
theorem run (x0 : (Int × (Int × (Int × (Int × (Int × (Int × (Int × ((List Entry) × (Bool × ((List UInt8) × Unit))))))))))) (x1 : Int) : runFn E H Try.f95 fs.ps fs.rs (x0, (x1, ())) = raw x0 x1 := by kernel_rfl
theorem env : EnvOk Try.prog E := env_cons laws_szEntryS.known (env_nil tys)
theorem loops : ∀ c, Try.f95.body = some c → LoopsOk E H c := loops_none (by kernel_rfl)
theorem sound : Sound Try.prog 95 fs := fn_sound env mixed Try.func95 H loops fun ⟨x0, x1, ()⟩ hw hp => (run x0 x1).trans (eq x0 x1 hw hp)
theorem known : Seen Try.prog 95 fs := ⟨sound, _, Try.func95, by kernel_rfl, by kernel_rfl⟩
end laws_szRpc
namespace laws_szRpcS
noncomputable def fs : FS := ⟨[(.val (.sl 166 tyS19) .f), (.val (.int .i64) .f)], [((.int .i64), .o)], fun x => laws_szRpcS.pre x.1 x.2.1, fun x => ((), ((laws_szRpcS x.1 x.2.1), ()))⟩
noncomputable def E : Env := ⟨theta, [(95, laws_szRpc.fs)], []⟩
noncomputable def sh5 : ShSt := ⟨[(.one (.dat (.sl 166 tyS19))), ui, uu, uu, uu, ui, uu, uu, uu, uu, uu, uu, uu, uu, uu, uu, uu, uu, uu, uu, uu, uu, uu, uu, uu, uu, uu], []⟩
noncomputable def outs5 : List OutC := [⟨.ret, ⟨0, [4], []⟩, ⟨[uu, uu, uu, uu, ui, uu, uu, uu, uu, uu, uu, uu, uu, uu, uu, uu, uu, uu, uu, uu, uu, uu, uu, uu, uu, uu, uu], []⟩⟩, ⟨(.exit 0), ⟨0, [1], []⟩, ⟨[uu, ui, uu, uu, uu, uu, uu, uu, uu, uu, uu, uu, uu, uu, uu, uu, uu, uu, uu, uu, uu, uu, uu, uu, uu, uu, uu], []⟩⟩]
noncomputable def L5 : LC := ⟨5, ⟨5, [0, 5, 1], []⟩, sh5, outs5, pre5, fn5⟩
noncomputable def H : List LC := [L5]
noncomputable def code (i : Nat) : Code := (loopsOf (bodyOf Try.f55)).getD i .skip
theorem step5 (x1 : (List (Int × (Int × (Int × (Int × (Int × (Int × (Int × ((List Entry) × (Bool × ((List UInt8) × Unit)))))))))))) (x2 : Int) (x3 : Int) : L5.step E H (code 0) (x1, (x2, (x3, ()))) = raw5 x1 x2 x3 := by kernel_rfl
theorem lok5 : LoopOk E H (code 0) L5 := ⟨mu5, fun ⟨x1, x2, x3, ()⟩ hp => rounds_ok (step5 x1 x2 x3) (ok5 x1 x2 x3 hp)⟩
theorem run (x0 : (List (Int × (Int × (Int × (Int × (Int × (Int × (Int × ((List Entry) × (Bool × ((List UInt8) × Unit)))))))))))) (x1 : Int) : runFn E H Try.f55 fs.ps fs.rs (x0, (x1, ())) = raw x0 x1 := by kernel_rfl
theorem env : EnvOk Try.prog E := env_cons laws_szRpc.known (env_nil tys)
theorem loops : ∀ c, Try.f55.body = some c → LoopsOk E H c := loops_of (by kernel_rfl) (by kernel_rfl) fun i l h => match i, h with
  | 0, h => Option.some.inj h ▸ lok5
  | n + 1, h => by cases h
theorem sound : Sound Try.prog 55 fs := fn_sound env mixed Try.func55 H loops fun ⟨x0, x1, ()⟩ hw hp => (run x0 x1).trans (eq x0 x1 hw hp)
theorem known : Seen Try.prog 55 fs := ⟨sound, _, Try.func55, by kernel_rfl, by kernel_rfl⟩
end laws_szRpcS
namespace laws_szPeer
noncomputable def fs : FS := ⟨[(.val tyS12 .f), (.val (.int .i64) .f)], [((.int .i64), .o)], fun x => laws_szPeer.pre x.1 x.2.1, fun x => ((), ((laws_szPeer x.1 x.2.1), ()))⟩
noncomputable def E : Env := ⟨theta, [(57, laws_szIntS.fs), (122, laws_szKeep.fs), (120, laws_szHard.fs), (121, laws_szBoolS.fs), (123, laws_szDisk.fs), (55, laws_szRpcS.fs)], []⟩
noncomputable def H : List LC := []
noncomputable def code (i : Nat) : Code := (loopsOf (bodyOf Try.f94)).getD i .skip
theorem run (x0 : (Int × ((Int × (Int × (Log × (((List Row) × ((List Maker) × ((List Group) × (Int × ((List Int) × ((List Answer) × Unit)))))) × Unit)))) × (Int × ((List Bool) × ((List Int) × ((List Int) × (Int × (((List Row) × ((List Maker) × ((List Group) × (Int × ((List Int) × ((List Answer) × Unit)))))) × (Disk × ((List (Int × (Int × (Int × (Int × (Int × (Int × (Int × ((List Entry) × (Bool × ((List UInt8) × Unit))))))))))) × Unit))))))))))) (x1 : Int) : runFn E H Try.f94 fs.ps fs.rs (x0, (x1, ())) = raw x0 x1 := by kernel_rfl
theorem env : EnvOk Try.prog E := env_cons laws_szIntS.known (env_cons laws_szKeep.known (env_cons laws_szHard.known (env_cons laws_szBoolS.known (env_cons laws_szDisk.known (env_cons laws_szRpcS.known (env_nil tys))))))
theorem loops : ∀ c, Try.f94.body = some c → LoopsOk E H c := loops_none (by kernel_rfl)
theorem sound : Sound Try.prog 94 fs := fn_sound env mixed Try.func94 H loops fun ⟨x0, x1, ()⟩ hw hp => (run x0 x1).trans (eq x0 x1 hw hp)
theorem known : Seen Try.prog 94 fs := ⟨sound, _, Try.func94, by kernel_rfl, by kernel_rfl⟩
end laws_szPeer
namespace laws_szPeerS
noncomputable def fs : FS := ⟨[(.val (.sl 163 tyS12) .f), (.val (.int .i64) .f)], [((.int .i64), .o)], fun x => laws_szPeerS.pre x.1 x.2.1, fun x => ((), ((laws_szPeerS x.1 x.2.1), ()))⟩
noncomputable def E : Env := ⟨theta, [(94, laws_szPeer.fs)], []⟩
noncomputable def sh5 : ShSt := ⟨[(.one (.dat (.sl 163 tyS12))), ui, uu, uu, uu, ui, uu, uu, uu, uu, uu, uu, uu, uu, uu, uu, uu, uu, uu, uu, uu, uu, uu, uu, uu, uu, uu], []⟩
noncomputable def outs5 : List OutC := [⟨.ret, ⟨0, [4], []⟩, ⟨[uu, uu, uu, uu, ui, uu, uu, uu, uu, uu, uu, uu, uu, uu, uu, uu, uu, uu, uu, uu, uu, uu, uu, uu, uu, uu, uu], []⟩⟩, ⟨(.exit 0), ⟨0, [1], []⟩, ⟨[uu, ui, uu, uu, uu, uu, uu, uu, uu, uu, uu, uu, uu, uu, uu, uu, uu, uu, uu, uu, uu, uu, uu, uu, uu, uu, uu], []⟩⟩]
noncomputable def L5 : LC := ⟨5, ⟨5, [0, 5, 1], []⟩, sh5, outs5, pre5, fn5⟩
noncomputable def H : List LC := [L5]
noncomputable def code (i : Nat) : Code := (loopsOf (bodyOf Try.f54)).getD i .skip
theorem step5 (x1 : (List (Int × ((Int × (Int × (Log × (((List Row) × ((List Maker) × ((List Group) × (Int × ((List Int) × ((List Answer) × Unit)))))) × Unit)))) × (Int × ((List Bool) × ((List Int) × ((List Int) × (Int × (((List Row) × ((List Maker) × ((List Group) × (Int × ((List Int) × ((List Answer) × Unit)))))) × (Disk × ((List (Int × (Int × (Int × (Int × (Int × (Int × (Int × ((List Entry) × (Bool × ((List UInt8) × Unit))))))))))) × Unit)))))))))))) (x2 : Int) (x3 : Int) : L5.step E H (code 0) (x1, (x2, (x3, ()))) = raw5 x1 x2 x3 := by kernel_rfl
theorem lok5 : LoopOk E H (code 0) L5 := ⟨mu5, fun ⟨x1, x2, x3, ()⟩ hp => rounds_ok (step5 x1 x2 x3) (ok5 x1 x2 x3 hp)⟩
theorem run (x0 : (List (Int × ((Int × (Int × (Log × (((List Row) × ((List Maker) × ((List Group) × (Int × ((List Int) × ((List Answer) × Unit)))))) × Unit)))) × (Int × ((List Bool) × ((List Int) × ((List Int) × (Int × (((List Row) × ((List Maker) × ((List Group) × (Int × ((List Int) × ((List Answer) × Unit)))))) × (Disk × ((List (Int × (Int × (Int × (Int × (Int × (Int × (Int × ((List Entry) × (Bool × ((List UInt8) × Unit))))))))))) × Unit)))))))))))) (x1 : Int) : runFn E H Try.f54 fs.ps fs.rs (x0, (x1, ())) = raw x0 x1 := by kernel_rfl
theorem env : EnvOk Try.prog E := env_cons laws_szPeer.known (env_nil tys)
theorem loops : ∀ c, Try.f54.body = some c → LoopsOk E H c := loops_of (by kernel_rfl) (by kernel_rfl) fun i l h => match i, h with
  | 0, h => Option.some.inj h ▸ lok5
  | n + 1, h => by cases h
theorem sound : Sound Try.prog 54 fs := fn_sound env mixed Try.func54 H loops fun ⟨x0, x1, ()⟩ hw hp => (run x0 x1).trans (eq x0 x1 hw hp)
theorem known : Seen Try.prog 54 fs := ⟨sound, _, Try.func54, by kernel_rfl, by kernel_rfl⟩
end laws_szPeerS
namespace laws_szHeard
noncomputable def fs : FS := ⟨[(.val tyS113 .f), (.val (.int .i64) .f)], [((.int .i64), .o)], fun x => laws_szHeard.pre x.1 x.2.1, fun x => ((), ((laws_szHeard x.1 x.2.1), ()))⟩
noncomputable def E : Env := ⟨theta, [(125, laws_szAnswer.fs)], []⟩
noncomputable def H : List LC := []
noncomputable def code (i : Nat) : Code := (loopsOf (bodyOf Try.f97)).getD i .skip
theorem run (x0 : Heard) (x1 : Int) : runFn E H Try.f97 fs.ps fs.rs (x0, (x1, ())) = raw x0 x1 := by kernel_rfl
theorem env : EnvOk Try.prog E := env_cons laws_szAnswer.known (env_nil tys)
theorem loops : ∀ c, Try.f97.body = some c → LoopsOk E H c := loops_none (by kernel_rfl)
theorem sound : Sound Try.prog 97 fs := fn_sound env mixed Try.func97 H loops fun ⟨x0, x1, ()⟩ hw hp => (run x0 x1).trans (eq x0 x1 hw hp)
theorem known : Seen Try.prog 97 fs := ⟨sound, _, Try.func97, by kernel_rfl, by kernel_rfl⟩
end laws_szHeard
namespace laws_szHeardS
noncomputable def fs : FS := ⟨[(.val (.sl 172 tyS113) .f), (.val (.int .i64) .f)], [((.int .i64), .o)], fun x => laws_szHeardS.pre x.1 x.2.1, fun x => ((), ((laws_szHeardS x.1 x.2.1), ()))⟩
noncomputable def E : Env := ⟨theta, [(97, laws_szHeard.fs)], []⟩
noncomputable def sh5 : ShSt := ⟨[(.one (.dat (.sl 172 tyS113))), ui, uu, uu, uu, ui, uu, uu, uu, uu, uu, uu, uu, uu, uu, uu, uu, uu, uu, uu, uu, uu, uu, uu, uu, uu, uu], []⟩
noncomputable def outs5 : List OutC := [⟨.ret, ⟨0, [4], []⟩, ⟨[uu, uu, uu, uu, ui, uu, uu, uu, uu, uu, uu, uu, uu, uu, uu, uu, uu, uu, uu, uu, uu, uu, uu, uu, uu, uu, uu], []⟩⟩, ⟨(.exit 0), ⟨0, [1], []⟩, ⟨[uu, ui, uu, uu, uu, uu, uu, uu, uu, uu, uu, uu, uu, uu, uu, uu, uu, uu, uu, uu, uu, uu, uu, uu, uu, uu, uu], []⟩⟩]
noncomputable def L5 : LC := ⟨5, ⟨5, [0, 5, 1], []⟩, sh5, outs5, pre5, fn5⟩
noncomputable def H : List LC := [L5]
noncomputable def code (i : Nat) : Code := (loopsOf (bodyOf Try.f58)).getD i .skip
theorem step5 (x1 : (List Heard)) (x2 : Int) (x3 : Int) : L5.step E H (code 0) (x1, (x2, (x3, ()))) = raw5 x1 x2 x3 := by kernel_rfl
theorem lok5 : LoopOk E H (code 0) L5 := ⟨mu5, fun ⟨x1, x2, x3, ()⟩ hp => rounds_ok (step5 x1 x2 x3) (ok5 x1 x2 x3 hp)⟩
theorem run (x0 : (List Heard)) (x1 : Int) : runFn E H Try.f58 fs.ps fs.rs (x0, (x1, ())) = raw x0 x1 := by kernel_rfl
theorem env : EnvOk Try.prog E := env_cons laws_szHeard.known (env_nil tys)
theorem loops : ∀ c, Try.f58.body = some c → LoopsOk E H c := loops_of (by kernel_rfl) (by kernel_rfl) fun i l h => match i, h with
  | 0, h => Option.some.inj h ▸ lok5
  | n + 1, h => by cases h
theorem sound : Sound Try.prog 58 fs := fn_sound env mixed Try.func58 H loops fun ⟨x0, x1, ()⟩ hw hp => (run x0 x1).trans (eq x0 x1 hw hp)
theorem known : Seen Try.prog 58 fs := ⟨sound, _, Try.func58, by kernel_rfl, by kernel_rfl⟩
end laws_szHeardS
namespace laws_szCmdS
noncomputable def fs : FS := ⟨[(.val (.sl 168 tyS13) .f), (.val (.int .i64) .f)], [((.int .i64), .o)], fun x => laws_szCmdS.pre x.1 x.2.1, fun x => ((), ((laws_szCmdS x.1 x.2.1), ()))⟩
noncomputable def E : Env := ⟨theta, [(96, laws_szCmd.fs)], []⟩
noncomputable def sh5 : ShSt := ⟨[(.one (.dat (.sl 168 tyS13))), ui, uu, uu, uu, ui, uu, uu, uu, uu, uu, uu, uu, uu, uu, uu, uu, uu, uu, uu, uu, uu, uu, uu, uu, uu, uu], []⟩
noncomputable def outs5 : List OutC := [⟨.ret, ⟨0, [4], []⟩, ⟨[uu, uu, uu, uu, ui, uu, uu, uu, uu, uu, uu, uu, uu, uu, uu, uu, uu, uu, uu, uu, uu, uu, uu, uu, uu, uu, uu], []⟩⟩, ⟨(.exit 0), ⟨0, [1], []⟩, ⟨[uu, ui, uu, uu, uu, uu, uu, uu, uu, uu, uu, uu, uu, uu, uu, uu, uu, uu, uu, uu, uu, uu, uu, uu, uu, uu, uu], []⟩⟩]
noncomputable def L5 : LC := ⟨5, ⟨5, [0, 5, 1], []⟩, sh5, outs5, pre5, fn5⟩
noncomputable def H : List LC := [L5]
noncomputable def code (i : Nat) : Code := (loopsOf (bodyOf Try.f56)).getD i .skip
theorem step5 (x1 : (List Cmd)) (x2 : Int) (x3 : Int) : L5.step E H (code 0) (x1, (x2, (x3, ()))) = raw5 x1 x2 x3 := by kernel_rfl
theorem lok5 : LoopOk E H (code 0) L5 := ⟨mu5, fun ⟨x1, x2, x3, ()⟩ hp => rounds_ok (step5 x1 x2 x3) (ok5 x1 x2 x3 hp)⟩
theorem run (x0 : (List Cmd)) (x1 : Int) : runFn E H Try.f56 fs.ps fs.rs (x0, (x1, ())) = raw x0 x1 := by kernel_rfl
theorem env : EnvOk Try.prog E := env_cons laws_szCmd.known (env_nil tys)
theorem loops : ∀ c, Try.f56.body = some c → LoopsOk E H c := loops_of (by kernel_rfl) (by kernel_rfl) fun i l h => match i, h with
  | 0, h => Option.some.inj h ▸ lok5
  | n + 1, h => by cases h
theorem sound : Sound Try.prog 56 fs := fn_sound env mixed Try.func56 H loops fun ⟨x0, x1, ()⟩ hw hp => (run x0 x1).trans (eq x0 x1 hw hp)
theorem known : Seen Try.prog 56 fs := ⟨sound, _, Try.func56, by kernel_rfl, by kernel_rfl⟩
end laws_szCmdS
namespace laws_szWorld
noncomputable def fs : FS := ⟨[(.val tyS115 .f), (.val (.int .i64) .f)], [((.int .i64), .o)], fun x => laws_szWorld.pre x.1 x.2.1, fun x => ((), ((laws_szWorld x.1 x.2.1), ()))⟩
noncomputable def E : Env := ⟨theta, [(57, laws_szIntS.fs), (55, laws_szRpcS.fs), (54, laws_szPeerS.fs), (58, laws_szHeardS.fs), (56, laws_szCmdS.fs)], []⟩
noncomputable def H : List LC := []
noncomputable def code (i : Nat) : Code := (loopsOf (bodyOf Try.f24)).getD i .skip
theorem run (x0 : (Setup × (Int × ((List (Int × ((Int × (Int × (Log × (((List Row) × ((List Maker) × ((List Group) × (Int × ((List Int) × ((List Answer) × Unit)))))) × Unit)))) × (Int × ((List Bool) × ((List Int) × ((List Int) × (Int × (((List Row) × ((List Maker) × ((List Group) × (Int × ((List Int) × ((List Answer) × Unit)))))) × (Disk × ((List (Int × (Int × (Int × (Int × (Int × (Int × (Int × ((List Entry) × (Bool × ((List UInt8) × Unit))))))))))) × Unit))))))))))) × ((List (Int × (Int × (Int × (Int × (Int × (Int × (Int × ((List Entry) × (Bool × ((List UInt8) × Unit))))))))))) × ((List Cmd) × ((List Int) × ((List Heard) × ((List Cmd) × Unit))))))))) (x1 : Int) : runFn E H Try.f24 fs.ps fs.rs (x0, (x1, ())) = raw x0 x1 := by kernel_rfl
theorem env : EnvOk Try.prog E := env_cons laws_szIntS.known (env_cons laws_szRpcS.known (env_cons laws_szPeerS.known (env_cons laws_szHeardS.known (env_cons laws_szCmdS.known (env_nil tys)))))
theorem loops : ∀ c, Try.f24.body = some c → LoopsOk E H c := loops_none (by kernel_rfl)
theorem sound : Sound Try.prog 24 fs := fn_sound env mixed Try.func24 H loops fun ⟨x0, x1, ()⟩ hw hp => (run x0 x1).trans (eq x0 x1 hw hp)
theorem known : Seen Try.prog 24 fs := ⟨sound, _, Try.func24, by kernel_rfl, by kernel_rfl⟩
end laws_szWorld
namespace spec_Told
noncomputable def fs : FS := ⟨[(.val tyS110 .f), (.val (.int .i64) .f), (.val (.int .i64) .f)], [(.bool, .o)], fun _ => true, fun x => ((), ((spec_Told x.1 x.2.1 x.2.2.1), ()))⟩
noncomputable def E : Env := ⟨theta, [], []⟩
noncomputable def sh2 : ShSt := ⟨[uu, ui, ui, (.one (.bptr 0 [] tyS110)), uu, uu, uu, ui, uu, uu, uu, uu, uu, uu, uu, uu, uu, uu, uu, uu, uu, uu, uu, uu, uu, uu, uu, uu, uu, uu, uu, uu, uu], [(0, (.box tyS110 (.dat tyS110)))]⟩
noncomputable def outs2 : List OutC := [⟨.ret, ⟨0, [6], []⟩, ⟨[uu, uu, uu, uu, uu, uu, (.one (.dat .bool)), uu, uu, uu, uu, uu, uu, uu, uu, uu, uu, uu, uu, uu, uu, uu, uu, uu, uu, uu, uu, uu, uu, uu, uu, uu, uu], []⟩⟩, ⟨(.exit 0), ⟨0, [], []⟩, ⟨[uu, uu, uu, uu, uu, uu, uu, uu, uu, uu, uu, uu, uu, uu, uu, uu, uu, uu, uu, uu, uu, uu, uu, uu, uu, uu, uu, uu, uu, uu, uu, uu, uu], []⟩⟩]
noncomputable def L2 : LC := ⟨2, ⟨2, [2, 3, 1, 7], []⟩, sh2, outs2, pre2, fn2⟩
noncomputable def H : List LC := [L2]
noncomputable def code (i : Nat) : Code := (loopsOf (bodyOf Try.f25)).getD i .skip
theorem step2 (x1 : Int) (x2 : Int) (x3 : Int) (x4 : (Setup × (Int × ((List (Int × ((Int × (Int × (Log × (((List Row) × ((List Maker) × ((List Group) × (Int × ((List Int) × ((List Answer) × Unit)))))) × Unit)))) × (Int × ((List Bool) × ((List Int) × ((List Int) × (Int × (((List Row) × ((List Maker) × ((List Group) × (Int × ((List Int) × ((List Answer) × Unit)))))) × (Disk × ((List (Int × (Int × (Int × (Int × (Int × (Int × (Int × ((List Entry) × (Bool × ((List UInt8) × Unit))))))))))) × Unit))))))))))) × ((List (Int × (Int × (Int × (Int × (Int × (Int × (Int × ((List Entry) × (Bool × ((List UInt8) × Unit))))))))))) × ((List Cmd) × ((List Int) × ((List Heard) × ((List Cmd) × Unit))))))))) : L2.step E H (code 0) (x1, (x2, (x3, (x4, ())))) = raw2 x1 x2 x3 x4 := by kernel_rfl
theorem lok2 : LoopOk E H (code 0) L2 := ⟨mu2, fun ⟨x1, x2, x3, x4, ()⟩ hp => rounds_ok (step2 x1 x2 x3 x4) (ok2 x1 x2 x3 x4 hp)⟩
theorem run (x0 : (Setup × (Int × ((List (Int × ((Int × (Int × (Log × (((List Row) × ((List Maker) × ((List Group) × (Int × ((List Int) × ((List Answer) × Unit)))))) × Unit)))) × (Int × ((List Bool) × ((List Int) × ((List Int) × (Int × (((List Row) × ((List Maker) × ((List Group) × (Int × ((List Int) × ((List Answer) × Unit)))))) × (Disk × ((List (Int × (Int × (Int × (Int × (Int × (Int × (Int × ((List Entry) × (Bool × ((List UInt8) × Unit))))))))))) × Unit))))))))))) × ((List (Int × (Int × (Int × (Int × (Int × (Int × (Int × ((List Entry) × (Bool × ((List UInt8) × Unit))))))))))) × ((List Cmd) × ((List Int) × ((List Heard) × ((List Cmd) × Unit))))))))) (x1 : Int) (x2 : Int) : runFn E H Try.f25 fs.ps fs.rs (x0, (x1, (x2, ()))) = raw x0 x1 x2 := by kernel_rfl
theorem env : EnvOk Try.prog E := env_nil tys
theorem loops : ∀ c, Try.f25.body = some c → LoopsOk E H c := loops_of (by kernel_rfl) (by kernel_rfl) fun i l h => match i, h with
  | 0, h => Option.some.inj h ▸ lok2
  | n + 1, h => by cases h
theorem sound : Sound Try.prog 25 fs := fn_sound env mixed Try.func25 H loops fun ⟨x0, x1, x2, ()⟩ hw _ => (run x0 x1 x2).trans (eq x0 x1 x2 hw)
theorem known : Seen Try.prog 25 fs := ⟨sound, _, Try.func25, by kernel_rfl, by kernel_rfl⟩
end spec_Told
namespace impl_Told_1
noncomputable def fs : FS := ⟨[(.val tyS113 .f), (.peek (.int .i64)), (.peek (.int .i64))], [(.bool, .o)], fun _ => true, fun x => ((), ((impl_Told_1 x.1 x.2.1 x.2.2.1), ()))⟩
noncomputable def E : Env := ⟨theta, [], []⟩
noncomputable def H : List LC := []
noncomputable def code (i : Nat) : Code := (loopsOf (bodyOf Try.f66)).getD i .skip
theorem run (x0 : Heard) (x1 : Int) (x2 : Int) : runFn E H Try.f66 fs.ps fs.rs (x0, (x1, (x2, ()))) = raw x0 x1 x2 := by kernel_rfl
theorem env : EnvOk Try.prog E := env_nil tys
theorem loops : ∀ c, Try.f66.body = some c → LoopsOk E H c := loops_none (by kernel_rfl)
theorem sound : Sound Try.prog 66 fs := fn_sound env mixed Try.func66 H loops fun ⟨x0, x1, x2, ()⟩ hw _ => (run x0 x1 x2).trans (eq x0 x1 x2 hw)
theorem known : Seen Try.prog 66 fs := ⟨sound, _, Try.func66, by kernel_rfl, by kernel_rfl⟩
end impl_Told_1
namespace slices_IndexFunc_Heard
noncomputable def fs : FS := ⟨[(.val (.sl 103 tyS113) .f), (.fn tyS113 .bool)], [((.int .i64), .o)], fun x => slices_IndexFunc_Heard.pre x.1 x.2.1, fun x => ((), ((slices_IndexFunc_Heard x.1 x.2.1), ()))⟩
noncomputable def E : Env := ⟨theta, [], []⟩
noncomputable def sh2 : ShSt := ⟨[(.one (.dat (.sl 103 tyS113))), (.one (.fn tyS113 .bool)), uu, uu, uu, uu, uu, ui, ui, uu, uu, uu, uu, uu, uu, uu, uu, uu, uu], []⟩
noncomputable def outs2 : List OutC := [⟨.ret, ⟨0, [4], []⟩, ⟨[uu, uu, uu, uu, ui, uu, uu, uu, uu, uu, uu, uu, uu, uu, uu, uu, uu, uu, uu], []⟩⟩, ⟨(.exit 0), ⟨0, [], []⟩, ⟨[uu, uu, uu, uu, uu, uu, uu, uu, uu, uu, uu, uu, uu, uu, uu, uu, uu, uu, uu], []⟩⟩]
noncomputable def L2 : LC := ⟨2, ⟨2, [0, 1, 7, 8], []⟩, sh2, outs2, pre2, fn2⟩
noncomputable def H : List LC := [L2]
noncomputable def code (i : Nat) : Code := (loopsOf (bodyOf Try.f102)).getD i .skip
theorem step2 (x1 : (List Heard)) (x2 : (Heard → Bool)) (x3 : (Heard → Bool)) (x4 : Int) (x5 : Int) : L2.step E H (code 0) (x1, (x2, (x3, (x4, (x5, ()))))) = raw2 x1 x2 x3 x4 x5 := by kernel_rfl
theorem lok2 : LoopOk E H (code 0) L2 := ⟨mu2, fun ⟨x1, x2, x3, x4, x5, ()⟩ hp => rounds_ok (step2 x1 x2 x3 x4 x5) (ok2 x1 x2 x3 x4 x5 hp)⟩
theorem run (x0 : (List Heard)) (x1 : ((Heard → Bool) × (Heard → Bool))) : runFn E H Try.f102 fs.ps fs.rs (x0, (x1, ())) = raw x0 x1 := by kernel_rfl
theorem env : EnvOk Try.prog E := env_nil tys
theorem loops : ∀ c, Try.f102.body = some c → LoopsOk E H c := loops_of (by kernel_rfl) (by kernel_rfl) fun i l h => match i, h with
  | 0, h => Option.some.inj h ▸ lok2
  | n + 1, h => by cases h
theorem sound : Sound Try.prog 102 fs := fn_sound env mixed Try.func102 H loops fun ⟨x0, x1, ()⟩ hw hp => (run x0 x1).trans (eq x0 x1 hw hp)
theorem known : Seen Try.prog 102 fs := ⟨sound, _, Try.func102, by kernel_rfl, by kernel_rfl⟩
end slices_IndexFunc_Heard
namespace slices_ContainsFunc_Heard
noncomputable def fs : FS := ⟨[(.val (.sl 103 tyS113) .f), (.fn tyS113 .bool)], [(.bool, .o)], fun x => slices_ContainsFunc_Heard.pre x.1 x.2.1, fun x => ((), ((slices_ContainsFunc_Heard x.1 x.2.1), ()))⟩
noncomputable def E : Env := ⟨theta, [(102, slices_IndexFunc_Heard.fs)], []⟩
noncomputable def H : List LC := []
noncomputable def code (i : Nat) : Code := (loopsOf (bodyOf Try.f65)).getD i .skip
theorem run (x0 : (List Heard)) (x1 : ((Heard → Bool) × (Heard → Bool))) : runFn E H Try.f65 fs.ps fs.rs (x0, (x1, ())) = raw x0 x1 := by kernel_rfl
theorem env : EnvOk Try.prog E := env_cons slices_IndexFunc_Heard.known (env_nil tys)
theorem loops : ∀ c, Try.f65.body = some c → LoopsOk E H c := loops_none (by kernel_rfl)
theorem sound : Sound Try.prog 65 fs := fn_sound env mixed Try.func65 H loops fun ⟨x0, x1, ()⟩ hw hp => (run x0 x1).trans (eq x0 x1 hw hp)
theorem known : Seen Try.prog 65 fs := ⟨sound, _, Try.func65, by kernel_rfl, by kernel_rfl⟩
end slices_ContainsFunc_Heard
namespace impl_Told
noncomputable def fs : FS := ⟨[(.val tyS110 .f), (.val (.int .i64) .f), (.val (.int .i64) .f)], [(.bool, .o)], fun _ => true, fun x => ((), ((impl_Told x.1 x.2.1 x.2.2.1), ()))⟩
noncomputable def E : Env := ⟨theta, [(66, impl_Told_1.fs), (65, slices_ContainsFunc_Heard.fs)], []⟩
noncomputable def H : List LC := []
noncomputable def code (i : Nat) : Code := (loopsOf (bodyOf Try.f27)).getD i .skip
theorem run (x0 : (Setup × (Int × ((List (Int × ((Int × (Int × (Log × (((List Row) × ((List Maker) × ((List Group) × (Int × ((List Int) × ((List Answer) × Unit)))))) × Unit)))) × (Int × ((List Bool) × ((List Int) × ((List Int) × (Int × (((List Row) × ((List Maker) × ((List Group) × (Int × ((List Int) × ((List Answer) × Unit)))))) × (Disk × ((List (Int × (Int × (Int × (Int × (Int × (Int × (Int × ((List Entry) × (Bool × ((List UInt8) × Unit))))))))))) × Unit))))))))))) × ((List (Int × (Int × (Int × (Int × (Int × (Int × (Int × ((List Entry) × (Bool × ((List UInt8) × Unit))))))))))) × ((List Cmd) × ((List Int) × ((List Heard) × ((List Cmd) × Unit))))))))) (x1 : Int) (x2 : Int) : runFn E H Try.f27 fs.ps fs.rs (x0, (x1, (x2, ()))) = raw x0 x1 x2 := by kernel_rfl
theorem env : EnvOk Try.prog E := env_cons impl_Told_1.known (env_cons slices_ContainsFunc_Heard.known (env_nil tys))
theorem loops : ∀ c, Try.f27.body = some c → LoopsOk E H c := loops_none (by kernel_rfl)
theorem sound : Sound Try.prog 27 fs := fn_sound env mixed Try.func27 H loops fun ⟨x0, x1, x2, ()⟩ hw _ => (run x0 x1 x2).trans (eq x0 x1 x2 hw)
theorem known : Seen Try.prog 27 fs := ⟨sound, _, Try.func27, by kernel_rfl, by kernel_rfl⟩
end impl_Told
namespace laws_toSetup
noncomputable def fs : FS := ⟨[(.val (.pair (.int .i64) (.pair (.int .i64) tyS14)) .f)], [((.pair (.int .i64) (.pair (.int .i64) tyS14)), .o)], fun _ => true, fun x => ((), ((laws_toSetup x.1), ()))⟩
noncomputable def E : Env := ⟨theta, [], []⟩
noncomputable def H : List LC := []
noncomputable def code (i : Nat) : Code := (loopsOf (bodyOf Try.f59)).getD i .skip
theorem run (x0 : Setup) : runFn E H Try.f59 fs.ps fs.rs (x0, ()) = raw x0 := by kernel_rfl
theorem env : EnvOk Try.prog E := env_nil tys
theorem loops : ∀ c, Try.f59.body = some c → LoopsOk E H c := loops_none (by kernel_rfl)
theorem sound : Sound Try.prog 59 fs := fn_sound env mixed Try.func59 H loops fun ⟨x0, ()⟩ hw _ => (run x0).trans (eq x0 hw)
theorem known : Seen Try.prog 59 fs := ⟨sound, _, Try.func59, by kernel_rfl, by kernel_rfl⟩
end laws_toSetup
namespace laws_toCmd
noncomputable def fs : FS := ⟨[(.val tyS13 .f)], [(tyS13, .o)], fun _ => true, fun x => ((), ((laws_toCmd x.1), ()))⟩
noncomputable def E : Env := ⟨theta, [], []⟩
noncomputable def H : List LC := []
noncomputable def code (i : Nat) : Code := (loopsOf (bodyOf Try.f100)).getD i .skip
theorem run (x0 : Cmd) : runFn E H Try.f100 fs.ps fs.rs (x0, ()) = raw x0 := by kernel_rfl
theorem env : EnvOk Try.prog E := env_nil tys
theorem loops : ∀ c, Try.f100.body = some c → LoopsOk E H c := loops_none (by kernel_rfl)
theorem sound : Sound Try.prog 100 fs := fn_sound env mixed Try.func100 H loops fun ⟨x0, ()⟩ hw _ => (run x0).trans (eq x0 hw)
theorem known : Seen Try.prog 100 fs := ⟨sound, _, Try.func100, by kernel_rfl, by kernel_rfl⟩
end laws_toCmd
namespace laws_toEntry
noncomputable def fs : FS := ⟨[(.val (.pair (.int .i64) (.pair tyS13 .unit)) .f)], [((.pair (.int .i64) (.pair tyS13 .unit)), .o)], fun _ => true, fun x => ((), ((laws_toEntry x.1), ()))⟩
noncomputable def E : Env := ⟨theta, [(100, laws_toCmd.fs)], []⟩
noncomputable def H : List LC := []
noncomputable def code (i : Nat) : Code := (loopsOf (bodyOf Try.f157)).getD i .skip
theorem run (x0 : Entry) : runFn E H Try.f157 fs.ps fs.rs (x0, ()) = raw x0 := by kernel_rfl
theorem env : EnvOk Try.prog E := env_cons laws_toCmd.known (env_nil tys)
theorem loops : ∀ c, Try.f157.body = some c → LoopsOk E H c := loops_none (by kernel_rfl)
theorem sound : Sound Try.prog 157 fs := fn_sound env mixed Try.func157 H loops fun ⟨x0, ()⟩ hw _ => (run x0).trans (eq x0 hw)
theorem known : Seen Try.prog 157 fs := ⟨sound, _, Try.func157, by kernel_rfl, by kernel_rfl⟩
end laws_toEntry
namespace laws_toEntryS
noncomputable def fs : FS := ⟨[(.val (.sl 243 (.pair (.int .i64) (.pair tyS13 .unit))) .f)], [((.sl 89 (.pair (.int .i64) (.pair tyS13 .unit))), .o)], fun x => laws_toEntryS.pre x.1, fun x => ((), ((laws_toEntryS x.1), ()))⟩
noncomputable def E : Env := ⟨theta, [(157, laws_toEntry.fs)], []⟩
noncomputable def sh3 : ShSt := ⟨[(.one (.dat (.sl 243 (.pair (.int .i64) (.pair tyS13 .unit))))), uu, uu, (.one (.arr 20000000)), ui, uu, uu, uu, uu, uu, uu, uu, uu, uu, uu, uu, uu, uu, uu, uu, uu, uu, uu], [(20000000, (.arr 89 (.pair (.int .i64) (.pair tyS13 .unit))))]⟩
noncomputable def outs3 : List OutC := [⟨(.exit 0), ⟨0, [3], []⟩, ⟨[uu, uu, uu, (.one (.arr 20000000)), uu, uu, uu, uu, uu, uu, uu, uu, uu, uu, uu, uu, uu, uu, uu, uu, uu, uu, uu], [(20000000, (.arr 89 (.pair (.int .i64) (.pair tyS13 .unit))))]⟩⟩]
noncomputable def L3 : LC := ⟨3, ⟨3, [0, 3, 4], []⟩, sh3, outs3, pre3, fn3⟩
noncomputable def H : List LC := [L3]
noncomputable def code (i : Nat) : Code := (loopsOf (bodyOf Try.f130)).getD i .skip
theorem step3 (x1 : (List Entry)) (x2 : Int) (x3 : (List Entry)) : L3.step E H (code 0) (x1, (x2, (x3, ()))) = raw3 x1 x2 x3 := by kernel_rfl
theorem lok3 : LoopOk E H (code 0) L3 := ⟨mu3, fun ⟨x1, x2, x3, ()⟩ hp => rounds_ok (step3 x1 x2 x3) (ok3 x1 x2 x3 hp)⟩
theorem run (x0 : (List Entry)) : runFn E H Try.f130 fs.ps fs.rs (x0, ()) = raw x0 := by kernel_rfl
theorem env : EnvOk Try.prog E := env_cons laws_toEntry.known (env_nil tys)
theorem loops : ∀ c, Try.f130.body = some c → LoopsOk E H c := loops_of (by kernel_rfl) (by kernel_rfl) fun i l h => match i, h with
  | 0, h => Option.some.inj h ▸ lok3
  | n + 1, h => by cases h
theorem sound : Sound Try.prog 130 fs := fn_sound env mixed Try.func130 H loops fun ⟨x0, ()⟩ hw hp => (run x0).trans (eq x0 hw hp)
theorem known : Seen Try.prog 130 fs := ⟨sound, _, Try.func130, by kernel_rfl, by kernel_rfl⟩
end laws_toEntryS
namespace laws_toLog
noncomputable def fs : FS := ⟨[(.val (.pair (.int .i64) (.pair (.int .i64) (.pair (.sl 243 (.pair (.int .i64) (.pair tyS13 .unit))) .unit))) .f)], [(tyS116, .o)], fun x => laws_toLog.pre x.1, fun x => ((), ((laws_toLog x.1), ()))⟩
noncomputable def E : Env := ⟨theta, [(130, laws_toEntryS.fs)], []⟩
noncomputable def H : List LC := []
noncomputable def code (i : Nat) : Code := (loopsOf (bodyOf Try.f151)).getD i .skip
theorem run (x0 : Log) : runFn E H Try.f151 fs.ps fs.rs (x0, ()) = raw x0 := by kernel_rfl
theorem env : EnvOk Try.prog E := env_cons laws_toEntryS.known (env_nil tys)
theorem loops : ∀ c, Try.f151.body = some c → LoopsOk E H c := loops_none (by kernel_rfl)
theorem sound : Sound Try.prog 151 fs := fn_sound env mixed Try.func151 H loops fun ⟨x0, ()⟩ hw hp => (run x0).trans (eq x0 hw hp)
theorem known : Seen Try.prog 151 fs := ⟨sound, _, Try.func151, by kernel_rfl, by kernel_rfl⟩
end laws_toLog
namespace laws_toItem
noncomputable def fs : FS := ⟨[(.val tyS112 .f)], [(tyS112, .o)], fun _ => true, fun x => ((), ((laws_toItem x.1), ()))⟩
noncomputable def E : Env := ⟨theta, [], []⟩
noncomputable def H : List LC := []
noncomputable def code (i : Nat) : Code := (loopsOf (bodyOf Try.f202)).getD i .skip
theorem run (x0 : Item) : runFn E H Try.f202 fs.ps fs.rs (x0, ()) = raw x0 := by kernel_rfl
theorem env : EnvOk Try.prog E := env_nil tys
theorem loops : ∀ c, Try.f202.body = some c → LoopsOk E H c := loops_none (by kernel_rfl)
theorem sound : Sound Try.prog 202 fs := fn_sound env mixed Try.func202 H loops fun ⟨x0, ()⟩ hw _ => (run x0).trans (eq x0 hw)
theorem known : Seen Try.prog 202 fs := ⟨sound, _, Try.func202, by kernel_rfl, by kernel_rfl⟩
end laws_toItem
namespace laws_toItemS
noncomputable def fs : FS := ⟨[(.val (.sl 298 tyS112) .f)], [((.sl 200 tyS112), .o)], fun x => laws_toItemS.pre x.1, fun x => ((), ((laws_toItemS x.1), ()))⟩
noncomputable def E : Env := ⟨theta, [(202, laws_toItem.fs)], []⟩
noncomputable def sh3 : ShSt := ⟨[(.one (.dat (.sl 298 tyS112))), uu, uu, (.one (.arr 20000000)), ui, uu, uu, uu, uu, uu, uu, uu, uu, uu, uu, uu, uu, uu, uu, uu, uu, uu, uu], [(20000000, (.arr 200 tyS112))]⟩
noncomputable def outs3 : List OutC := [⟨(.exit 0), ⟨0, [3], []⟩, ⟨[uu, uu, uu, (.one (.arr 20000000)), uu, uu, uu, uu, uu, uu, uu, uu, uu, uu, uu, uu, uu, uu, uu, uu, uu, uu, uu], [(20000000, (.arr 200 tyS112))]⟩⟩]
noncomputable def L3 : LC := ⟨3, ⟨3, [0, 3, 4], []⟩, sh3, outs3, pre3, fn3⟩
noncomputable def H : List LC := [L3]
noncomputable def code (i : Nat) : Code := (loopsOf (bodyOf Try.f187)).getD i .skip
theorem step3 (x1 : (List Item)) (x2 : Int) (x3 : (List Item)) : L3.step E H (code 0) (x1, (x2, (x3, ()))) = raw3 x1 x2 x3 := by kernel_rfl
theorem lok3 : LoopOk E H (code 0) L3 := ⟨mu3, fun ⟨x1, x2, x3, ()⟩ hp => rounds_ok (step3 x1 x2 x3) (ok3 x1 x2 x3 hp)⟩
theorem run (x0 : (List Item)) : runFn E H Try.f187 fs.ps fs.rs (x0, ()) = raw x0 := by kernel_rfl
theorem env : EnvOk Try.prog E := env_cons laws_toItem.known (env_nil tys)
theorem loops : ∀ c, Try.f187.body = some c → LoopsOk E H c := loops_of (by kernel_rfl) (by kernel_rfl) fun i l h => match i, h with
  | 0, h => Option.some.inj h ▸ lok3
  | n + 1, h => by cases h
theorem sound : Sound Try.prog 187 fs := fn_sound env mixed Try.func187 H loops fun ⟨x0, ()⟩ hw hp => (run x0).trans (eq x0 hw hp)
theorem known : Seen Try.prog 187 fs := ⟨sound, _, Try.func187, by kernel_rfl, by kernel_rfl⟩
end laws_toItemS
namespace laws_toRow
noncomputable def fs : FS := ⟨[(.val (.pair (.int .i64) (.pair (.int .i64) (.pair (.sl 298 tyS112) .unit))) .f)], [(tyS118, .o)], fun x => laws_toRow.pre x.1, fun x => ((), ((laws_toRow x.1), ()))⟩
noncomputable def E : Env := ⟨theta, [(187, laws_toItemS.fs)], []⟩
noncomputable def H : List LC := []
noncomputable def code (i : Nat) : Code := (loopsOf (bodyOf Try.f172)).getD i .skip
theorem run (x0 : Row) : runFn E H Try.f172 fs.ps fs.rs (x0, ()) = raw x0 := by kernel_rfl
theorem env : EnvOk Try.prog E := env_cons laws_toItemS.known (env_nil tys)
theorem loops : ∀ c, Try.f172.body = some c → LoopsOk E H c := loops_none (by kernel_rfl)
theorem sound : Sound Try.prog 172 fs := fn_sound env mixed Try.func172 H loops fun ⟨x0, ()⟩ hw hp => (run x0).trans (eq x0 hw hp)
theorem known : Seen Try.prog 172 fs := ⟨sound, _, Try.func172, by kernel_rfl, by kernel_rfl⟩
end laws_toRow
namespace laws_toRowS
noncomputable def fs : FS := ⟨[(.val (.sl 263 (.pair (.int .i64) (.pair (.int .i64) (.pair (.sl 298 tyS112) .unit)))) .f)], [((.sl 197 tyS118), .o)], fun x => laws_toRowS.pre x.1, fun x => ((), ((laws_toRowS x.1), ()))⟩
noncomputable def E : Env := ⟨theta, [(172, laws_toRow.fs)], []⟩
noncomputable def sh3 : ShSt := ⟨[(.one (.dat (.sl 263 (.pair (.int .i64) (.pair (.int .i64) (.pair (.sl 298 tyS112) .unit)))))), uu, uu, (.one (.arr 20000000)), ui, uu, uu, uu, uu, uu, uu, uu, uu, uu, uu, uu, uu, uu, uu, uu, uu, uu, uu], [(20000000, (.arr 197 tyS118))]⟩
noncomputable def outs3 : List OutC := [⟨(.exit 0), ⟨0, [3], []⟩, ⟨[uu, uu, uu, (.one (.arr 20000000)), uu, uu, uu, uu, uu, uu, uu, uu, uu, uu, uu, uu, uu, uu, uu, uu, uu, uu, uu], [(20000000, (.arr 197 tyS118))]⟩⟩]
noncomputable def L3 : LC := ⟨3, ⟨3, [0, 3, 4], []⟩, sh3, outs3, pre3, fn3⟩
noncomputable def H : List LC := [L3]
noncomputable def code (i : Nat) : Code := (loopsOf (bodyOf Try.f152)).getD i .skip
theorem step3 (x1 : (List Row)) (x2 : Int) (x3 : (List Row)) : L3.step E H (code 0) (x1, (x2, (x3, ()))) = raw3 x1 x2 x3 := by kernel_rfl
theorem lok3 : LoopOk E H (code 0) L3 := ⟨mu3, fun ⟨x1, x2, x3, ()⟩ hp => rounds_ok (step3 x1 x2 x3) (ok3 x1 x2 x3 hp)⟩
theorem run (x0 : (List Row)) : runFn E H Try.f152 fs.ps fs.rs (x0, ()) = raw x0 := by kernel_rfl
theorem env : EnvOk Try.prog E := env_cons laws_toRow.known (env_nil tys)
theorem loops : ∀ c, Try.f152.body = some c → LoopsOk E H c := loops_of (by kernel_rfl) (by kernel_rfl) fun i l h => match i, h with
  | 0, h => Option.some.inj h ▸ lok3
  | n + 1, h => by cases h
theorem sound : Sound Try.prog 152 fs := fn_sound env mixed Try.func152 H loops fun ⟨x0, ()⟩ hw hp => (run x0).trans (eq x0 hw hp)
theorem known : Seen Try.prog 152 fs := ⟨sound, _, Try.func152, by kernel_rfl, by kernel_rfl⟩
end laws_toRowS
namespace laws_toMark
noncomputable def fs : FS := ⟨[(.val tyS14 .f)], [(tyS14, .o)], fun _ => true, fun x => ((), ((laws_toMark x.1), ()))⟩
noncomputable def E : Env := ⟨theta, [], []⟩
noncomputable def H : List LC := []
noncomputable def code (i : Nat) : Code := (loopsOf (bodyOf Try.f203)).getD i .skip
theorem run (x0 : Mark) : runFn E H Try.f203 fs.ps fs.rs (x0, ()) = raw x0 := by kernel_rfl
theorem env : EnvOk Try.prog E := env_nil tys
theorem loops : ∀ c, Try.f203.body = some c → LoopsOk E H c := loops_none (by kernel_rfl)
theorem sound : Sound Try.prog 203 fs := fn_sound env mixed Try.func203 H loops fun ⟨x0, ()⟩ hw _ => (run x0).trans (eq x0 hw)
theorem known : Seen Try.prog 203 fs := ⟨sound, _, Try.func203, by kernel_rfl, by kernel_rfl⟩
end laws_toMark
namespace laws_toMarkS
noncomputable def fs : FS := ⟨[(.val (.sl 301 tyS14) .f)], [((.sl 205 tyS14), .o)], fun x => laws_toMarkS.pre x.1, fun x => ((), ((laws_toMarkS x.1), ()))⟩
noncomputable def E : Env := ⟨theta, [(203, laws_toMark.fs)], []⟩
noncomputable def sh3 : ShSt := ⟨[(.one (.dat (.sl 301 tyS14))), uu, uu, (.one (.arr 20000000)), ui, uu, uu, uu, uu, uu, uu, uu, uu, uu, uu, uu, uu, uu, uu, uu, uu, uu, uu], [(20000000, (.arr 205 tyS14))]⟩
noncomputable def outs3 : List OutC := [⟨(.exit 0), ⟨0, [3], []⟩, ⟨[uu, uu, uu, (.one (.arr 20000000)), uu, uu, uu, uu, uu, uu, uu, uu, uu, uu, uu, uu, uu, uu, uu, uu, uu, uu, uu], [(20000000, (.arr 205 tyS14))]⟩⟩]
noncomputable def L3 : LC := ⟨3, ⟨3, [0, 3, 4], []⟩, sh3, outs3, pre3, fn3⟩
noncomputable def H : List LC := [L3]
noncomputable def code (i : Nat) : Code := (loopsOf (bodyOf Try.f188)).getD i .skip
theorem step3 (x1 : (List Mark)) (x2 : Int) (x3 : (List Mark)) : L3.step E H (code 0) (x1, (x2, (x3, ()))) = raw3 x1 x2 x3 := by kernel_rfl
theorem lok3 : LoopOk E H (code 0) L3 := ⟨mu3, fun ⟨x1, x2, x3, ()⟩ hp => rounds_ok (step3 x1 x2 x3) (ok3 x1 x2 x3 hp)⟩
theorem run (x0 : (List Mark)) : runFn E H Try.f188 fs.ps fs.rs (x0, ()) = raw x0 := by kernel_rfl
theorem env : EnvOk Try.prog E := env_cons laws_toMark.known (env_nil tys)
theorem loops : ∀ c, Try.f188.body = some c → LoopsOk E H c := loops_of (by kernel_rfl) (by kernel_rfl) fun i l h => match i, h with
  | 0, h => Option.some.inj h ▸ lok3
  | n + 1, h => by cases h
theorem sound : Sound Try.prog 188 fs := fn_sound env mixed Try.func188 H loops fun ⟨x0, ()⟩ hw hp => (run x0).trans (eq x0 hw hp)
theorem known : Seen Try.prog 188 fs := ⟨sound, _, Try.func188, by kernel_rfl, by kernel_rfl⟩
end laws_toMarkS
namespace laws_toMaker
noncomputable def fs : FS := ⟨[(.val tyS117 .f)], [(tyS114, .o)], fun x => laws_toMaker.pre x.1, fun x => ((), ((laws_toMaker x.1), ()))⟩
noncomputable def E : Env := ⟨theta, [(188, laws_toMarkS.fs)], []⟩
noncomputable def H : List LC := []
noncomputable def code (i : Nat) : Code := (loopsOf (bodyOf Try.f173)).getD i .skip
theorem run (x0 : Maker) : runFn E H Try.f173 fs.ps fs.rs (x0, ()) = raw x0 := by kernel_rfl
theorem env : EnvOk Try.prog E := env_cons laws_toMarkS.known (env_nil tys)
theorem loops : ∀ c, Try.f173.body = some c → LoopsOk E H c := loops_none (by kernel_rfl)
theorem sound : Sound Try.prog 173 fs := fn_sound env mixed Try.func173 H loops fun ⟨x0, ()⟩ hw hp => (run x0).trans (eq x0 hw hp)
theorem known : Seen Try.prog 173 fs := ⟨sound, _, Try.func173, by kernel_rfl, by kernel_rfl⟩
end laws_toMaker
namespace laws_toMakerS
noncomputable def fs : FS := ⟨[(.val (.sl 267 tyS117) .f)], [((.sl 203 tyS114), .o)], fun x => laws_toMakerS.pre x.1, fun x => ((), ((laws_toMakerS x.1), ()))⟩
noncomputable def E : Env := ⟨theta, [(173, laws_toMaker.fs)], []⟩
noncomputable def sh3 : ShSt := ⟨[(.one (.dat (.sl 267 tyS117))), uu, uu, (.one (.arr 20000000)), ui, uu, uu, uu, uu, uu, uu, uu, uu, uu, uu, uu, uu, uu, uu, uu, uu, uu, uu], [(20000000, (.arr 203 tyS114))]⟩
noncomputable def outs3 : List OutC := [⟨(.exit 0), ⟨0, [3], []⟩, ⟨[uu, uu, uu, (.one (.arr 20000000)), uu, uu, uu, uu, uu, uu, uu, uu, uu, uu, uu, uu, uu, uu, uu, uu, uu, uu, uu], [(20000000, (.arr 203 tyS114))]⟩⟩]
noncomputable def L3 : LC := ⟨3, ⟨3, [0, 3, 4], []⟩, sh3, outs3, pre3, fn3⟩
noncomputable def H : List LC := [L3]
noncomputable def code (i : Nat) : Code := (loopsOf (bodyOf Try.f153)).getD i .skip
theorem step3 (x1 : (List Maker)) (x2 : Int) (x3 : (List Maker)) : L3.step E H (code 0) (x1, (x2, (x3, ()))) = raw3 x1 x2 x3 := by kernel_rfl
theorem lok3 : LoopOk E H (code 0) L3 := ⟨mu3, fun ⟨x1, x2, x3, ()⟩ hp => rounds_ok (step3 x1 x2 x3) (ok3 x1 x2 x3 hp)⟩
theorem run (x0 : (List Maker)) : runFn E H Try.f153 fs.ps fs.rs (x0, ()) = raw x0 := by kernel_rfl
theorem env : EnvOk Try.prog E := env_cons laws_toMaker.known (env_nil tys)
theorem loops : ∀ c, Try.f153.body = some c → LoopsOk E H c := loops_of (by kernel_rfl) (by kernel_rfl) fun i l h => match i, h with
  | 0, h => Option.some.inj h ▸ lok3
  | n + 1, h => by cases h
theorem sound : Sound Try.prog 153 fs := fn_sound env mixed Try.func153 H loops fun ⟨x0, ()⟩ hw hp => (run x0).trans (eq x0 hw hp)
theorem known : Seen Try.prog 153 fs := ⟨sound, _, Try.func153, by kernel_rfl, by kernel_rfl⟩
end laws_toMakerS
namespace laws_toIntS
noncomputable def fs : FS := ⟨[(.val (.sl 3 (.int .i64)) .f)], [((.sl 3 (.int .i64)), .o)], fun x => laws_toIntS.pre x.1, fun x => ((), ((laws_toIntS x.1), ()))⟩
noncomputable def E : Env := ⟨theta, [], []⟩
noncomputable def sh3 : ShSt := ⟨[(.one (.dat (.sl 3 (.int .i64)))), uu, uu, (.one (.arr 20000000)), ui, uu, uu, uu, uu, uu, uu, uu, uu, uu, uu, uu, uu, uu, uu, uu, uu, uu], [(20000000, (.arr 3 (.int .i64)))]⟩
noncomputable def outs3 : List OutC := [⟨(.exit 0), ⟨0, [3], []⟩, ⟨[uu, uu, uu, (.one (.arr 20000000)), uu, uu, uu, uu, uu, uu, uu, uu, uu, uu, uu, uu, uu, uu, uu, uu, uu, uu], [(20000000, (.arr 3 (.int .i64)))]⟩⟩]
noncomputable def L3 : LC := ⟨3, ⟨3, [0, 3, 4], []⟩, sh3, outs3, pre3, fn3⟩
noncomputable def H : List LC := [L3]
noncomputable def code (i : Nat) : Code := (loopsOf (bodyOf Try.f63)).getD i .skip
theorem step3 (x1 : (List Int)) (x2 : Int) (x3 : (List Int)) : L3.step E H (code 0) (x1, (x2, (x3, ()))) = raw3 x1 x2 x3 := by kernel_rfl
theorem lok3 : LoopOk E H (code 0) L3 := ⟨mu3, fun ⟨x1, x2, x3, ()⟩ hp => rounds_ok (step3 x1 x2 x3) (ok3 x1 x2 x3 hp)⟩
theorem run (x0 : (List Int)) : runFn E H Try.f63 fs.ps fs.rs (x0, ()) = raw x0 := by kernel_rfl
theorem env : EnvOk Try.prog E := env_nil tys
theorem loops : ∀ c, Try.f63.body = some c → LoopsOk E H c := loops_of (by kernel_rfl) (by kernel_rfl) fun i l h => match i, h with
  | 0, h => Option.some.inj h ▸ lok3
  | n + 1, h => by cases h
theorem sound : Sound Try.prog 63 fs := fn_sound env mixed Try.func63 H loops fun ⟨x0, ()⟩ hw hp => (run x0).trans (eq x0 hw hp)
theorem known : Seen Try.prog 63 fs := ⟨sound, _, Try.func63, by kernel_rfl, by kernel_rfl⟩
end laws_toIntS
namespace laws_toGroup
noncomputable def fs : FS := ⟨[(.val tyS111 .f)], [(tyS111, .o)], fun x => laws_toGroup.pre x.1, fun x => ((), ((laws_toGroup x.1), ()))⟩
noncomputable def E : Env := ⟨theta, [(63, laws_toIntS.fs)], []⟩
noncomputable def H : List LC := []
noncomputable def code (i : Nat) : Code := (loopsOf (bodyOf Try.f174)).getD i .skip
theorem run (x0 : Group) : runFn E H Try.f174 fs.ps fs.rs (x0, ()) = raw x0 := by kernel_rfl
theorem env : EnvOk Try.prog E := env_cons laws_toIntS.known (env_nil tys)
theorem loops : ∀ c, Try.f174.body = some c → LoopsOk E H c := loops_none (by kernel_rfl)
theorem sound : Sound Try.prog 174 fs := fn_sound env mixed Try.func174 H loops fun ⟨x0, ()⟩ hw hp => (run x0).trans (eq x0 hw hp)
theorem known : Seen Try.prog 174 fs := ⟨sound, _, Try.func174, by kernel_rfl, by kernel_rfl⟩
end laws_toGroup
namespace laws_toGroupS
noncomputable def fs : FS := ⟨[(.val (.sl 269 tyS111) .f)], [((.sl 207 tyS111), .o)], fun x => laws_toGroupS.pre x.1, fun x => ((), ((laws_toGroupS x.1), ()))⟩
noncomputable def E : Env := ⟨theta, [(174, laws_toGroup.fs)], []⟩
noncomputable def sh3 : ShSt := ⟨[(.one (.dat (.sl 269 tyS111))), uu, uu, (.one (.arr 20000000)), ui, uu, uu, uu, uu, uu, uu, uu, uu, uu, uu, uu, uu, uu, uu, uu, uu, uu, uu], [(20000000, (.arr 207 tyS111))]⟩
noncomputable def outs3 : List OutC := [⟨(.exit 0), ⟨0, [3], []⟩, ⟨[uu, uu, uu, (.one (.arr 20000000)), uu, uu, uu, uu, uu, uu, uu, uu, uu, uu, uu, uu, uu, uu, uu, uu, uu, uu, uu], [(20000000, (.arr 207 tyS111))]⟩⟩]
noncomputable def L3 : LC := ⟨3, ⟨3, [0, 3, 4], []⟩, sh3, outs3, pre3, fn3⟩
noncomputable def H : List LC := [L3]
noncomputable def code (i : Nat) : Code := (loopsOf (bodyOf Try.f154)).getD i .skip
theorem step3 (x1 : (List Group)) (x2 : Int) (x3 : (List Group)) : L3.step E H (code 0) (x1, (x2, (x3, ()))) = raw3 x1 x2 x3 := by kernel_rfl
theorem lok3 : LoopOk E H (code 0) L3 := ⟨mu3, fun ⟨x1, x2, x3, ()⟩ hp => rounds_ok (step3 x1 x2 x3) (ok3 x1 x2 x3 hp)⟩
theorem run (x0 : (List Group)) : runFn E H Try.f154 fs.ps fs.rs (x0, ()) = raw x0 := by kernel_rfl
theorem env : EnvOk Try.prog E := env_cons laws_toGroup.known (env_nil tys)
theorem loops : ∀ c, Try.f154.body = some c → LoopsOk E H c := loops_of (by kernel_rfl) (by kernel_rfl) fun i l h => match i, h with
  | 0, h => Option.some.inj h ▸ lok3
  | n + 1, h => by cases h
theorem sound : Sound Try.prog 154 fs := fn_sound env mixed Try.func154 H loops fun ⟨x0, ()⟩ hw hp => (run x0).trans (eq x0 hw hp)
theorem known : Seen Try.prog 154 fs := ⟨sound, _, Try.func154, by kernel_rfl, by kernel_rfl⟩
end laws_toGroupS
namespace laws_toAnswer
noncomputable def fs : FS := ⟨[(.val tyS15 .f)], [(tyS15, .o)], fun _ => true, fun x => ((), ((laws_toAnswer x.1), ()))⟩
noncomputable def E : Env := ⟨theta, [], []⟩
noncomputable def H : List LC := []
noncomputable def code (i : Nat) : Code := (loopsOf (bodyOf Try.f131)).getD i .skip
theorem run (x0 : Answer) : runFn E H Try.f131 fs.ps fs.rs (x0, ()) = raw x0 := by kernel_rfl
theorem env : EnvOk Try.prog E := env_nil tys
theorem loops : ∀ c, Try.f131.body = some c → LoopsOk E H c := loops_none (by kernel_rfl)
theorem sound : Sound Try.prog 131 fs := fn_sound env mixed Try.func131 H loops fun ⟨x0, ()⟩ hw _ => (run x0).trans (eq x0 hw)
theorem known : Seen Try.prog 131 fs := ⟨sound, _, Try.func131, by kernel_rfl, by kernel_rfl⟩
end laws_toAnswer
namespace laws_toAnswerS
noncomputable def fs : FS := ⟨[(.val (.sl 170 tyS15) .f)], [((.sl 101 tyS15), .o)], fun x => laws_toAnswerS.pre x.1, fun x => ((), ((laws_toAnswerS x.1), ()))⟩
noncomputable def E : Env := ⟨theta, [(131, laws_toAnswer.fs)], []⟩
noncomputable def sh3 : ShSt := ⟨[(.one (.dat (.sl 170 tyS15))), uu, uu, (.one (.arr 20000000)), ui, uu, uu, uu, uu, uu, uu, uu, uu, uu, uu, uu, uu, uu, uu, uu, uu, uu, uu], [(20000000, (.arr 101 tyS15))]⟩
noncomputable def outs3 : List OutC := [⟨(.exit 0), ⟨0, [3], []⟩, ⟨[uu, uu, uu, (.one (.arr 20000000)), uu, uu, uu, uu, uu, uu, uu, uu, uu, uu, uu, uu, uu, uu, uu, uu, uu, uu, uu], [(20000000, (.arr 101 tyS15))]⟩⟩]
noncomputable def L3 : LC := ⟨3, ⟨3, [0, 3, 4], []⟩, sh3, outs3, pre3, fn3⟩
noncomputable def H : List LC := [L3]
noncomputable def code (i : Nat) : Code := (loopsOf (bodyOf Try.f155)).getD i .skip
theorem step3 (x1 : (List Answer)) (x2 : Int) (x3 : (List Answer)) : L3.step E H (code 0) (x1, (x2, (x3, ()))) = raw3 x1 x2 x3 := by kernel_rfl
theorem lok3 : LoopOk E H (code 0) L3 := ⟨mu3, fun ⟨x1, x2, x3, ()⟩ hp => rounds_ok (step3 x1 x2 x3) (ok3 x1 x2 x3 hp)⟩
theorem run (x0 : (List Answer)) : runFn E H Try.f155 fs.ps fs.rs (x0, ()) = raw x0 := by kernel_rfl
theorem env : EnvOk Try.prog E := env_cons laws_toAnswer.known (env_nil tys)
theorem loops : ∀ c, Try.f155.body = some c → LoopsOk E H c := loops_of (by kernel_rfl) (by kernel_rfl) fun i l h => match i, h with
  | 0, h => Option.some.inj h ▸ lok3
  | n + 1, h => by cases h
theorem sound : Sound Try.prog 155 fs := fn_sound env mixed Try.func155 H loops fun ⟨x0, ()⟩ hw hp => (run x0).trans (eq x0 hw hp)
theorem known : Seen Try.prog 155 fs := ⟨sound, _, Try.func155, by kernel_rfl, by kernel_rfl⟩
end laws_toAnswerS
namespace laws_toKeep
noncomputable def fs : FS := ⟨[(.val tyS18 .f)], [(tyS17, .o)], fun x => laws_toKeep.pre x.1, fun x => ((), ((laws_toKeep x.1), ()))⟩
noncomputable def E : Env := ⟨theta, [(152, laws_toRowS.fs), (153, laws_toMakerS.fs), (63, laws_toIntS.fs), (154, laws_toGroupS.fs), (155, laws_toAnswerS.fs)], []⟩
noncomputable def H : List LC := []
noncomputable def code (i : Nat) : Code := (loopsOf (bodyOf Try.f128)).getD i .skip
theorem run (x0 : ((List Row) × ((List Maker) × ((List Group) × (Int × ((List Int) × ((List Answer) × Unit))))))) : runFn E H Try.f128 fs.ps fs.rs (x0, ()) = raw x0 := by kernel_rfl
theorem env : EnvOk Try.prog E := env_cons laws_toRowS.known (env_cons laws_toMakerS.known (env_cons laws_toIntS.known (env_cons laws_toGroupS.known (env_cons laws_toAnswerS.known (env_nil tys)))))
theorem loops : ∀ c, Try.f128.body = some c → LoopsOk E H c := loops_none (by kernel_rfl)
theorem sound : Sound Try.prog 128 fs := fn_sound env mixed Try.func128 H loops fun ⟨x0, ()⟩ hw hp => (run x0).trans (eq x0 hw hp)
theorem known : Seen Try.prog 128 fs := ⟨sound, _, Try.func128, by kernel_rfl, by kernel_rfl⟩
end laws_toKeep
namespace laws_toHard
noncomputable def fs : FS := ⟨[(.val (.pair (.int .i64) (.pair (.int .i64) (.pair (.pair (.int .i64) (.pair (.int .i64) (.pair (.sl 243 (.pair (.int .i64) (.pair tyS13 .unit))) .unit))) (.pair tyS18 .unit)))) .f)], [((.pair (.int .i64) (.pair (.int .i64) (.pair tyS116 (.pair tyS17 .unit)))), .o)], fun x => laws_toHard.pre x.1, fun x => ((), ((laws_toHard x.1), ()))⟩
noncomputable def E : Env := ⟨theta, [(151, laws_toLog.fs), (128, laws_toKeep.fs)], []⟩
noncomputable def H : List LC := []
noncomputable def code (i : Nat) : Code := (loopsOf (bodyOf Try.f126)).getD i .skip
theorem run (x0 : (Int × (Int × (Log × (((List Row) × ((List Maker) × ((List Group) × (Int × ((List Int) × ((List Answer) × Unit)))))) × Unit))))) : runFn E H Try.f126 fs.ps fs.rs (x0, ()) = raw x0 := by kernel_rfl
theorem env : EnvOk Try.prog E := env_cons laws_toLog.known (env_cons laws_toKeep.known (env_nil tys))
theorem loops : ∀ c, Try.f126.body = some c → LoopsOk E H c := loops_none (by kernel_rfl)
theorem sound : Sound Try.prog 126 fs := fn_sound env mixed Try.func126 H loops fun ⟨x0, ()⟩ hw hp => (run x0).trans (eq x0 hw hp)
theorem known : Seen Try.prog 126 fs := ⟨sound, _, Try.func126, by kernel_rfl, by kernel_rfl⟩
end laws_toHard
namespace laws_toBoolS
noncomputable def fs : FS := ⟨[(.val (.sl 4 .bool) .f)], [((.sl 4 .bool), .o)], fun x => laws_toBoolS.pre x.1, fun x => ((), ((laws_toBoolS x.1), ()))⟩
noncomputable def E : Env := ⟨theta, [], []⟩
noncomputable def sh3 : ShSt := ⟨[(.one (.dat (.sl 4 .bool))), uu, uu, (.one (.arr 20000000)), ui, uu, uu, uu, uu, uu, uu, uu, uu, uu, uu, uu, uu, uu, uu, uu, uu, uu], [(20000000, (.arr 4 .bool))]⟩
noncomputable def outs3 : List OutC := [⟨(.exit 0), ⟨0, [3], []⟩, ⟨[uu, uu, uu, (.one (.arr 20000000)), uu, uu, uu, uu, uu, uu, uu, uu, uu, uu, uu, uu, uu, uu, uu, uu, uu, uu], [(20000000, (.arr 4 .bool))]⟩⟩]
noncomputable def L3 : LC := ⟨3, ⟨3, [0, 3, 4], []⟩, sh3, outs3, pre3, fn3⟩
noncomputable def H : List LC := [L3]
noncomputable def code (i : Nat) : Code := (loopsOf (bodyOf Try.f127)).getD i .skip
theorem step3 (x1 : (List Bool)) (x2 : Int) (x3 : (List Bool)) : L3.step E H (code 0) (x1, (x2, (x3, ()))) = raw3 x1 x2 x3 := by kernel_rfl
theorem lok3 : LoopOk E H (code 0) L3 := ⟨mu3, fun ⟨x1, x2, x3, ()⟩ hp => rounds_ok (step3 x1 x2 x3) (ok3 x1 x2 x3 hp)⟩
theorem run (x0 : (List Bool)) : runFn E H Try.f127 fs.ps fs.rs (x0, ()) = raw x0 := by kernel_rfl
theorem env : EnvOk Try.prog E := env_nil tys
theorem loops : ∀ c, Try.f127.body = some c → LoopsOk E H c := loops_of (by kernel_rfl) (by kernel_rfl) fun i l h => match i, h with
  | 0, h => Option.some.inj h ▸ lok3
  | n + 1, h => by cases h
theorem sound : Sound Try.prog 127 fs := fn_sound env mixed Try.func127 H loops fun ⟨x0, ()⟩ hw hp => (run x0).trans (eq x0 hw hp)
theorem known : Seen Try.prog 127 fs := ⟨sound, _, Try.func127, by kernel_rfl, by kernel_rfl⟩
end laws_toBoolS
namespace laws_toByteS
noncomputable def fs : FS := ⟨[(.val (.sl 5 (.int .u8)) .f)], [((.sl 5 (.int .u8)), .o)], fun x => laws_toByteS.pre x.1, fun x => ((), ((laws_toByteS x.1), ()))⟩
noncomputable def E : Env := ⟨theta, [], []⟩
noncomputable def sh3 : ShSt := ⟨[(.one (.dat (.sl 5 (.int .u8)))), uu, uu, (.one (.arr 20000000)), ui, uu, uu, uu, uu, uu, uu, uu, uu, uu, uu, uu, uu, uu, uu, uu, uu, uu], [(20000000, (.arr 5 (.int .u8)))]⟩
noncomputable def outs3 : List OutC := [⟨(.exit 0), ⟨0, [3], []⟩, ⟨[uu, uu, uu, (.one (.arr 20000000)), uu, uu, uu, uu, uu, uu, uu, uu, uu, uu, uu, uu, uu, uu, uu, uu, uu, uu], [(20000000, (.arr 5 (.int .u8)))]⟩⟩]
noncomputable def L3 : LC := ⟨3, ⟨3, [0, 3, 4], []⟩, sh3, outs3, pre3, fn3⟩
noncomputable def H : List LC := [L3]
noncomputable def code (i : Nat) : Code := (loopsOf (bodyOf Try.f156)).getD i .skip
theorem step3 (x1 : (List Int)) (x2 : Int) (x3 : (List Int)) : L3.step E H (code 0) (x1, (x2, (x3, ()))) = raw3 x1 x2 x3 := by kernel_rfl
theorem lok3 : LoopOk E H (code 0) L3 := ⟨mu3, fun ⟨x1, x2, x3, ()⟩ hp => rounds_ok (step3 x1 x2 x3) (ok3 x1 x2 x3 hp)⟩
theorem run (x0 : (List Int)) : runFn E H Try.f156 fs.ps fs.rs (x0, ()) = raw x0 := by kernel_rfl
theorem env : EnvOk Try.prog E := env_nil tys
theorem loops : ∀ c, Try.f156.body = some c → LoopsOk E H c := loops_of (by kernel_rfl) (by kernel_rfl) fun i l h => match i, h with
  | 0, h => Option.some.inj h ▸ lok3
  | n + 1, h => by cases h
theorem sound : Sound Try.prog 156 fs := fn_sound env mixed Try.func156 H loops fun ⟨x0, ()⟩ hw hp => (run x0).trans (eq x0 hw hp)
theorem known : Seen Try.prog 156 fs := ⟨sound, _, Try.func156, by kernel_rfl, by kernel_rfl⟩
end laws_toByteS
namespace laws_toDisk
noncomputable def fs : FS := ⟨[(.val (.pair (.sl 5 (.int .u8)) (.pair (.int .i64) .unit)) .f)], [((.pair (.sl 5 (.int .u8)) (.pair (.int .i64) .unit)), .o)], fun x => laws_toDisk.pre x.1, fun x => ((), ((laws_toDisk x.1), ()))⟩
noncomputable def E : Env := ⟨theta, [(156, laws_toByteS.fs)], []⟩
noncomputable def H : List LC := []
noncomputable def code (i : Nat) : Code := (loopsOf (bodyOf Try.f129)).getD i .skip
theorem run (x0 : Disk) : runFn E H Try.f129 fs.ps fs.rs (x0, ()) = raw x0 := by kernel_rfl
theorem env : EnvOk Try.prog E := env_cons laws_toByteS.known (env_nil tys)
theorem loops : ∀ c, Try.f129.body = some c → LoopsOk E H c := loops_none (by kernel_rfl)
theorem sound : Sound Try.prog 129 fs := fn_sound env mixed Try.func129 H loops fun ⟨x0, ()⟩ hw hp => (run x0).trans (eq x0 hw hp)
theorem known : Seen Try.prog 129 fs := ⟨sound, _, Try.func129, by kernel_rfl, by kernel_rfl⟩
end laws_toDisk
namespace laws_toRpc
noncomputable def fs : FS := ⟨[(.val tyS19 .f)], [(tyS16, .o)], fun x => laws_toRpc.pre x.1, fun x => ((), ((laws_toRpc x.1), ()))⟩
noncomputable def E : Env := ⟨theta, [(130, laws_toEntryS.fs)], []⟩
noncomputable def H : List LC := []
noncomputable def code (i : Nat) : Code := (loopsOf (bodyOf Try.f99)).getD i .skip
theorem run (x0 : (Int × (Int × (Int × (Int × (Int × (Int × (Int × ((List Entry) × (Bool × ((List UInt8) × Unit))))))))))) : runFn E H Try.f99 fs.ps fs.rs (x0, ()) = raw x0 := by kernel_rfl
theorem env : EnvOk Try.prog E := env_cons laws_toEntryS.known (env_nil tys)
theorem loops : ∀ c, Try.f99.body = some c → LoopsOk E H c := loops_none (by kernel_rfl)
theorem sound : Sound Try.prog 99 fs := fn_sound env mixed Try.func99 H loops fun ⟨x0, ()⟩ hw hp => (run x0).trans (eq x0 hw hp)
theorem known : Seen Try.prog 99 fs := ⟨sound, _, Try.func99, by kernel_rfl, by kernel_rfl⟩
end laws_toRpc
namespace laws_toRpcS
noncomputable def fs : FS := ⟨[(.val (.sl 166 tyS19) .f)], [((.sl 181 tyS16), .o)], fun x => laws_toRpcS.pre x.1, fun x => ((), ((laws_toRpcS x.1), ()))⟩
noncomputable def E : Env := ⟨theta, [(99, laws_toRpc.fs)], []⟩
noncomputable def sh3 : ShSt := ⟨[(.one (.dat (.sl 166 tyS19))), uu, uu, (.one (.arr 20000000)), ui, uu, uu, uu, uu, uu, uu, uu, uu, uu, uu, uu, uu, uu, uu, uu, uu, uu, uu], [(20000000, (.arr 181 tyS16))]⟩
noncomputable def outs3 : List OutC := [⟨(.exit 0), ⟨0, [3], []⟩, ⟨[uu, uu, uu, (.one (.arr 20000000)), uu, uu, uu, uu, uu, uu, uu, uu, uu, uu, uu, uu, uu, uu, uu, uu, uu, uu, uu], [(20000000, (.arr 181 tyS16))]⟩⟩]
noncomputable def L3 : LC := ⟨3, ⟨3, [0, 3, 4], []⟩, sh3, outs3, pre3, fn3⟩
noncomputable def H : List LC := [L3]
noncomputable def code (i : Nat) : Code := (loopsOf (bodyOf Try.f61)).getD i .skip
theorem step3 (x1 : (List (Int × (Int × (Int × (Int × (Int × (Int × (Int × ((List Entry) × (Bool × ((List UInt8) × Unit)))))))))))) (x2 : Int) (x3 : (List (Int × (Int × (Int × (Int × (Int × (Int × (Int × ((List Entry) × (Bool × ((List UInt8) × Unit)))))))))))) : L3.step E H (code 0) (x1, (x2, (x3, ()))) = raw3 x1 x2 x3 := by kernel_rfl
theorem lok3 : LoopOk E H (code 0) L3 := ⟨mu3, fun ⟨x1, x2, x3, ()⟩ hp => rounds_ok (step3 x1 x2 x3) (ok3 x1 x2 x3 hp)⟩
theorem run (x0 : (List (Int × (Int × (Int × (Int × (Int × (Int × (Int × ((List Entry) × (Bool × ((List UInt8) × Unit)))))))))))) : runFn E H Try.f61 fs.ps fs.rs (x0, ()) = raw x0 := by kernel_rfl
theorem env : EnvOk Try.prog E := env_cons laws_toRpc.known (env_nil tys)
theorem loops : ∀ c, Try.f61.body = some c → LoopsOk E H c := loops_of (by kernel_rfl) (by kernel_rfl) fun i l h => match i, h with
  | 0, h => Option.some.inj h ▸ lok3
  | n + 1, h => by cases h
theorem sound : Sound Try.prog 61 fs := fn_sound env mixed Try.func61 H loops fun ⟨x0, ()⟩ hw hp => (run x0).trans (eq x0 hw hp)
theorem known : Seen Try.prog 61 fs := ⟨sound, _, Try.func61, by kernel_rfl, by kernel_rfl⟩
end laws_toRpcS
namespace laws_toPeer
noncomputable def fs : FS := ⟨[(.val tyS12 .f)], [(tyS11, .o)], fun x => laws_toPeer.pre x.1, fun x => ((), ((laws_toPeer x.1), ()))⟩
noncomputable def E : Env := ⟨theta, [(63, laws_toIntS.fs), (128, laws_toKeep.fs), (126, laws_toHard.fs), (127, laws_toBoolS.fs), (129, laws_toDisk.fs), (61, laws_toRpcS.fs)], []⟩
noncomputable def H : List LC := []
noncomputable def code (i : Nat) : Code := (loopsOf (bodyOf Try.f98)).getD i .skip
theorem run (x0 : (Int × ((Int × (Int × (Log × (((List Row) × ((List Maker) × ((List Group) × (Int × ((List Int) × ((List Answer) × Unit)))))) × Unit)))) × (Int × ((List Bool) × ((List Int) × ((List Int) × (Int × (((List Row) × ((List Maker) × ((List Group) × (Int × ((List Int) × ((List Answer) × Unit)))))) × (Disk × ((List (Int × (Int × (Int × (Int × (Int × (Int × (Int × ((List Entry) × (Bool × ((List UInt8) × Unit))))))))))) × Unit))))))))))) : runFn E H Try.f98 fs.ps fs.rs (x0, ()) = raw x0 := by kernel_rfl
theorem env : EnvOk Try.prog E := env_cons laws_toIntS.known (env_cons laws_toKeep.known (env_cons laws_toHard.known (env_cons laws_toBoolS.known (env_cons laws_toDisk.known (env_cons laws_toRpcS.known (env_nil tys))))))
theorem loops : ∀ c, Try.f98.body = some c → LoopsOk E H c := loops_none (by kernel_rfl)
theorem sound : Sound Try.prog 98 fs := fn_sound env mixed Try.func98 H loops fun ⟨x0, ()⟩ hw hp => (run x0).trans (eq x0 hw hp)
theorem known : Seen Try.prog 98 fs := ⟨sound, _, Try.func98, by kernel_rfl, by kernel_rfl⟩
end laws_toPeer
namespace laws_toPeerS
noncomputable def fs : FS := ⟨[(.val (.sl 163 tyS12) .f)], [((.sl 178 tyS11), .o)], fun x => laws_toPeerS.pre x.1, fun x => ((), ((laws_toPeerS x.1), ()))⟩
noncomputable def E : Env := ⟨theta, [(98, laws_toPeer.fs)], []⟩
noncomputable def sh3 : ShSt := ⟨[(.one (.dat (.sl 163 tyS12))), uu, uu, (.one (.arr 20000000)), ui, uu, uu, uu, uu, uu, uu, uu, uu, uu, uu, uu, uu, uu, uu, uu, uu, uu, uu], [(20000000, (.arr 178 tyS11))]⟩
noncomputable def outs3 : List OutC := [⟨(.exit 0), ⟨0, [3], []⟩, ⟨[uu, uu, uu, (.one (.arr 20000000)), uu, uu, uu, uu, uu, uu, uu, uu, uu, uu, uu, uu, uu, uu, uu, uu, uu, uu, uu], [(20000000, (.arr 178 tyS11))]⟩⟩]
noncomputable def L3 : LC := ⟨3, ⟨3, [0, 3, 4], []⟩, sh3, outs3, pre3, fn3⟩
noncomputable def H : List LC := [L3]
noncomputable def code (i : Nat) : Code := (loopsOf (bodyOf Try.f60)).getD i .skip
theorem step3 (x1 : (List (Int × ((Int × (Int × (Log × (((List Row) × ((List Maker) × ((List Group) × (Int × ((List Int) × ((List Answer) × Unit)))))) × Unit)))) × (Int × ((List Bool) × ((List Int) × ((List Int) × (Int × (((List Row) × ((List Maker) × ((List Group) × (Int × ((List Int) × ((List Answer) × Unit)))))) × (Disk × ((List (Int × (Int × (Int × (Int × (Int × (Int × (Int × ((List Entry) × (Bool × ((List UInt8) × Unit))))))))))) × Unit)))))))))))) (x2 : Int) (x3 : (List (Int × ((Int × (Int × (Log × (((List Row) × ((List Maker) × ((List Group) × (Int × ((List Int) × ((List Answer) × Unit)))))) × Unit)))) × (Int × ((List Bool) × ((List Int) × ((List Int) × (Int × (((List Row) × ((List Maker) × ((List Group) × (Int × ((List Int) × ((List Answer) × Unit)))))) × (Disk × ((List (Int × (Int × (Int × (Int × (Int × (Int × (Int × ((List Entry) × (Bool × ((List UInt8) × Unit))))))))))) × Unit)))))))))))) : L3.step E H (code 0) (x1, (x2, (x3, ()))) = raw3 x1 x2 x3 := by kernel_rfl
theorem lok3 : LoopOk E H (code 0) L3 := ⟨mu3, fun ⟨x1, x2, x3, ()⟩ hp => rounds_ok (step3 x1 x2 x3) (ok3 x1 x2 x3 hp)⟩
theorem run (x0 : (List (Int × ((Int × (Int × (Log × (((List Row) × ((List Maker) × ((List Group) × (Int × ((List Int) × ((List Answer) × Unit)))))) × Unit)))) × (Int × ((List Bool) × ((List Int) × ((List Int) × (Int × (((List Row) × ((List Maker) × ((List Group) × (Int × ((List Int) × ((List Answer) × Unit)))))) × (Disk × ((List (Int × (Int × (Int × (Int × (Int × (Int × (Int × ((List Entry) × (Bool × ((List UInt8) × Unit))))))))))) × Unit)))))))))))) : runFn E H Try.f60 fs.ps fs.rs (x0, ()) = raw x0 := by kernel_rfl
theorem env : EnvOk Try.prog E := env_cons laws_toPeer.known (env_nil tys)
theorem loops : ∀ c, Try.f60.body = some c → LoopsOk E H c := loops_of (by kernel_rfl) (by kernel_rfl) fun i l h => match i, h with
  | 0, h => Option.some.inj h ▸ lok3
  | n + 1, h => by cases h
theorem sound : Sound Try.prog 60 fs := fn_sound env mixed Try.func60 H loops fun ⟨x0, ()⟩ hw hp => (run x0).trans (eq x0 hw hp)
theorem known : Seen Try.prog 60 fs := ⟨sound, _, Try.func60, by kernel_rfl, by kernel_rfl⟩
end laws_toPeerS
namespace laws_toHeard
noncomputable def fs : FS := ⟨[(.val tyS113 .f)], [(tyS113, .o)], fun _ => true, fun x => ((), ((laws_toHeard x.1), ()))⟩
noncomputable def E : Env := ⟨theta, [(131, laws_toAnswer.fs)], []⟩
noncomputable def H : List LC := []
noncomputable def code (i : Nat) : Code := (loopsOf (bodyOf Try.f101)).getD i .skip
theorem run (x0 : Heard) : runFn E H Try.f101 fs.ps fs.rs (x0, ()) = raw x0 := by kernel_rfl
theorem env : EnvOk Try.prog E := env_cons laws_toAnswer.known (env_nil tys)
theorem loops : ∀ c, Try.f101.body = some c → LoopsOk E H c := loops_none (by kernel_rfl)
theorem sound : Sound Try.prog 101 fs := fn_sound env mixed Try.func101 H loops fun ⟨x0, ()⟩ hw _ => (run x0).trans (eq x0 hw)
theorem known : Seen Try.prog 101 fs := ⟨sound, _, Try.func101, by kernel_rfl, by kernel_rfl⟩
end laws_toHeard
namespace laws_toHeardS
noncomputable def fs : FS := ⟨[(.val (.sl 172 tyS113) .f)], [((.sl 103 tyS113), .o)], fun x => laws_toHeardS.pre x.1, fun x => ((), ((laws_toHeardS x.1), ()))⟩
noncomputable def E : Env := ⟨theta, [(101, laws_toHeard.fs)], []⟩
noncomputable def sh3 : ShSt := ⟨[(.one (.dat (.sl 172 tyS113))), uu, uu, (.one (.arr 20000000)), ui, uu, uu, uu, uu, uu, uu, uu, uu, uu, uu, uu, uu, uu, uu, uu, uu, uu, uu], [(20000000, (.arr 103 tyS113))]⟩
noncomputable def outs3 : List OutC := [⟨(.exit 0), ⟨0, [3], []⟩, ⟨[uu, uu, uu, (.one (.arr 20000000)), uu, uu, uu, uu, uu, uu, uu, uu, uu, uu, uu, uu, uu, uu, uu, uu, uu, uu, uu], [(20000000, (.arr 103 tyS113))]⟩⟩]
noncomputable def L3 : LC := ⟨3, ⟨3, [0, 3, 4], []⟩, sh3, outs3, pre3, fn3⟩
noncomputable def H : List LC := [L3]
noncomputable def code (i : Nat) : Code := (loopsOf (bodyOf Try.f64)).getD i .skip
theorem step3 (x1 : (List Heard)) (x2 : Int) (x3 : (List Heard)) : L3.step E H (code 0) (x1, (x2, (x3, ()))) = raw3 x1 x2 x3 := by kernel_rfl
theorem lok3 : LoopOk E H (code 0) L3 := ⟨mu3, fun ⟨x1, x2, x3, ()⟩ hp => rounds_ok (step3 x1 x2 x3) (ok3 x1 x2 x3 hp)⟩
theorem run (x0 : (List Heard)) : runFn E H Try.f64 fs.ps fs.rs (x0, ()) = raw x0 := by kernel_rfl
theorem env : EnvOk Try.prog E := env_cons laws_toHeard.known (env_nil tys)
theorem loops : ∀ c, Try.f64.body = some c → LoopsOk E H c := loops_of (by kernel_rfl) (by kernel_rfl) fun i l h => match i, h with
  | 0, h => Option.some.inj h ▸ lok3
  | n + 1, h => by cases h
theorem sound : Sound Try.prog 64 fs := fn_sound env mixed Try.func64 H loops fun ⟨x0, ()⟩ hw hp => (run x0).trans (eq x0 hw hp)
theorem known : Seen Try.prog 64 fs := ⟨sound, _, Try.func64, by kernel_rfl, by kernel_rfl⟩
end laws_toHeardS
namespace laws_toCmdS
noncomputable def fs : FS := ⟨[(.val (.sl 168 tyS13) .f)], [((.sl 87 tyS13), .o)], fun x => laws_toCmdS.pre x.1, fun x => ((), ((laws_toCmdS x.1), ()))⟩
noncomputable def E : Env := ⟨theta, [(100, laws_toCmd.fs)], []⟩
noncomputable def sh3 : ShSt := ⟨[(.one (.dat (.sl 168 tyS13))), uu, uu, (.one (.arr 20000000)), ui, uu, uu, uu, uu, uu, uu, uu, uu, uu, uu, uu, uu, uu, uu, uu, uu, uu, uu], [(20000000, (.arr 87 tyS13))]⟩
noncomputable def outs3 : List OutC := [⟨(.exit 0), ⟨0, [3], []⟩, ⟨[uu, uu, uu, (.one (.arr 20000000)), uu, uu, uu, uu, uu, uu, uu, uu, uu, uu, uu, uu, uu, uu, uu, uu, uu, uu, uu], [(20000000, (.arr 87 tyS13))]⟩⟩]
noncomputable def L3 : LC := ⟨3, ⟨3, [0, 3, 4], []⟩, sh3, outs3, pre3, fn3⟩
noncomputable def H : List LC := [L3]
noncomputable def code (i : Nat) : Code := (loopsOf (bodyOf Try.f62)).getD i .skip
theorem step3 (x1 : (List Cmd)) (x2 : Int) (x3 : (List Cmd)) : L3.step E H (code 0) (x1, (x2, (x3, ()))) = raw3 x1 x2 x3 := by kernel_rfl
theorem lok3 : LoopOk E H (code 0) L3 := ⟨mu3, fun ⟨x1, x2, x3, ()⟩ hp => rounds_ok (step3 x1 x2 x3) (ok3 x1 x2 x3 hp)⟩
theorem run (x0 : (List Cmd)) : runFn E H Try.f62 fs.ps fs.rs (x0, ()) = raw x0 := by kernel_rfl
theorem env : EnvOk Try.prog E := env_cons laws_toCmd.known (env_nil tys)
theorem loops : ∀ c, Try.f62.body = some c → LoopsOk E H c := loops_of (by kernel_rfl) (by kernel_rfl) fun i l h => match i, h with
  | 0, h => Option.some.inj h ▸ lok3
  | n + 1, h => by cases h
theorem sound : Sound Try.prog 62 fs := fn_sound env mixed Try.func62 H loops fun ⟨x0, ()⟩ hw hp => (run x0).trans (eq x0 hw hp)
theorem known : Seen Try.prog 62 fs := ⟨sound, _, Try.func62, by kernel_rfl, by kernel_rfl⟩
end laws_toCmdS
namespace laws_toWorld
noncomputable def fs : FS := ⟨[(.val tyS115 .f)], [(tyS110, .o)], fun x => laws_toWorld.pre x.1, fun x => ((), ((laws_toWorld x.1), ()))⟩
noncomputable def E : Env := ⟨theta, [(59, laws_toSetup.fs), (63, laws_toIntS.fs), (61, laws_toRpcS.fs), (60, laws_toPeerS.fs), (64, laws_toHeardS.fs), (62, laws_toCmdS.fs)], []⟩
noncomputable def H : List LC := []
noncomputable def code (i : Nat) : Code := (loopsOf (bodyOf Try.f26)).getD i .skip
theorem run (x0 : (Setup × (Int × ((List (Int × ((Int × (Int × (Log × (((List Row) × ((List Maker) × ((List Group) × (Int × ((List Int) × ((List Answer) × Unit)))))) × Unit)))) × (Int × ((List Bool) × ((List Int) × ((List Int) × (Int × (((List Row) × ((List Maker) × ((List Group) × (Int × ((List Int) × ((List Answer) × Unit)))))) × (Disk × ((List (Int × (Int × (Int × (Int × (Int × (Int × (Int × ((List Entry) × (Bool × ((List UInt8) × Unit))))))))))) × Unit))))))))))) × ((List (Int × (Int × (Int × (Int × (Int × (Int × (Int × ((List Entry) × (Bool × ((List UInt8) × Unit))))))))))) × ((List Cmd) × ((List Int) × ((List Heard) × ((List Cmd) × Unit))))))))) : runFn E H Try.f26 fs.ps fs.rs (x0, ()) = raw x0 := by kernel_rfl
theorem env : EnvOk Try.prog E := env_cons laws_toSetup.known (env_cons laws_toIntS.known (env_cons laws_toRpcS.known (env_cons laws_toPeerS.known (env_cons laws_toHeardS.known (env_cons laws_toCmdS.known (env_nil tys))))))
theorem loops : ∀ c, Try.f26.body = some c → LoopsOk E H c := loops_none (by kernel_rfl)
theorem sound : Sound Try.prog 26 fs := fn_sound env mixed Try.func26 H loops fun ⟨x0, ()⟩ hw hp => (run x0).trans (eq x0 hw hp)
theorem known : Seen Try.prog 26 fs := ⟨sound, _, Try.func26, by kernel_rfl, by kernel_rfl⟩
end laws_toWorld
namespace laws_eqSetup
noncomputable def fs : FS := ⟨[(.val (.pair (.int .i64) (.pair (.int .i64) tyS14)) .f), (.val (.pair (.int .i64) (.pair (.int .i64) tyS14)) .f)], [(.bool, .o)], fun _ => true, fun x => ((), ((laws_eqSetup x.1 x.2.1), ()))⟩
noncomputable def E : Env := ⟨theta, [], []⟩
noncomputable def H : List LC := []
noncomputable def code (i : Nat) : Code := (loopsOf (bodyOf Try.f67)).getD i .skip
theorem run (x0 : Setup) (x1 : Setup) : runFn E H Try.f67 fs.ps fs.rs (x0, (x1, ())) = raw x0 x1 := by kernel_rfl
theorem env : EnvOk Try.prog E := env_nil tys
theorem loops : ∀ c, Try.f67.body = some c → LoopsOk E H c := loops_none (by kernel_rfl)
theorem sound : Sound Try.prog 67 fs := fn_sound env mixed Try.func67 H loops fun ⟨x0, x1, ()⟩ hw _ => (run x0 x1).trans (eq x0 x1 hw)
theorem known : Seen Try.prog 67 fs := ⟨sound, _, Try.func67, by kernel_rfl, by kernel_rfl⟩
end laws_eqSetup
namespace laws_eqCmd
noncomputable def fs : FS := ⟨[(.val tyS13 .f), (.val tyS13 .f)], [(.bool, .o)], fun _ => true, fun x => ((), ((laws_eqCmd x.1 x.2.1), ()))⟩
noncomputable def E : Env := ⟨theta, [], []⟩
noncomputable def H : List LC := []
noncomputable def code (i : Nat) : Code := (loopsOf (bodyOf Try.f105)).getD i .skip
theorem run (x0 : Cmd) (x1 : Cmd) : runFn E H Try.f105 fs.ps fs.rs (x0, (x1, ())) = raw x0 x1 := by kernel_rfl
theorem env : EnvOk Try.prog E := env_nil tys
theorem loops : ∀ c, Try.f105.body = some c → LoopsOk E H c := loops_none (by kernel_rfl)
theorem sound : Sound Try.prog 105 fs := fn_sound env mixed Try.func105 H loops fun ⟨x0, x1, ()⟩ hw _ => (run x0 x1).trans (eq x0 x1 hw)
theorem known : Seen Try.prog 105 fs := ⟨sound, _, Try.func105, by kernel_rfl, by kernel_rfl⟩
end laws_eqCmd
namespace laws_eqEntry
noncomputable def fs : FS := ⟨[(.val (.pair (.int .i64) (.pair tyS13 .unit)) .f), (.val (.pair (.int .i64) (.pair tyS13 .unit)) .f)], [(.bool, .o)], fun _ => true, fun x => ((), ((laws_eqEntry x.1 x.2.1), ()))⟩
noncomputable def E : Env := ⟨theta, [(105, laws_eqCmd.fs)], []⟩
noncomputable def H : List LC := []
noncomputable def code (i : Nat) : Code := (loopsOf (bodyOf Try.f164)).getD i .skip
theorem run (x0 : Entry) (x1 : Entry) : runFn E H Try.f164 fs.ps fs.rs (x0, (x1, ())) = raw x0 x1 := by kernel_rfl
theorem env : EnvOk Try.prog E := env_cons laws_eqCmd.known (env_nil tys)
theorem loops : ∀ c, Try.f164.body = some c → LoopsOk E H c := loops_none (by kernel_rfl)
theorem sound : Sound Try.prog 164 fs := fn_sound env mixed Try.func164 H loops fun ⟨x0, x1, ()⟩ hw _ => (run x0 x1).trans (eq x0 x1 hw)
theorem known : Seen Try.prog 164 fs := ⟨sound, _, Try.func164, by kernel_rfl, by kernel_rfl⟩
end laws_eqEntry
namespace laws_eqEntryS
noncomputable def fs : FS := ⟨[(.val (.sl 89 (.pair (.int .i64) (.pair tyS13 .unit))) .f), (.val (.sl 89 (.pair (.int .i64) (.pair tyS13 .unit))) .f)], [(.bool, .o)], fun _ => true, fun x => ((), ((laws_eqEntryS x.1 x.2.1), ()))⟩
noncomputable def E : Env := ⟨theta, [(164, laws_eqEntry.fs)], []⟩
noncomputable def sh4 : ShSt := ⟨[(.one (.dat (.sl 89 (.pair (.int .i64) (.pair tyS13 .unit))))), (.one (.dat (.sl 89 (.pair (.int .i64) (.pair tyS13 .unit))))), uu, uu, uu, ui, uu, uu, uu, uu, uu, uu, uu, uu, uu, uu, uu, uu, uu, uu, uu, uu, uu, uu, uu, uu, uu], []⟩
noncomputable def outs4 : List OutC := [⟨.ret, ⟨0, [4], []⟩, ⟨[uu, uu, uu, uu, (.one (.dat .bool)), uu, uu, uu, uu, uu, uu, uu, uu, uu, uu, uu, uu, uu, uu, uu, uu, uu, uu, uu, uu, uu, uu], []⟩⟩, ⟨(.exit 0), ⟨0, [], []⟩, ⟨[uu, uu, uu, uu, uu, uu, uu, uu, uu, uu, uu, uu, uu, uu, uu, uu, uu, uu, uu, uu, uu, uu, uu, uu, uu, uu, uu], []⟩⟩]
noncomputable def L4 : LC := ⟨4, ⟨4, [1, 0, 5], []⟩, sh4, outs4, pre4, fn4⟩
noncomputable def H : List LC := [L4]
noncomputable def code (i : Nat) : Code := (loopsOf (bodyOf Try.f136)).getD i .skip
theorem step4 (x1 : (List Entry)) (x2 : (List Entry)) (x3 : Int) : L4.step E H (code 0) (x1, (x2, (x3, ()))) = raw4 x1 x2 x3 := by kernel_rfl
theorem lok4 : LoopOk E H (code 0) L4 := ⟨mu4, fun ⟨x1, x2, x3, ()⟩ hp => rounds_ok (step4 x1 x2 x3) (ok4 x1 x2 x3 hp)⟩
theorem run (x0 : (List Entry)) (x1 : (List Entry)) : runFn E H Try.f136 fs.ps fs.rs (x0, (x1, ())) = raw x0 x1 := by kernel_rfl
theorem env : EnvOk Try.prog E := env_cons laws_eqEntry.known (env_nil tys)
theorem loops : ∀ c, Try.f136.body = some c → LoopsOk E H c := loops_of (by kernel_rfl) (by kernel_rfl) fun i l h => match i, h with
  | 0, h => Option.some.inj h ▸ lok4
  | n + 1, h => by cases h
theorem sound : Sound Try.prog 136 fs := fn_sound env mixed Try.func136 H loops fun ⟨x0, x1, ()⟩ hw _ => (run x0 x1).trans (eq x0 x1 hw)
theorem known : Seen Try.prog 136 fs := ⟨sound, _, Try.func136, by kernel_rfl, by kernel_rfl⟩
end laws_eqEntryS
namespace laws_eqLog
noncomputable def fs : FS := ⟨[(.val tyS116 .f), (.val tyS116 .f)], [(.bool, .o)], fun _ => true, fun x => ((), ((laws_eqLog x.1 x.2.1), ()))⟩
noncomputable def E : Env := ⟨theta, [(136, laws_eqEntryS.fs)], []⟩
noncomputable def H : List LC := []
noncomputable def code (i : Nat) : Code := (loopsOf (bodyOf Try.f158)).getD i .skip
theorem run (x0 : Log) (x1 : Log) : runFn E H Try.f158 fs.ps fs.rs (x0, (x1, ())) = raw x0 x1 := by kernel_rfl
theorem env : EnvOk Try.prog E := env_cons laws_eqEntryS.known (env_nil tys)
theorem loops : ∀ c, Try.f158.body = some c → LoopsOk E H c := loops_none (by kernel_rfl)
theorem sound : Sound Try.prog 158 fs := fn_sound env mixed Try.func158 H loops fun ⟨x0, x1, ()⟩ hw _ => (run x0 x1).trans (eq x0 x1 hw)
theorem known : Seen Try.prog 158 fs := ⟨sound, _, Try.func158, by kernel_rfl, by kernel_rfl⟩
end laws_eqLog
namespace laws_eqItem
noncomputable def fs : FS := ⟨[(.val tyS112 .f), (.val tyS112 .f)], [(.bool, .o)], fun _ => true, fun x => ((), ((laws_eqItem x.1 x.2.1), ()))⟩
noncomputable def E : Env := ⟨theta, [], []⟩
noncomputable def H : List LC := []
noncomputable def code (i : Nat) : Code := (loopsOf (bodyOf Try.f204)).getD i .skip
theorem run (x0 : Item) (x1 : Item) : runFn E H Try.f204 fs.ps fs.rs (x0, (x1, ())) = raw x0 x1 := by kernel_rfl
theorem env : EnvOk Try.prog E := env_nil tys
theorem loops : ∀ c, Try.f204.body = some c → LoopsOk E H c := loops_none (by kernel_rfl)
theorem sound : Sound Try.prog 204 fs := fn_sound env mixed Try.func204 H loops fun ⟨x0, x1, ()⟩ hw _ => (run x0 x1).trans (eq x0 x1 hw)
theorem known : Seen Try.prog 204 fs := ⟨sound, _, Try.func204, by kernel_rfl, by kernel_rfl⟩
end laws_eqItem
namespace laws_eqItemS
noncomputable def fs : FS := ⟨[(.val (.sl 200 tyS112) .f), (.val (.sl 200 tyS112) .f)], [(.bool, .o)], fun _ => true, fun x => ((), ((laws_eqItemS x.1 x.2.1), ()))⟩
noncomputable def E : Env := ⟨theta, [(204, laws_eqItem.fs)], []⟩
noncomputable def sh4 : ShSt := ⟨[(.one (.dat (.sl 200 tyS112))), (.one (.dat (.sl 200 tyS112))), uu, uu, uu, ui, uu, uu, uu, uu, uu, uu, uu, uu, uu, uu, uu, uu, uu, uu, uu, uu, uu, uu, uu, uu, uu], []⟩
noncomputable def outs4 : List OutC := [⟨.ret, ⟨0, [4], []⟩, ⟨[uu, uu, uu, uu, (.one (.dat .bool)), uu, uu, uu, uu, uu, uu, uu, uu, uu, uu, uu, uu, uu, uu, uu, uu, uu, uu, uu, uu, uu, uu], []⟩⟩, ⟨(.exit 0), ⟨0, [], []⟩, ⟨[uu, uu, uu, uu, uu, uu, uu, uu, uu, uu, uu, uu, uu, uu, uu, uu, uu, uu, uu, uu, uu, uu, uu, uu, uu, uu, uu], []⟩⟩]
noncomputable def L4 : LC := ⟨4, ⟨4, [1, 0, 5], []⟩, sh4, outs4, pre4, fn4⟩
noncomputable def H : List LC := [L4]
noncomputable def code (i : Nat) : Code := (loopsOf (bodyOf Try.f189)).getD i .skip
theorem step4 (x1 : (List Item)) (x2 : (List Item)) (x3 : Int) : L4.step E H (code 0) (x1, (x2, (x3, ()))) = raw4 x1 x2 x3 := by kernel_rfl
theorem lok4 : LoopOk E H (code 0) L4 := ⟨mu4, fun ⟨x1, x2, x3, ()⟩ hp => rounds_ok (step4 x1 x2 x3) (ok4 x1 x2 x3 hp)⟩
theorem run (x0 : (List Item)) (x1 : (List Item)) : runFn E H Try.f189 fs.ps fs.rs (x0, (x1, ())) = raw x0 x1 := by kernel_rfl
theorem env : EnvOk Try.prog E := env_cons laws_eqItem.known (env_nil tys)
theorem loops : ∀ c, Try.f189.body = some c → LoopsOk E H c := loops_of (by kernel_rfl) (by kernel_rfl) fun i l h => match i, h with
  | 0, h => Option.some.inj h ▸ lok4
  | n + 1, h => by cases h
theorem sound : Sound Try.prog 189 fs := fn_sound env mixed Try.func189 H loops fun ⟨x0, x1, ()⟩ hw _ => (run x0 x1).trans (eq x0 x1 hw)
theorem known : Seen Try.prog 189 fs := ⟨sound, _, Try.func189, by kernel_rfl, by kernel_rfl⟩
end laws_eqItemS
namespace laws_eqRow
noncomputable def fs : FS := ⟨[(.val tyS118 .f), (.val tyS118 .f)], [(.bool, .o)], fun _ => true, fun x => ((), ((laws_eqRow x.1 x.2.1), ()))⟩
noncomputable def E : Env := ⟨theta, [(189, laws_eqItemS.fs)], []⟩
noncomputable def H : List LC := []
noncomputable def code (i : Nat) : Code := (loopsOf (bodyOf Try.f175)).getD i .skip
theorem run (x0 : Row) (x1 : Row) : runFn E H Try.f175 fs.ps fs.rs (x0, (x1, ())) = raw x0 x1 := by kernel_rfl
theorem env : EnvOk Try.prog E := env_cons laws_eqItemS.known (env_nil tys)
theorem loops : ∀ c, Try.f175.body = some c → LoopsOk E H c := loops_none (by kernel_rfl)
theorem sound : Sound Try.prog 175 fs := fn_sound env mixed Try.func175 H loops fun ⟨x0, x1, ()⟩ hw _ => (run x0 x1).trans (eq x0 x1 hw)
theorem known : Seen Try.prog 175 fs := ⟨sound, _, Try.func175, by kernel_rfl, by kernel_rfl⟩
end laws_eqRow
namespace laws_eqRowS
noncomputable def fs : FS := ⟨[(.val (.sl 197 tyS118) .f), (.val (.sl 197 tyS118) .f)], [(.bool, .o)], fun _ => true, fun x => ((), ((laws_eqRowS x.1 x.2.1), ()))⟩
noncomputable def E : Env := ⟨theta, [(175, laws_eqRow.fs)], []⟩
noncomputable def sh4 : ShSt := ⟨[(.one (.dat (.sl 197 tyS118))), (.one (.dat (.sl 197 tyS118))), uu, uu, uu, ui, uu, uu, uu, uu, uu, uu, uu, uu, uu, uu, uu, uu, uu, uu, uu, uu, uu, uu, uu, uu, uu], []⟩
noncomputable def outs4 : List OutC := [⟨.ret, ⟨0, [4], []⟩, ⟨[uu, uu, uu, uu, (.one (.dat .bool)), uu, uu, uu, uu, uu, uu, uu, uu, uu, uu, uu, uu, uu, uu, uu, uu, uu, uu, uu, uu, uu, uu], []⟩⟩, ⟨(.exit 0), ⟨0, [], []⟩, ⟨[uu, uu, uu, uu, uu, uu, uu, uu, uu, uu, uu, uu, uu, uu, uu, uu, uu, uu, uu, uu, uu, uu, uu, uu, uu, uu, uu], []⟩⟩]
noncomputable def L4 : LC := ⟨4, ⟨4, [1, 0, 5], []⟩, sh4, outs4, pre4, fn4⟩
noncomputable def H : List LC := [L4]
noncomputable def code (i : Nat) : Code := (loopsOf (bodyOf Try.f159)).getD i .skip
theorem step4 (x1 : (List Row)) (x2 : (List Row)) (x3 : Int) : L4.step E H (code 0) (x1, (x2, (x3, ()))) = raw4 x1 x2 x3 := by kernel_rfl
theorem lok4 : LoopOk E H (code 0) L4 := ⟨mu4, fun ⟨x1, x2, x3, ()⟩ hp => rounds_ok (step4 x1 x2 x3) (ok4 x1 x2 x3 hp)⟩
theorem run (x0 : (List Row)) (x1 : (List Row)) : runFn E H Try.f159 fs.ps fs.rs (x0, (x1, ())) = raw x0 x1 := by kernel_rfl
theorem env : EnvOk Try.prog E := env_cons laws_eqRow.known (env_nil tys)
theorem loops : ∀ c, Try.f159.body = some c → LoopsOk E H c := loops_of (by kernel_rfl) (by kernel_rfl) fun i l h => match i, h with
  | 0, h => Option.some.inj h ▸ lok4
  | n + 1, h => by cases h
theorem sound : Sound Try.prog 159 fs := fn_sound env mixed Try.func159 H loops fun ⟨x0, x1, ()⟩ hw _ => (run x0 x1).trans (eq x0 x1 hw)
theorem known : Seen Try.prog 159 fs := ⟨sound, _, Try.func159, by kernel_rfl, by kernel_rfl⟩
end laws_eqRowS
namespace laws_eqMark
noncomputable def fs : FS := ⟨[(.val tyS14 .f), (.val tyS14 .f)], [(.bool, .o)], fun _ => true, fun x => ((), ((laws_eqMark x.1 x.2.1), ()))⟩
noncomputable def E : Env := ⟨theta, [], []⟩
noncomputable def H : List LC := []
noncomputable def code (i : Nat) : Code := (loopsOf (bodyOf Try.f205)).getD i .skip
theorem run (x0 : Mark) (x1 : Mark) : runFn E H Try.f205 fs.ps fs.rs (x0, (x1, ())) = raw x0 x1 := by kernel_rfl
theorem env : EnvOk Try.prog E := env_nil tys
theorem loops : ∀ c, Try.f205.body = some c → LoopsOk E H c := loops_none (by kernel_rfl)
theorem sound : Sound Try.prog 205 fs := fn_sound env mixed Try.func205 H loops fun ⟨x0, x1, ()⟩ hw _ => (run x0 x1).trans (eq x0 x1 hw)
theorem known : Seen Try.prog 205 fs := ⟨sound, _, Try.func205, by kernel_rfl, by kernel_rfl⟩
end laws_eqMark
namespace laws_eqMarkS
noncomputable def fs : FS := ⟨[(.val (.sl 205 tyS14) .f), (.val (.sl 205 tyS14) .f)], [(.bool, .o)], fun _ => true, fun x => ((), ((laws_eqMarkS x.1 x.2.1), ()))⟩
noncomputable def E : Env := ⟨theta, [(205, laws_eqMark.fs)], []⟩
noncomputable def sh4 : ShSt := ⟨[(.one (.dat (.sl 205 tyS14))), (.one (.dat (.sl 205 tyS14))), uu, uu, uu, ui, uu, uu, uu, uu, uu, uu, uu, uu, uu, uu, uu, uu, uu, uu, uu, uu, uu, uu, uu, uu, uu], []⟩
noncomputable def outs4 : List OutC := [⟨.ret, ⟨0, [4], []⟩, ⟨[uu, uu, uu, uu, (.one (.dat .bool)), uu, uu, uu, uu, uu, uu, uu, uu, uu, uu, uu, uu, uu, uu, uu, uu, uu, uu, uu, uu, uu, uu], []⟩⟩, ⟨(.exit 0), ⟨0, [], []⟩, ⟨[uu, uu, uu, uu, uu, uu, uu, uu, uu, uu, uu, uu, uu, uu, uu, uu, uu, uu, uu, uu, uu, uu, uu, uu, uu, uu, uu], []⟩⟩]
noncomputable def L4 : LC := ⟨4, ⟨4, [1, 0, 5], []⟩, sh4, outs4, pre4, fn4⟩
noncomputable def H : List LC := [L4]
noncomputable def code (i : Nat) : Code := (loopsOf (bodyOf Try.f190)).getD i .skip
theorem step4 (x1 : (List Mark)) (x2 : (List Mark)) (x3 : Int) : L4.step E H (code 0) (x1, (x2, (x3, ()))) = raw4 x1 x2 x3 := by kernel_rfl
theorem lok4 : LoopOk E H (code 0) L4 := ⟨mu4, fun ⟨x1, x2, x3, ()⟩ hp => rounds_ok (step4 x1 x2 x3) (ok4 x1 x2 x3 hp)⟩
theorem run (x0 : (List Mark)) (x1 : (List Mark)) : runFn E H Try.f190 fs.ps fs.rs (x0, (x1, ())) = raw x0 x1 := by kernel_rfl
theorem env : EnvOk Try.prog E := env_cons laws_eqMark.known (env_nil tys)
theorem loops : ∀ c, Try.f190.body = some c → LoopsOk E H c := loops_of (by kernel_rfl) (by kernel_rfl) fun i l h => match i, h with
  | 0, h => Option.some.inj h ▸ lok4
  | n + 1, h => by cases h
theorem sound : Sound Try.prog 190 fs := fn_sound env mixed Try.func190 H loops fun ⟨x0, x1, ()⟩ hw _ => (run x0 x1).trans (eq x0 x1 hw)
theorem known : Seen Try.prog 190 fs := ⟨sound, _, Try.func190, by kernel_rfl, by kernel_rfl⟩
end laws_eqMarkS
namespace laws_eqMaker
noncomputable def fs : FS := ⟨[(.val tyS114 .f), (.val tyS114 .f)], [(.bool, .o)], fun _ => true, fun x => ((), ((laws_eqMaker x.1 x.2.1), ()))⟩
noncomputable def E : Env := ⟨theta, [(190, laws_eqMarkS.fs)], []⟩
noncomputable def H : List LC := []
noncomputable def code (i : Nat) : Code := (loopsOf (bodyOf Try.f176)).getD i .skip
theorem run (x0 : Maker) (x1 : Maker) : runFn E H Try.f176 fs.ps fs.rs (x0, (x1, ())) = raw x0 x1 := by kernel_rfl
theorem env : EnvOk Try.prog E := env_cons laws_eqMarkS.known (env_nil tys)
theorem loops : ∀ c, Try.f176.body = some c → LoopsOk E H c := loops_none (by kernel_rfl)
theorem sound : Sound Try.prog 176 fs := fn_sound env mixed Try.func176 H loops fun ⟨x0, x1, ()⟩ hw _ => (run x0 x1).trans (eq x0 x1 hw)
theorem known : Seen Try.prog 176 fs := ⟨sound, _, Try.func176, by kernel_rfl, by kernel_rfl⟩
end laws_eqMaker
namespace laws_eqMakerS
noncomputable def fs : FS := ⟨[(.val (.sl 203 tyS114) .f), (.val (.sl 203 tyS114) .f)], [(.bool, .o)], fun _ => true, fun x => ((), ((laws_eqMakerS x.1 x.2.1), ()))⟩
noncomputable def E : Env := ⟨theta, [(176, laws_eqMaker.fs)], []⟩
noncomputable def sh4 : ShSt := ⟨[(.one (.dat (.sl 203 tyS114))), (.one (.dat (.sl 203 tyS114))), uu, uu, uu, ui, uu, uu, uu, uu, uu, uu, uu, uu, uu, uu, uu, uu, uu, uu, uu, uu, uu, uu, uu, uu, uu], []⟩
noncomputable def outs4 : List OutC := [⟨.ret, ⟨0, [4], []⟩, ⟨[uu, uu, uu, uu, (.one (.dat .bool)), uu, uu, uu, uu, uu, uu, uu, uu, uu, uu, uu, uu, uu, uu, uu, uu, uu, uu, uu, uu, uu, uu], []⟩⟩, ⟨(.exit 0), ⟨0, [], []⟩, ⟨[uu, uu, uu, uu, uu, uu, uu, uu, uu, uu, uu, uu, uu, uu, uu, uu, uu, uu, uu, uu, uu, uu, uu, uu, uu, uu, uu], []⟩⟩]
noncomputable def L4 : LC := ⟨4, ⟨4, [1, 0, 5], []⟩, sh4, outs4, pre4, fn4⟩
noncomputable def H : List LC := [L4]
noncomputable def code (i : Nat) : Code := (loopsOf (bodyOf Try.f160)).getD i .skip
theorem step4 (x1 : (List Maker)) (x2 : (List Maker)) (x3 : Int) : L4.step E H (code 0) (x1, (x2, (x3, ()))) = raw4 x1 x2 x3 := by kernel_rfl
theorem lok4 : LoopOk E H (code 0) L4 := ⟨mu4, fun ⟨x1, x2, x3, ()⟩ hp => rounds_ok (step4 x1 x2 x3) (ok4 x1 x2 x3 hp)⟩
theorem run (x0 : (List Maker)) (x1 : (List Maker)) : runFn E H Try.f160 fs.ps fs.rs (x0, (x1, ())) = raw x0 x1 := by kernel_rfl
theorem env : EnvOk Try.prog E := env_cons laws_eqMaker.known (env_nil tys)
theorem loops : ∀ c, Try.f160.body = some c → LoopsOk E H c := loops_of (by kernel_rfl) (by kernel_rfl) fun i l h => match i, h with
  | 0, h => Option.some.inj h ▸ lok4
  | n + 1, h => by cases h
theorem sound : Sound Try.prog 160 fs := fn_sound env mixed Try.func160 H loops fun ⟨x0, x1, ()⟩ hw _ => (run x0 x1).trans (eq x0 x1 hw)
theorem known : Seen Try.prog 160 fs := ⟨sound, _, Try.func160, by kernel_rfl, by kernel_rfl⟩
end laws_eqMakerS
namespace laws_eqIntS
noncomputable def fs : FS := ⟨[(.val (.sl 3 (.int .i64)) .f), (.val (.sl 3 (.int .i64)) .f)], [(.bool, .o)], fun _ => true, fun x => ((), ((laws_eqIntS x.1 x.2.1), ()))⟩
noncomputable def E : Env := ⟨theta, [], []⟩
noncomputable def sh4 : ShSt := ⟨[(.one (.dat (.sl 3 (.int .i64)))), (.one (.dat (.sl 3 (.int .i64)))), uu, uu, uu, ui, uu, uu, uu, uu, uu, uu, uu, uu, uu, uu, uu, uu, uu, uu, uu, uu, uu, uu, uu, uu], []⟩
noncomputable def outs4 : List OutC := [⟨.ret, ⟨0, [4], []⟩, ⟨[uu, uu, uu, uu, (.one (.dat .bool)), uu, uu, uu, uu, uu, uu, uu, uu, uu, uu, uu, uu, uu, uu, uu, uu, uu, uu, uu, uu, uu], []⟩⟩, ⟨(.exit 0), ⟨0, [], []⟩, ⟨[uu, uu, uu, uu, uu, uu, uu, uu, uu, uu, uu, uu, uu, uu, uu, uu, uu, uu, uu, uu, uu, uu, uu, uu, uu, uu], []⟩⟩]
noncomputable def L4 : LC := ⟨4, ⟨4, [1, 0, 5], []⟩, sh4, outs4, pre4, fn4⟩
noncomputable def H : List LC := [L4]
noncomputable def code (i : Nat) : Code := (loopsOf (bodyOf Try.f71)).getD i .skip
theorem step4 (x1 : (List Int)) (x2 : (List Int)) (x3 : Int) : L4.step E H (code 0) (x1, (x2, (x3, ()))) = raw4 x1 x2 x3 := by kernel_rfl
theorem lok4 : LoopOk E H (code 0) L4 := ⟨mu4, fun ⟨x1, x2, x3, ()⟩ hp => rounds_ok (step4 x1 x2 x3) (ok4 x1 x2 x3 hp)⟩
theorem run (x0 : (List Int)) (x1 : (List Int)) : runFn E H Try.f71 fs.ps fs.rs (x0, (x1, ())) = raw x0 x1 := by kernel_rfl
theorem env : EnvOk Try.prog E := env_nil tys
theorem loops : ∀ c, Try.f71.body = some c → LoopsOk E H c := loops_of (by kernel_rfl) (by kernel_rfl) fun i l h => match i, h with
  | 0, h => Option.some.inj h ▸ lok4
  | n + 1, h => by cases h
theorem sound : Sound Try.prog 71 fs := fn_sound env mixed Try.func71 H loops fun ⟨x0, x1, ()⟩ hw _ => (run x0 x1).trans (eq x0 x1 hw)
theorem known : Seen Try.prog 71 fs := ⟨sound, _, Try.func71, by kernel_rfl, by kernel_rfl⟩
end laws_eqIntS
namespace laws_eqGroup
noncomputable def fs : FS := ⟨[(.val tyS111 .f), (.val tyS111 .f)], [(.bool, .o)], fun _ => true, fun x => ((), ((laws_eqGroup x.1 x.2.1), ()))⟩
noncomputable def E : Env := ⟨theta, [(71, laws_eqIntS.fs)], []⟩
noncomputable def H : List LC := []
noncomputable def code (i : Nat) : Code := (loopsOf (bodyOf Try.f177)).getD i .skip
theorem run (x0 : Group) (x1 : Group) : runFn E H Try.f177 fs.ps fs.rs (x0, (x1, ())) = raw x0 x1 := by kernel_rfl
theorem env : EnvOk Try.prog E := env_cons laws_eqIntS.known (env_nil tys)
theorem loops : ∀ c, Try.f177.body = some c → LoopsOk E H c := loops_none (by kernel_rfl)
theorem sound : Sound Try.prog 177 fs := fn_sound env mixed Try.func177 H loops fun ⟨x0, x1, ()⟩ hw _ => (run x0 x1).trans (eq x0 x1 hw)
theorem known : Seen Try.prog 177 fs := ⟨sound, _, Try.func177, by kernel_rfl, by kernel_rfl⟩
end laws_eqGroup
namespace laws_eqGroupS
noncomputable def fs : FS := ⟨[(.val (.sl 207 tyS111) .f), (.val (.sl 207 tyS111) .f)], [(.bool, .o)], fun _ => true, fun x => ((), ((laws_eqGroupS x.1 x.2.1), ()))⟩
noncomputable def E : Env := ⟨theta, [(177, laws_eqGroup.fs)], []⟩
noncomputable def sh4 : ShSt := ⟨[(.one (.dat (.sl 207 tyS111))), (.one (.dat (.sl 207 tyS111))), uu, uu, uu, ui, uu, uu, uu, uu, uu, uu, uu, uu, uu, uu, uu, uu, uu, uu, uu, uu, uu, uu, uu, uu, uu], []⟩
noncomputable def outs4 : List OutC := [⟨.ret, ⟨0, [4], []⟩, ⟨[uu, uu, uu, uu, (.one (.dat .bool)), uu, uu, uu, uu, uu, uu, uu, uu, uu, uu, uu, uu, uu, uu, uu, uu, uu, uu, uu, uu, uu, uu], []⟩⟩, ⟨(.exit 0), ⟨0, [], []⟩, ⟨[uu, uu, uu, uu, uu, uu, uu, uu, uu, uu, uu, uu, uu, uu, uu, uu, uu, uu, uu, uu, uu, uu, uu, uu, uu, uu, uu], []⟩⟩]
noncomputable def L4 : LC := ⟨4, ⟨4, [1, 0, 5], []⟩, sh4, outs4, pre4, fn4⟩
noncomputable def H : List LC := [L4]
noncomputable def code (i : Nat) : Code := (loopsOf (bodyOf Try.f161)).getD i .skip
theorem step4 (x1 : (List Group)) (x2 : (List Group)) (x3 : Int) : L4.step E H (code 0) (x1, (x2, (x3, ()))) = raw4 x1 x2 x3 := by kernel_rfl
theorem lok4 : LoopOk E H (code 0) L4 := ⟨mu4, fun ⟨x1, x2, x3, ()⟩ hp => rounds_ok (step4 x1 x2 x3) (ok4 x1 x2 x3 hp)⟩
theorem run (x0 : (List Group)) (x1 : (List Group)) : runFn E H Try.f161 fs.ps fs.rs (x0, (x1, ())) = raw x0 x1 := by kernel_rfl
theorem env : EnvOk Try.prog E := env_cons laws_eqGroup.known (env_nil tys)
theorem loops : ∀ c, Try.f161.body = some c → LoopsOk E H c := loops_of (by kernel_rfl) (by kernel_rfl) fun i l h => match i, h with
  | 0, h => Option.some.inj h ▸ lok4
  | n + 1, h => by cases h
theorem sound : Sound Try.prog 161 fs := fn_sound env mixed Try.func161 H loops fun ⟨x0, x1, ()⟩ hw _ => (run x0 x1).trans (eq x0 x1 hw)
theorem known : Seen Try.prog 161 fs := ⟨sound, _, Try.func161, by kernel_rfl, by kernel_rfl⟩
end laws_eqGroupS
namespace laws_eqAnswer
noncomputable def fs : FS := ⟨[(.val tyS15 .f), (.val tyS15 .f)], [(.bool, .o)], fun _ => true, fun x => ((), ((laws_eqAnswer x.1 x.2.1), ()))⟩
noncomputable def E : Env := ⟨theta, [], []⟩
noncomputable def H : List LC := []
noncomputable def code (i : Nat) : Code := (loopsOf (bodyOf Try.f137)).getD i .skip
theorem run (x0 : Answer) (x1 : Answer) : runFn E H Try.f137 fs.ps fs.rs (x0, (x1, ())) = raw x0 x1 := by kernel_rfl
theorem env : EnvOk Try.prog E := env_nil tys
theorem loops : ∀ c, Try.f137.body = some c → LoopsOk E H c := loops_none (by kernel_rfl)
theorem sound : Sound Try.prog 137 fs := fn_sound env mixed Try.func137 H loops fun ⟨x0, x1, ()⟩ hw _ => (run x0 x1).trans (eq x0 x1 hw)
theorem known : Seen Try.prog 137 fs := ⟨sound, _, Try.func137, by kernel_rfl, by kernel_rfl⟩
end laws_eqAnswer
namespace laws_eqAnswerS
noncomputable def fs : FS := ⟨[(.val (.sl 101 tyS15) .f), (.val (.sl 101 tyS15) .f)], [(.bool, .o)], fun _ => true, fun x => ((), ((laws_eqAnswerS x.1 x.2.1), ()))⟩
noncomputable def E : Env := ⟨theta, [(137, laws_eqAnswer.fs)], []⟩
noncomputable def sh4 : ShSt := ⟨[(.one (.dat (.sl 101 tyS15))), (.one (.dat (.sl 101 tyS15))), uu, uu, uu, ui, uu, uu, uu, uu, uu, uu, uu, uu, uu, uu, uu, uu, uu, uu, uu, uu, uu, uu, uu, uu, uu], []⟩
noncomputable def outs4 : List OutC := [⟨.ret, ⟨0, [4], []⟩, ⟨[uu, uu, uu, uu, (.one (.dat .bool)), uu, uu, uu, uu, uu, uu, uu, uu, uu, uu, uu, uu, uu, uu, uu, uu, uu, uu, uu, uu, uu, uu], []⟩⟩, ⟨(.exit 0), ⟨0, [], []⟩, ⟨[uu, uu, uu, uu, uu, uu, uu, uu, uu, uu, uu, uu, uu, uu, uu, uu, uu, uu, uu, uu, uu, uu, uu, uu, uu, uu, uu], []⟩⟩]
noncomputable def L4 : LC := ⟨4, ⟨4, [1, 0, 5], []⟩, sh4, outs4, pre4, fn4⟩
noncomputable def H : List LC := [L4]
noncomputable def code (i : Nat) : Code := (loopsOf (bodyOf Try.f162)).getD i .skip
theorem step4 (x1 : (List Answer)) (x2 : (List Answer)) (x3 : Int) : L4.step E H (code 0) (x1, (x2, (x3, ()))) = raw4 x1 x2 x3 := by kernel_rfl
theorem lok4 : LoopOk E H (code 0) L4 := ⟨mu4, fun ⟨x1, x2, x3, ()⟩ hp => rounds_ok (step4 x1 x2 x3) (ok4 x1 x2 x3 hp)⟩
theorem run (x0 : (List Answer)) (x1 : (List Answer)) : runFn E H Try.f162 fs.ps fs.rs (x0, (x1, ())) = raw x0 x1 := by kernel_rfl
theorem env : EnvOk Try.prog E := env_cons laws_eqAnswer.known (env_nil tys)
theorem loops : ∀ c, Try.f162.body = some c → LoopsOk E H c := loops_of (by kernel_rfl) (by kernel_rfl) fun i l h => match i, h with
  | 0, h => Option.some.inj h ▸ lok4
  | n + 1, h => by cases h
theorem sound : Sound Try.prog 162 fs := fn_sound env mixed Try.func162 H loops fun ⟨x0, x1, ()⟩ hw _ => (run x0 x1).trans (eq x0 x1 hw)
theorem known : Seen Try.prog 162 fs := ⟨sound, _, Try.func162, by kernel_rfl, by kernel_rfl⟩
end laws_eqAnswerS
namespace laws_eqKeep
noncomputable def fs : FS := ⟨[(.val tyS17 .f), (.val tyS17 .f)], [(.bool, .o)], fun _ => true, fun x => ((), ((laws_eqKeep x.1 x.2.1), ()))⟩
noncomputable def E : Env := ⟨theta, [(159, laws_eqRowS.fs), (160, laws_eqMakerS.fs), (71, laws_eqIntS.fs), (161, laws_eqGroupS.fs), (162, laws_eqAnswerS.fs)], []⟩
noncomputable def H : List LC := []
noncomputable def code (i : Nat) : Code := (loopsOf (bodyOf Try.f134)).getD i .skip
theorem run (x0 : ((List Row) × ((List Maker) × ((List Group) × (Int × ((List Int) × ((List Answer) × Unit))))))) (x1 : ((List Row) × ((List Maker) × ((List Group) × (Int × ((List Int) × ((List Answer) × Unit))))))) : runFn E H Try.f134 fs.ps fs.rs (x0, (x1, ())) = raw x0 x1 := by kernel_rfl
theorem env : EnvOk Try.prog E := env_cons laws_eqRowS.known (env_cons laws_eqMakerS.known (env_cons laws_eqIntS.known (env_cons laws_eqGroupS.known (env_cons laws_eqAnswerS.known (env_nil tys)))))
theorem loops : ∀ c, Try.f134.body = some c → LoopsOk E H c := loops_none (by kernel_rfl)
theorem sound : Sound Try.prog 134 fs := fn_sound env mixed Try.func134 H loops fun ⟨x0, x1, ()⟩ hw _ => (run x0 x1).trans (eq x0 x1 hw)
theorem known : Seen Try.prog 134 fs := ⟨sound, _, Try.func134, by kernel_rfl, by kernel_rfl⟩
end laws_eqKeep
namespace laws_eqHard
noncomputable def fs : FS := ⟨[(.val (.pair (.int .i64) (.pair (.int .i64) (.pair tyS116 (.pair tyS17 .unit)))) .f), (.val (.pair (.int .i64) (.pair (.int .i64) (.pair tyS116 (.pair tyS17 .unit)))) .f)], [(.bool, .o)], fun _ => true, fun x => ((), ((laws_eqHard x.1 x.2.1), ()))⟩
noncomputable def E : Env := ⟨theta, [(158, laws_eqLog.fs), (134, laws_eqKeep.fs)], []⟩
noncomputable def H : List LC := []
noncomputable def code (i : Nat) : Code := (loopsOf (bodyOf Try.f132)).getD i .skip
theorem run (x0 : (Int × (Int × (Log × (((List Row) × ((List Maker) × ((List Group) × (Int × ((List Int) × ((List Answer) × Unit)))))) × Unit))))) (x1 : (Int × (Int × (Log × (((List Row) × ((List Maker) × ((List Group) × (Int × ((List Int) × ((List Answer) × Unit)))))) × Unit))))) : runFn E H Try.f132 fs.ps fs.rs (x0, (x1, ())) = raw x0 x1 := by kernel_rfl
theorem env : EnvOk Try.prog E := env_cons laws_eqLog.known (env_cons laws_eqKeep.known (env_nil tys))
theorem loops : ∀ c, Try.f132.body = some c → LoopsOk E H c := loops_none (by kernel_rfl)
theorem sound : Sound Try.prog 132 fs := fn_sound env mixed Try.func132 H loops fun ⟨x0, x1, ()⟩ hw _ => (run x0 x1).trans (eq x0 x1 hw)
theorem known : Seen Try.prog 132 fs := ⟨sound, _, Try.func132, by kernel_rfl, by kernel_rfl⟩
end laws_eqHard
namespace laws_eqBoolS
noncomputable def fs : FS := ⟨[(.val (.sl 4 .bool) .f), (.val (.sl 4 .bool) .f)], [(.bool, .o)], fun _ => true, fun x => ((), ((laws_eqBoolS x.1 x.2.1), ()))⟩
noncomputable def E : Env := ⟨theta, [], []⟩
noncomputable def sh4 : ShSt := ⟨[(.one (.dat (.sl 4 .bool))), (.one (.dat (.sl 4 .bool))), uu, uu, uu, ui, uu, uu, uu, uu, uu, uu, uu, uu, uu, uu, uu, uu, uu, uu, uu, uu, uu, uu, uu, uu], []⟩
noncomputable def outs4 : List OutC := [⟨.ret, ⟨0, [4], []⟩, ⟨[uu, uu, uu, uu, (.one (.dat .bool)), uu, uu, uu, uu, uu, uu, uu, uu, uu, uu, uu, uu, uu, uu, uu, uu, uu, uu, uu, uu, uu], []⟩⟩, ⟨(.exit 0), ⟨0, [], []⟩, ⟨[uu, uu, uu, uu, uu, uu, uu, uu, uu, uu, uu, uu, uu, uu, uu, uu, uu, uu, uu, uu, uu, uu, uu, uu, uu, uu], []⟩⟩]
noncomputable def L4 : LC := ⟨4, ⟨4, [1, 0, 5], []⟩, sh4, outs4, pre4, fn4⟩
noncomputable def H : List LC := [L4]
noncomputable def code (i : Nat) : Code := (loopsOf (bodyOf Try.f133)).getD i .skip
theorem step4 (x1 : (List Bool)) (x2 : (List Bool)) (x3 : Int) : L4.step E H (code 0) (x1, (x2, (x3, ()))) = raw4 x1 x2 x3 := by kernel_rfl
theorem lok4 : LoopOk E H (code 0) L4 := ⟨mu4, fun ⟨x1, x2, x3, ()⟩ hp => rounds_ok (step4 x1 x2 x3) (ok4 x1 x2 x3 hp)⟩
theorem run (x0 : (List Bool)) (x1 : (List Bool)) : runFn E H Try.f133 fs.ps fs.rs (x0, (x1, ())) = raw x0 x1 := by kernel_rfl
theorem env : EnvOk Try.prog E := env_nil tys
theorem loops : ∀ c, Try.f133.body = some c → LoopsOk E H c := loops_of (by kernel_rfl) (by kernel_rfl) fun i l h => match i, h with
  | 0, h => Option.some.inj h ▸ lok4
  | n + 1, h => by cases h
theorem sound : Sound Try.prog 133 fs := fn_sound env mixed Try.func133 H loops fun ⟨x0, x1, ()⟩ hw _ => (run x0 x1).trans (eq x0 x1 hw)
theorem known : Seen Try.prog 133 fs := ⟨sound, _, Try.func133, by kernel_rfl, by kernel_rfl⟩
end laws_eqBoolS
namespace laws_eqByteS
noncomputable def fs : FS := ⟨[(.val (.sl 5 (.int .u8)) .f), (.val (.sl 5 (.int .u8)) .f)], [(.bool, .o)], fun _ => true, fun x => ((), ((laws_eqByteS x.1 x.2.1), ()))⟩
noncomputable def E : Env := ⟨theta, [], []⟩
noncomputable def sh4 : ShSt := ⟨[(.one (.dat (.sl 5 (.int .u8)))), (.one (.dat (.sl 5 (.int .u8)))), uu, uu, uu, ui, uu, uu, uu, uu, uu, uu, uu, uu, uu, uu, uu, uu, uu, uu, uu, uu, uu, uu, uu, uu], []⟩
noncomputable def outs4 : List OutC := [⟨.ret, ⟨0, [4], []⟩, ⟨[uu, uu, uu, uu, (.one (.dat .bool)), uu, uu, uu, uu, uu, uu, uu, uu, uu, uu, uu, uu, uu, uu, uu, uu, uu, uu, uu, uu, uu], []⟩⟩, ⟨(.exit 0), ⟨0, [], []⟩, ⟨[uu, uu, uu, uu, uu, uu, uu, uu, uu, uu, uu, uu, uu, uu, uu, uu, uu, uu, uu, uu, uu, uu, uu, uu, uu, uu], []⟩⟩]
noncomputable def L4 : LC := ⟨4, ⟨4, [1, 0, 5], []⟩, sh4, outs4, pre4, fn4⟩
noncomputable def H : List LC := [L4]
noncomputable def code (i : Nat) : Code := (loopsOf (bodyOf Try.f163)).getD i .skip
theorem step4 (x1 : (List Int)) (x2 : (List Int)) (x3 : Int) : L4.step E H (code 0) (x1, (x2, (x3, ()))) = raw4 x1 x2 x3 := by kernel_rfl
theorem lok4 : LoopOk E H (code 0) L4 := ⟨mu4, fun ⟨x1, x2, x3, ()⟩ hp => rounds_ok (step4 x1 x2 x3) (ok4 x1 x2 x3 hp)⟩
theorem run (x0 : (List Int)) (x1 : (List Int)) : runFn E H Try.f163 fs.ps fs.rs (x0, (x1, ())) = raw x0 x1 := by kernel_rfl
theorem env : EnvOk Try.prog E := env_nil tys
theorem loops : ∀ c, Try.f163.body = some c → LoopsOk E H c := loops_of (by kernel_rfl) (by kernel_rfl) fun i l h => match i, h with
  | 0, h => Option.some.inj h ▸ lok4
  | n + 1, h => by cases h
theorem sound : Sound Try.prog 163 fs := fn_sound env mixed Try.func163 H loops fun ⟨x0, x1, ()⟩ hw _ => (run x0 x1).trans (eq x0 x1 hw)
theorem known : Seen Try.prog 163 fs := ⟨sound, _, Try.func163, by kernel_rfl, by kernel_rfl⟩
end laws_eqByteS
namespace laws_eqDisk
noncomputable def fs : FS := ⟨[(.val (.pair (.sl 5 (.int .u8)) (.pair (.int .i64) .unit)) .f), (.val (.pair (.sl 5 (.int .u8)) (.pair (.int .i64) .unit)) .f)], [(.bool, .o)], fun _ => true, fun x => ((), ((laws_eqDisk x.1 x.2.1), ()))⟩
noncomputable def E : Env := ⟨theta, [(163, laws_eqByteS.fs)], []⟩
noncomputable def H : List LC := []
noncomputable def code (i : Nat) : Code := (loopsOf (bodyOf Try.f135)).getD i .skip
theorem run (x0 : Disk) (x1 : Disk) : runFn E H Try.f135 fs.ps fs.rs (x0, (x1, ())) = raw x0 x1 := by kernel_rfl
theorem env : EnvOk Try.prog E := env_cons laws_eqByteS.known (env_nil tys)
theorem loops : ∀ c, Try.f135.body = some c → LoopsOk E H c := loops_none (by kernel_rfl)
theorem sound : Sound Try.prog 135 fs := fn_sound env mixed Try.func135 H loops fun ⟨x0, x1, ()⟩ hw _ => (run x0 x1).trans (eq x0 x1 hw)
theorem known : Seen Try.prog 135 fs := ⟨sound, _, Try.func135, by kernel_rfl, by kernel_rfl⟩
end laws_eqDisk
namespace laws_eqRpc
noncomputable def fs : FS := ⟨[(.val tyS16 .f), (.val tyS16 .f)], [(.bool, .o)], fun _ => true, fun x => ((), ((laws_eqRpc x.1 x.2.1), ()))⟩
noncomputable def E : Env := ⟨theta, [(136, laws_eqEntryS.fs)], []⟩
noncomputable def H : List LC := []
noncomputable def code (i : Nat) : Code := (loopsOf (bodyOf Try.f104)).getD i .skip
theorem run (x0 : (Int × (Int × (Int × (Int × (Int × (Int × (Int × ((List Entry) × (Bool × ((List UInt8) × Unit))))))))))) (x1 : (Int × (Int × (Int × (Int × (Int × (Int × (Int × ((List Entry) × (Bool × ((List UInt8) × Unit))))))))))) : runFn E H Try.f104 fs.ps fs.rs (x0, (x1, ())) = raw x0 x1 := by kernel_rfl
theorem env : EnvOk Try.prog E := env_cons laws_eqEntryS.known (env_nil tys)
theorem loops : ∀ c, Try.f104.body = some c → LoopsOk E H c := loops_none (by kernel_rfl)
theorem sound : Sound Try.prog 104 fs := fn_sound env mixed Try.func104 H loops fun ⟨x0, x1, ()⟩ hw _ => (run x0 x1).trans (eq x0 x1 hw)
theorem known : Seen Try.prog 104 fs := ⟨sound, _, Try.func104, by kernel_rfl, by kernel_rfl⟩
end laws_eqRpc
namespace laws_eqRpcS
noncomputable def fs : FS := ⟨[(.val (.sl 181 tyS16) .f), (.val (.sl 181 tyS16) .f)], [(.bool, .o)], fun _ => true, fun x => ((), ((laws_eqRpcS x.1 x.2.1), ()))⟩
noncomputable def E : Env := ⟨theta, [(104, laws_eqRpc.fs)], []⟩
noncomputable def sh4 : ShSt := ⟨[(.one (.dat (.sl 181 tyS16))), (.one (.dat (.sl 181 tyS16))), uu, uu, uu, ui, uu, uu, uu, uu, uu, uu, uu, uu, uu, uu, uu, uu, uu, uu, uu, uu, uu, uu, uu, uu, uu], []⟩
noncomputable def outs4 : List OutC := [⟨.ret, ⟨0, [4], []⟩, ⟨[uu, uu, uu, uu, (.one (.dat .bool)), uu, uu, uu, uu, uu, uu, uu, uu, uu, uu, uu, uu, uu, uu, uu, uu, uu, uu, uu, uu, uu, uu], []⟩⟩, ⟨(.exit 0), ⟨0, [], []⟩, ⟨[uu, uu, uu, uu, uu, uu, uu, uu, uu, uu, uu, uu, uu, uu, uu, uu, uu, uu, uu, uu, uu, uu, uu, uu, uu, uu, uu], []⟩⟩]
noncomputable def L4 : LC := ⟨4, ⟨4, [1, 0, 5], []⟩, sh4, outs4, pre4, fn4⟩
noncomputable def H : List LC := [L4]
noncomputable def code (i : Nat) : Code := (loopsOf (bodyOf Try.f69)).getD i .skip
theorem step4 (x1 : (List (Int × (Int × (Int × (Int × (Int × (Int × (Int × ((List Entry) × (Bool × ((List UInt8) × Unit)))))))))))) (x2 : (List (Int × (Int × (Int × (Int × (Int × (Int × (Int × ((List Entry) × (Bool × ((List UInt8) × Unit)))))))))))) (x3 : Int) : L4.step E H (code 0) (x1, (x2, (x3, ()))) = raw4 x1 x2 x3 := by kernel_rfl
theorem lok4 : LoopOk E H (code 0) L4 := ⟨mu4, fun ⟨x1, x2, x3, ()⟩ hp => rounds_ok (step4 x1 x2 x3) (ok4 x1 x2 x3 hp)⟩
theorem run (x0 : (List (Int × (Int × (Int × (Int × (Int × (Int × (Int × ((List Entry) × (Bool × ((List UInt8) × Unit)))))))))))) (x1 : (List (Int × (Int × (Int × (Int × (Int × (Int × (Int × ((List Entry) × (Bool × ((List UInt8) × Unit)))))))))))) : runFn E H Try.f69 fs.ps fs.rs (x0, (x1, ())) = raw x0 x1 := by kernel_rfl
theorem env : EnvOk Try.prog E := env_cons laws_eqRpc.known (env_nil tys)
theorem loops : ∀ c, Try.f69.body = some c → LoopsOk E H c := loops_of (by kernel_rfl) (by kernel_rfl) fun i l h => match i, h with
  | 0, h => Option.some.inj h ▸ lok4
  | n + 1, h => by cases h
theorem sound : Sound Try.prog 69 fs := fn_sound env mixed Try.func69 H loops fun ⟨x0, x1, ()⟩ hw _ => (run x0 x1).trans (eq x0 x1 hw)
theorem known : Seen Try.prog 69 fs := ⟨sound, _, Try.func69, by kernel_rfl, by kernel_rfl⟩
end laws_eqRpcS
namespace laws_eqPeer
noncomputable def fs : FS := ⟨[(.val tyS11 .f), (.val tyS11 .f)], [(.bool, .o)], fun _ => true, fun x => ((), ((laws_eqPeer x.1 x.2.1), ()))⟩
noncomputable def E : Env := ⟨theta, [(71, laws_eqIntS.fs), (134, laws_eqKeep.fs), (132, laws_eqHard.fs), (133, laws_eqBoolS.fs), (135, laws_eqDisk.fs), (69, laws_eqRpcS.fs)], []⟩
noncomputable def H : List LC := []
noncomputable def code (i : Nat) : Code := (loopsOf (bodyOf Try.f103)).getD i .skip
theorem run (x0 : (Int × ((Int × (Int × (Log × (((List Row) × ((List Maker) × ((List Group) × (Int × ((List Int) × ((List Answer) × Unit)))))) × Unit)))) × (Int × ((List Bool) × ((List Int) × ((List Int) × (Int × (((List Row) × ((List Maker) × ((List Group) × (Int × ((List Int) × ((List Answer) × Unit)))))) × (Disk × ((List (Int × (Int × (Int × (Int × (Int × (Int × (Int × ((List Entry) × (Bool × ((List UInt8) × Unit))))))))))) × Unit))))))))))) (x1 : (Int × ((Int × (Int × (Log × (((List Row) × ((List Maker) × ((List Group) × (Int × ((List Int) × ((List Answer) × Unit)))))) × Unit)))) × (Int × ((List Bool) × ((List Int) × ((List Int) × (Int × (((List Row) × ((List Maker) × ((List Group) × (Int × ((List Int) × ((List Answer) × Unit)))))) × (Disk × ((List (Int × (Int × (Int × (Int × (Int × (Int × (Int × ((List Entry) × (Bool × ((List UInt8) × Unit))))))))))) × Unit))))))))))) : runFn E H Try.f103 fs.ps fs.rs (x0, (x1, ())) = raw x0 x1 := by kernel_rfl
theorem env : EnvOk Try.prog E := env_cons laws_eqIntS.known (env_cons laws_eqKeep.known (env_cons laws_eqHard.known (env_cons laws_eqBoolS.known (env_cons laws_eqDisk.known (env_cons laws_eqRpcS.known (env_nil tys))))))
theorem loops : ∀ c, Try.f103.body = some c → LoopsOk E H c := loops_none (by kernel_rfl)
theorem sound : Sound Try.prog 103 fs := fn_sound env mixed Try.func103 H loops fun ⟨x0, x1, ()⟩ hw _ => (run x0 x1).trans (eq x0 x1 hw)
theorem known : Seen Try.prog 103 fs := ⟨sound, _, Try.func103, by kernel_rfl, by kernel_rfl⟩
end laws_eqPeer
namespace laws_eqPeerS
noncomputable def fs : FS := ⟨[(.val (.sl 178 tyS11) .f), (.val (.sl 178 tyS11) .f)], [(.bool, .o)], fun _ => true, fun x => ((), ((laws_eqPeerS x.1 x.2.1), ()))⟩
noncomputable def E : Env := ⟨theta, [(103, laws_eqPeer.fs)], []⟩
noncomputable def sh4 : ShSt := ⟨[(.one (.dat (.sl 178 tyS11))), (.one (.dat (.sl 178 tyS11))), uu, uu, uu, ui, uu, uu, uu, uu, uu, uu, uu, uu, uu, uu, uu, uu, uu, uu, uu, uu, uu, uu, uu, uu, uu], []⟩
noncomputable def outs4 : List OutC := [⟨.ret, ⟨0, [4], []⟩, ⟨[uu, uu, uu, uu, (.one (.dat .bool)), uu, uu, uu, uu, uu, uu, uu, uu, uu, uu, uu, uu, uu, uu, uu, uu, uu, uu, uu, uu, uu, uu], []⟩⟩, ⟨(.exit 0), ⟨0, [], []⟩, ⟨[uu, uu, uu, uu, uu, uu, uu, uu, uu, uu, uu, uu, uu, uu, uu, uu, uu, uu, uu, uu, uu, uu, uu, uu, uu, uu, uu], []⟩⟩]
noncomputable def L4 : LC := ⟨4, ⟨4, [1, 0, 5], []⟩, sh4, outs4, pre4, fn4⟩
noncomputable def H : List LC := [L4]
noncomputable def code (i : Nat) : Code := (loopsOf (bodyOf Try.f68)).getD i .skip
theorem step4 (x1 : (List (Int × ((Int × (Int × (Log × (((List Row) × ((List Maker) × ((List Group) × (Int × ((List Int) × ((List Answer) × Unit)))))) × Unit)))) × (Int × ((List Bool) × ((List Int) × ((List Int) × (Int × (((List Row) × ((List Maker) × ((List Group) × (Int × ((List Int) × ((List Answer) × Unit)))))) × (Disk × ((List (Int × (Int × (Int × (Int × (Int × (Int × (Int × ((List Entry) × (Bool × ((List UInt8) × Unit))))))))))) × Unit)))))))))))) (x2 : (List (Int × ((Int × (Int × (Log × (((List Row) × ((List Maker) × ((List Group) × (Int × ((List Int) × ((List Answer) × Unit)))))) × Unit)))) × (Int × ((List Bool) × ((List Int) × ((List Int) × (Int × (((List Row) × ((List Maker) × ((List Group) × (Int × ((List Int) × ((List Answer) × Unit)))))) × (Disk × ((List (Int × (Int × (Int × (Int × (Int × (Int × (Int × ((List Entry) × (Bool × ((List UInt8) × Unit))))))))))) × Unit)))))))))))) (x3 : Int) : L4.step E H (code 0) (x1, (x2, (x3, ()))) = raw4 x1 x2 x3 := by kernel_rfl
theorem lok4 : LoopOk E H (code 0) L4 := ⟨mu4, fun ⟨x1, x2, x3, ()⟩ hp => rounds_ok (step4 x1 x2 x3) (ok4 x1 x2 x3 hp)⟩
theorem run (x0 : (List (Int × ((Int × (Int × (Log × (((List Row) × ((List Maker) × ((List Group) × (Int × ((List Int) × ((List Answer) × Unit)))))) × Unit)))) × (Int × ((List Bool) × ((List Int) × ((List Int) × (Int × (((List Row) × ((List Maker) × ((List Group) × (Int × ((List Int) × ((List Answer) × Unit)))))) × (Disk × ((List (Int × (Int × (Int × (Int × (Int × (Int × (Int × ((List Entry) × (Bool × ((List UInt8) × Unit))))))))))) × Unit)))))))))))) (x1 : (List (Int × ((Int × (Int × (Log × (((List Row) × ((List Maker) × ((List Group) × (Int × ((List Int) × ((List Answer) × Unit)))))) × Unit)))) × (Int × ((List Bool) × ((List Int) × ((List Int) × (Int × (((List Row) × ((List Maker) × ((List Group) × (Int × ((List Int) × ((List Answer) × Unit)))))) × (Disk × ((List (Int × (Int × (Int × (Int × (Int × (Int × (Int × ((List Entry) × (Bool × ((List UInt8) × Unit))))))))))) × Unit)))))))))))) : runFn E H Try.f68 fs.ps fs.rs (x0, (x1, ())) = raw x0 x1 := by kernel_rfl
theorem env : EnvOk Try.prog E := env_cons laws_eqPeer.known (env_nil tys)
theorem loops : ∀ c, Try.f68.body = some c → LoopsOk E H c := loops_of (by kernel_rfl) (by kernel_rfl) fun i l h => match i, h with
  | 0, h => Option.some.inj h ▸ lok4
  | n + 1, h => by cases h
theorem sound : Sound Try.prog 68 fs := fn_sound env mixed Try.func68 H loops fun ⟨x0, x1, ()⟩ hw _ => (run x0 x1).trans (eq x0 x1 hw)
theorem known : Seen Try.prog 68 fs := ⟨sound, _, Try.func68, by kernel_rfl, by kernel_rfl⟩
end laws_eqPeerS
namespace laws_eqHeard
noncomputable def fs : FS := ⟨[(.val tyS113 .f), (.val tyS113 .f)], [(.bool, .o)], fun _ => true, fun x => ((), ((laws_eqHeard x.1 x.2.1), ()))⟩
noncomputable def E : Env := ⟨theta, [(137, laws_eqAnswer.fs)], []⟩
noncomputable def H : List LC := []
noncomputable def code (i : Nat) : Code := (loopsOf (bodyOf Try.f106)).getD i .skip
theorem run (x0 : Heard) (x1 : Heard) : runFn E H Try.f106 fs.ps fs.rs (x0, (x1, ())) = raw x0 x1 := by kernel_rfl
theorem env : EnvOk Try.prog E := env_cons laws_eqAnswer.known (env_nil tys)
theorem loops : ∀ c, Try.f106.body = some c → LoopsOk E H c := loops_none (by kernel_rfl)
theorem sound : Sound Try.prog 106 fs := fn_sound env mixed Try.func106 H loops fun ⟨x0, x1, ()⟩ hw _ => (run x0 x1).trans (eq x0 x1 hw)
theorem known : Seen Try.prog 106 fs := ⟨sound, _, Try.func106, by kernel_rfl, by kernel_rfl⟩
end laws_eqHeard
namespace laws_eqHeardS
noncomputable def fs : FS := ⟨[(.val (.sl 103 tyS113) .f), (.val (.sl 103 tyS113) .f)], [(.bool, .o)], fun _ => true, fun x => ((), ((laws_eqHeardS x.1 x.2.1), ()))⟩
noncomputable def E : Env := ⟨theta, [(106, laws_eqHeard.fs)], []⟩
noncomputable def sh4 : ShSt := ⟨[(.one (.dat (.sl 103 tyS113))), (.one (.dat (.sl 103 tyS113))), uu, uu, uu, ui, uu, uu, uu, uu, uu, uu, uu, uu, uu, uu, uu, uu, uu, uu, uu, uu, uu, uu, uu, uu, uu], []⟩
noncomputable def outs4 : List OutC := [⟨.ret, ⟨0, [4], []⟩, ⟨[uu, uu, uu, uu, (.one (.dat .bool)), uu, uu, uu, uu, uu, uu, uu, uu, uu, uu, uu, uu, uu, uu, uu, uu, uu, uu, uu, uu, uu, uu], []⟩⟩, ⟨(.exit 0), ⟨0, [], []⟩, ⟨[uu, uu, uu, uu, uu, uu, uu, uu, uu, uu, uu, uu, uu, uu, uu, uu, uu, uu, uu, uu, uu, uu, uu, uu, uu, uu, uu], []⟩⟩]
noncomputable def L4 : LC := ⟨4, ⟨4, [1, 0, 5], []⟩, sh4, outs4, pre4, fn4⟩
noncomputable def H : List LC := [L4]
noncomputable def code (i : Nat) : Code := (loopsOf (bodyOf Try.f72)).getD i .skip
theorem step4 (x1 : (List Heard)) (x2 : (List Heard)) (x3 : Int) : L4.step E H (code 0) (x1, (x2, (x3, ()))) = raw4 x1 x2 x3 := by kernel_rfl
theorem lok4 : LoopOk E H (code 0) L4 := ⟨mu4, fun ⟨x1, x2, x3, ()⟩ hp => rounds_ok (step4 x1 x2 x3) (ok4 x1 x2 x3 hp)⟩
theorem run (x0 : (List Heard)) (x1 : (List Heard)) : runFn E H Try.f72 fs.ps fs.rs (x0, (x1, ())) = raw x0 x1 := by kernel_rfl
theorem env : EnvOk Try.prog E := env_cons laws_eqHeard.known (env_nil tys)
theorem loops : ∀ c, Try.f72.body = some c → LoopsOk E H c := loops_of (by kernel_rfl) (by kernel_rfl) fun i l h => match i, h with
  | 0, h => Option.some.inj h ▸ lok4
  | n + 1, h => by cases h
theorem sound : Sound Try.prog 72 fs := fn_sound env mixed Try.func72 H loops fun ⟨x0, x1, ()⟩ hw _ => (run x0 x1).trans (eq x0 x1 hw)
theorem known : Seen Try.prog 72 fs := ⟨sound, _, Try.func72, by kernel_rfl, by kernel_rfl⟩
end laws_eqHeardS
namespace laws_eqCmdS
noncomputable def fs : FS := ⟨[(.val (.sl 87 tyS13) .f), (.val (.sl 87 tyS13) .f)], [(.bool, .o)], fun _ => true, fun x => ((), ((laws_eqCmdS x.1 x.2.1), ()))⟩
noncomputable def E : Env := ⟨theta, [(105, laws_eqCmd.fs)], []⟩
noncomputable def sh4 : ShSt := ⟨[(.one (.dat (.sl 87 tyS13))), (.one (.dat (.sl 87 tyS13))), uu, uu, uu, ui, uu, uu, uu, uu, uu, uu, uu, uu, uu, uu, uu, uu, uu, uu, uu, uu, uu, uu, uu, uu, uu], []⟩
noncomputable def outs4 : List OutC := [⟨.ret, ⟨0, [4], []⟩, ⟨[uu, uu, uu, uu, (.one (.dat .bool)), uu, uu, uu, uu, uu, uu, uu, uu, uu, uu, uu, uu, uu, uu, uu, uu, uu, uu, uu, uu, uu, uu], []⟩⟩, ⟨(.exit 0), ⟨0, [], []⟩, ⟨[uu, uu, uu, uu, uu, uu, uu, uu, uu, uu, uu, uu, uu, uu, uu, uu, uu, uu, uu, uu, uu, uu, uu, uu, uu, uu, uu], []⟩⟩]
noncomputable def L4 : LC := ⟨4, ⟨4, [1, 0, 5], []⟩, sh4, outs4, pre4, fn4⟩
noncomputable def H : List LC := [L4]
noncomputable def code (i : Nat) : Code := (loopsOf (bodyOf Try.f70)).getD i .skip
theorem step4 (x1 : (List Cmd)) (x2 : (List Cmd)) (x3 : Int) : L4.step E H (code 0) (x1, (x2, (x3, ()))) = raw4 x1 x2 x3 := by kernel_rfl
theorem lok4 : LoopOk E H (code 0) L4 := ⟨mu4, fun ⟨x1, x2, x3, ()⟩ hp => rounds_ok (step4 x1 x2 x3) (ok4 x1 x2 x3 hp)⟩
theorem run (x0 : (List Cmd)) (x1 : (List Cmd)) : runFn E H Try.f70 fs.ps fs.rs (x0, (x1, ())) = raw x0 x1 := by kernel_rfl
theorem env : EnvOk Try.prog E := env_cons laws_eqCmd.known (env_nil tys)
theorem loops : ∀ c, Try.f70.body = some c → LoopsOk E H c := loops_of (by kernel_rfl) (by kernel_rfl) fun i l h => match i, h with
  | 0, h => Option.some.inj h ▸ lok4
  | n + 1, h => by cases h
theorem sound : Sound Try.prog 70 fs := fn_sound env mixed Try.func70 H loops fun ⟨x0, x1, ()⟩ hw _ => (run x0 x1).trans (eq x0 x1 hw)
theorem known : Seen Try.prog 70 fs := ⟨sound, _, Try.func70, by kernel_rfl, by kernel_rfl⟩
end laws_eqCmdS
namespace laws_eqWorld
noncomputable def fs : FS := ⟨[(.val tyS110 .f), (.val tyS110 .f)], [(.bool, .o)], fun _ => true, fun x => ((), ((laws_eqWorld x.1 x.2.1), ()))⟩
noncomputable def E : Env := ⟨theta, [(67, laws_eqSetup.fs), (71, laws_eqIntS.fs), (69, laws_eqRpcS.fs), (68, laws_eqPeerS.fs), (72, laws_eqHeardS.fs), (70, laws_eqCmdS.fs)], []⟩
noncomputable def H : List LC := []
noncomputable def code (i : Nat) : Code := (loopsOf (bodyOf Try.f28)).getD i .skip
theorem run (x0 : (Setup × (Int × ((List (Int × ((Int × (Int × (Log × (((List Row) × ((List Maker) × ((List Group) × (Int × ((List Int) × ((List Answer) × Unit)))))) × Unit)))) × (Int × ((List Bool) × ((List Int) × ((List Int) × (Int × (((List Row) × ((List Maker) × ((List Group) × (Int × ((List Int) × ((List Answer) × Unit)))))) × (Disk × ((List (Int × (Int × (Int × (Int × (Int × (Int × (Int × ((List Entry) × (Bool × ((List UInt8) × Unit))))))))))) × Unit))))))))))) × ((List (Int × (Int × (Int × (Int × (Int × (Int × (Int × ((List Entry) × (Bool × ((List UInt8) × Unit))))))))))) × ((List Cmd) × ((List Int) × ((List Heard) × ((List Cmd) × Unit))))))))) (x1 : (Setup × (Int × ((List (Int × ((Int × (Int × (Log × (((List Row) × ((List Maker) × ((List Group) × (Int × ((List Int) × ((List Answer) × Unit)))))) × Unit)))) × (Int × ((List Bool) × ((List Int) × ((List Int) × (Int × (((List Row) × ((List Maker) × ((List Group) × (Int × ((List Int) × ((List Answer) × Unit)))))) × (Disk × ((List (Int × (Int × (Int × (Int × (Int × (Int × (Int × ((List Entry) × (Bool × ((List UInt8) × Unit))))))))))) × Unit))))))))))) × ((List (Int × (Int × (Int × (Int × (Int × (Int × (Int × ((List Entry) × (Bool × ((List UInt8) × Unit))))))))))) × ((List Cmd) × ((List Int) × ((List Heard) × ((List Cmd) × Unit))))))))) : runFn E H Try.f28 fs.ps fs.rs (x0, (x1, ())) = raw x0 x1 := by kernel_rfl
theorem env : EnvOk Try.prog E := env_cons laws_eqSetup.known (env_cons laws_eqIntS.known (env_cons laws_eqRpcS.known (env_cons laws_eqPeerS.known (env_cons laws_eqHeardS.known (env_cons laws_eqCmdS.known (env_nil tys))))))
theorem loops : ∀ c, Try.f28.body = some c → LoopsOk E H c := loops_none (by kernel_rfl)
theorem sound : Sound Try.prog 28 fs := fn_sound env mixed Try.func28 H loops fun ⟨x0, x1, ()⟩ hw _ => (run x0 x1).trans (eq x0 x1 hw)
theorem known : Seen Try.prog 28 fs := ⟨sound, _, Try.func28, by kernel_rfl, by kernel_rfl⟩
end laws_eqWorld
namespace laws_FnExactTold
noncomputable def fs : FS := ⟨[(.val tyS115 .f), (.val (.int .i64) .f), (.val (.int .i64) .f)], [(.bool, .o)], fun _ => true, fun x => ((), ((laws_FnExactTold x.1 x.2.1 x.2.2.1), ()))⟩
noncomputable def E : Env := ⟨theta, [(24, laws_szWorld.fs), (25, spec_Told.fs), (27, impl_Told.fs), (26, laws_toWorld.fs), (28, laws_eqWorld.fs)], []⟩
noncomputable def H : List LC := []
noncomputable def code (i : Nat) : Code := (loopsOf (bodyOf Try.f5)).getD i .skip
theorem run (x0 : (Setup × (Int × ((List (Int × ((Int × (Int × (Log × (((List Row) × ((List Maker) × ((List Group) × (Int × ((List Int) × ((List Answer) × Unit)))))) × Unit)))) × (Int × ((List Bool) × ((List Int) × ((List Int) × (Int × (((List Row) × ((List Maker) × ((List Group) × (Int × ((List Int) × ((List Answer) × Unit)))))) × (Disk × ((List (Int × (Int × (Int × (Int × (Int × (Int × (Int × ((List Entry) × (Bool × ((List UInt8) × Unit))))))))))) × Unit))))))))))) × ((List (Int × (Int × (Int × (Int × (Int × (Int × (Int × ((List Entry) × (Bool × ((List UInt8) × Unit))))))))))) × ((List Cmd) × ((List Int) × ((List Heard) × ((List Cmd) × Unit))))))))) (x1 : Int) (x2 : Int) : runFn E H Try.f5 fs.ps fs.rs (x0, (x1, (x2, ()))) = raw x0 x1 x2 := by kernel_rfl
theorem env : EnvOk Try.prog E := env_cons laws_szWorld.known (env_cons spec_Told.known (env_cons impl_Told.known (env_cons laws_toWorld.known (env_cons laws_eqWorld.known (env_nil tys)))))
theorem loops : ∀ c, Try.f5.body = some c → LoopsOk E H c := loops_none (by kernel_rfl)
theorem sound : Sound Try.prog 5 fs := fn_sound env mixed Try.func5 H loops fun ⟨x0, x1, x2, ()⟩ hw _ => (run x0 x1 x2).trans (eq x0 x1 x2 hw)
theorem known : Seen Try.prog 5 fs := ⟨sound, _, Try.func5, by kernel_rfl, by kernel_rfl⟩
end laws_FnExactTold
end Go.Aw.Pl
namespace Go.Proofs.Ytpcdhadfpeojkaa.fnExactTold
open Go Go.Aw Go.Aw.Pl
theorem own : ownKnob Try.prog.godebug = none := by kernel_rfl
theorem laidOut : laidOutB Try.prog = true := by kernel_rfl
theorem lifted (os : Os) (started : os.Started) (H : Type) (enc : TypeId × Value → H) :
    ReturnsInHanded {} Try.checked os 5 .any (Rows.fnExactToldSpec.pre6 enc Try.prog Try.f5 Rows.fnExactToldRow.domain false) (Rows.fnExactToldSpec.post enc Try.prog Try.f5 false true false false) :=
  law_lifted (C := Try.checked) (Ts := [tyS115, (.int .i64), (.int .i64)]) (g := laws_FnExactTold.fs.fn) (md := .o) started own laidOut (by kernel_rfl) Try.func5 laws_FnExactTold.sound (fun _ _ => rfl) (by kernel_rfl) rfl Try.underlying4 rfl
    (fun _ ds h => match ds, h with
      | [_, _, _], _ => ⟨rfl, rfl, rfl⟩)
    (ChangeSpec.witness6 (enc := enc) (C := Try.checked) false ⟨#[], #[.agg #[.int .i64 0, .int .i64 0, .int .i64 0, .int .i64 0, .int .i64 0, .slice none 0 0, .slice none 0 0, .slice none 0 0, .slice none 0 0, .slice none 0 0, .slice none 0 0], (.int .i64 0), (.int .i64 0)], []⟩ 24 (by kernel_rfl) (by kernel_rfl) (by kernel_rfl) (by kernel_rfl))
theorem over : Rows.fnExactToldRow.holds Try.pinned (OpenSpec.ofChange Rows.fnExactToldSpec) :=
  OpenClaim.holds_of_wide 5 Try.f5 rfl rfl rfl rfl rfl rfl rfl ⟨rfl, rfl, rfl, rfl, rfl⟩ rfl rfl rfl rfl rfl (by kernel_rfl) Try.func5 (by kernel_rfl)
    (of_decide_eq_true (by kernel_rfl)) (by unfold Func.isWrapper; first | (rw [if_pos (by decide +kernel)]; kernel_rfl) | (rw [if_neg (by decide +kernel)]; exact ⟨rfl, rfl⟩))
    (fun os started H enc _ => lifted os started H enc)
theorem proved : Rows.FnExactToldSaid := over
end Go.Proofs.Ytpcdhadfpeojkaa.fnExactTold
