/-
  These laws hold: FnExactHardNew: each answers true for every input, and nothing of its arguments is changed. Conditions: those of the given statements alone.
  Printed by a program of the proof's author: what each function does, by the plain machine (the texts Aw.. and Ax..), and the rows at the end.
-/
import Derived.Test.YtdgpjdedpkpfhaaRows
import Derived.JoinedOf
import Derived.Test.YtdgpjdedpkpfhaaPha
namespace Go.Aw.Pl
open Go Go.Aw Go.Proofs
set_option linter.unusedVariables false
noncomputable def theta : List (TypeId × Ty) := [(1, .op),
  (2, (.int .i64)),
  (3, (.int .i64)),
  (4, .bool),
  (5, (.int .u8)),
  (6, (.int .u8)),
  (7, (.pair (.int .i64) (.pair (.int .i64) (.pair .bool (.pair (.int .u8) .unit))))),
  (8, (.pair (.int .i64) (.pair (.int .i64) (.pair .bool (.pair (.int .u8) .unit))))),
  (9, .str),
  (10, .str),
  (11, .str),
  (12, (.int .u64)),
  (15, .op),
  (16, .op),
  (17, .op),
  (21, (.int .i32)),
  (22, (.sl 122 (.pair (.int .i64) (.pair (.pair (.int .i64) (.pair (.int .i64) (.pair (.int .i64) (.pair (.int .i64) (.pair (.int .i64) (.pair (.int .i64) (.pair .str (.pair .str .unit)))))))) .unit)))),
  (23, (.pair (.int .i64) (.pair (.int .i64) (.pair (.sl 122 (.pair (.int .i64) (.pair (.pair (.int .i64) (.pair (.int .i64) (.pair (.int .i64) (.pair (.int .i64) (.pair (.int .i64) (.pair (.int .i64) (.pair .str (.pair .str .unit)))))))) .unit))) .unit)))),
  (24, (.pair (.int .i64) (.pair (.int .i64) (.pair (.sl 122 (.pair (.int .i64) (.pair (.pair (.int .i64) (.pair (.int .i64) (.pair (.int .i64) (.pair (.int .i64) (.pair (.int .i64) (.pair (.int .i64) (.pair .str (.pair .str .unit)))))))) .unit))) .unit)))),
  (25, .op),
  (27, .op),
  (28, (.sl 112 (.pair (.int .i64) (.pair (.pair (.int .i64) (.pair (.int .i64) (.pair (.int .i64) (.pair (.int .i64) (.pair (.int .i64) (.pair (.int .i64) (.pair .str (.pair .str .unit)))))))) .unit)))),
  (29, (.pair (.int .i64) (.pair (.int .i64) (.pair (.sl 112 (.pair (.int .i64) (.pair (.pair (.int .i64) (.pair (.int .i64) (.pair (.int .i64) (.pair (.int .i64) (.pair (.int .i64) (.pair (.int .i64) (.pair .str (.pair .str .unit)))))))) .unit))) .unit)))),
  (30, (.pair (.int .i64) (.pair (.int .i64) (.pair (.sl 112 (.pair (.int .i64) (.pair (.pair (.int .i64) (.pair (.int .i64) (.pair (.int .i64) (.pair (.int .i64) (.pair (.int .i64) (.pair (.int .i64) (.pair .str (.pair .str .unit)))))))) .unit))) .unit)))),
  (31, .op),
  (32, .op),
  (33, .op),
  (34, .op),
  (35, .op),
  (36, .op),
  (37, (.pair (.int .i64) (.pair (.int .i64) (.pair (.int .i64) (.pair (.int .i64) (.pair (.sl 122 (.pair (.int .i64) (.pair (.pair (.int .i64) (.pair (.int .i64) (.pair (.int .i64) (.pair (.int .i64) (.pair (.int .i64) (.pair (.int .i64) (.pair .str (.pair .str .unit)))))))) .unit))) (.pair .str .unit))))))),
  (38, (.pair (.int .i64) (.pair (.int .i64) (.pair (.int .i64) (.pair (.int .i64) (.pair (.sl 122 (.pair (.int .i64) (.pair (.pair (.int .i64) (.pair (.int .i64) (.pair (.int .i64) (.pair (.int .i64) (.pair (.int .i64) (.pair (.int .i64) (.pair .str (.pair .str .unit)))))))) .unit))) (.pair .str .unit))))))),
  (39, .op),
  (40, .op),
  (41, (.pair (.int .i64) (.pair (.int .i64) (.pair (.int .i64) (.pair (.int .i64) (.pair (.sl 112 (.pair (.int .i64) (.pair (.pair (.int .i64) (.pair (.int .i64) (.pair (.int .i64) (.pair (.int .i64) (.pair (.int .i64) (.pair (.int .i64) (.pair .str (.pair .str .unit)))))))) .unit))) (.pair .str .unit))))))),
  (42, (.pair (.int .i64) (.pair (.int .i64) (.pair (.int .i64) (.pair (.int .i64) (.pair (.sl 112 (.pair (.int .i64) (.pair (.pair (.int .i64) (.pair (.int .i64) (.pair (.int .i64) (.pair (.int .i64) (.pair (.int .i64) (.pair (.int .i64) (.pair .str (.pair .str .unit)))))))) .unit))) (.pair .str .unit))))))),
  (43, .op),
  (44, .op),
  (45, .op),
  (46, (.pair (.int .i64) (.pair (.int .i64) (.pair (.int .i64) (.pair (.int .i64) (.pair (.int .i64) (.pair (.int .i64) (.pair (.int .i64) (.pair (.sl 122 (.pair (.int .i64) (.pair (.pair (.int .i64) (.pair (.int .i64) (.pair (.int .i64) (.pair (.int .i64) (.pair (.int .i64) (.pair (.int .i64) (.pair .str (.pair .str .unit)))))))) .unit))) (.pair .bool (.pair .str .unit))))))))))),
  (47, (.pair (.int .i64) (.pair (.int .i64) (.pair (.int .i64) (.pair (.int .i64) (.pair (.int .i64) (.pair (.int .i64) (.pair (.int .i64) (.pair (.sl 122 (.pair (.int .i64) (.pair (.pair (.int .i64) (.pair (.int .i64) (.pair (.int .i64) (.pair (.int .i64) (.pair (.int .i64) (.pair (.int .i64) (.pair .str (.pair .str .unit)))))))) .unit))) (.pair .bool (.pair .str .unit))))))))))),
  (48, .op),
  (49, .op),
  (50, (.pair (.int .i64) (.pair (.int .i64) (.pair (.int .i64) (.pair (.int .i64) (.pair (.int .i64) (.pair (.int .i64) (.pair (.int .i64) (.pair (.sl 112 (.pair (.int .i64) (.pair (.pair (.int .i64) (.pair (.int .i64) (.pair (.int .i64) (.pair (.int .i64) (.pair (.int .i64) (.pair (.int .i64) (.pair .str (.pair .str .unit)))))))) .unit))) (.pair .bool (.pair .str .unit))))))))))),
  (51, (.pair (.int .i64) (.pair (.int .i64) (.pair (.int .i64) (.pair (.int .i64) (.pair (.int .i64) (.pair (.int .i64) (.pair (.int .i64) (.pair (.sl 112 (.pair (.int .i64) (.pair (.pair (.int .i64) (.pair (.int .i64) (.pair (.int .i64) (.pair (.int .i64) (.pair (.int .i64) (.pair (.int .i64) (.pair .str (.pair .str .unit)))))))) .unit))) (.pair .bool (.pair .str .unit))))))))))),
  (52, .op),
  (53, .op),
  (54, .op),
  (55, .op),
  (56, .op),
  (57, .op),
  (58, .op),
  (60, .op),
  (61, .op),
  (62, .op),
  (63, .op),
  (64, .op),
  (65, (.sl 5 (.int .u8))),
  (66, .op),
  (67, .op),
  (68, .op),
  (69, .op),
  (71, .op),
  (72, .op),
  (73, .op),
  (74, (.sl 42 (.pair (.int .i64) (.pair (.int .i64) (.pair (.int .i64) (.pair (.int .i64) (.pair (.sl 112 (.pair (.int .i64) (.pair (.pair (.int .i64) (.pair (.int .i64) (.pair (.int .i64) (.pair (.int .i64) (.pair (.int .i64) (.pair (.int .i64) (.pair .str (.pair .str .unit)))))))) .unit))) (.pair .str .unit)))))))),
  (76, .op),
  (77, .op),
  (78, .op),
  (79, .op),
  (80, (.pair (.int .i64) (.pair (.int .i64) (.pair (.int .i64) (.pair (.int .i64) .unit))))),
  (81, (.pair (.int .i64) (.pair (.int .i64) (.pair (.int .i64) (.pair (.int .i64) .unit))))),
  (82, (.sl 186 (.pair (.int .i64) (.pair (.int .i64) (.pair (.sl 228 (.pair (.int .i64) (.pair .str (.pair .str (.pair (.int .i64) (.pair (.int .i64) .unit)))))) .unit))))),
  (83, (.sl 199 (.pair (.int .i64) (.pair (.int .i64) (.pair (.int .i64) (.pair (.int .i64) (.pair (.sl 236 (.pair (.int .i64) (.pair (.int .i64) .unit))) .unit))))))),
  (84, (.sl 166 (.pair (.int .i64) (.pair (.sl 3 (.int .i64)) (.pair (.sl 3 (.int .i64)) (.pair (.sl 3 (.int .i64)) .unit)))))),
  (85, (.sl 3 (.int .i64))),
  (86, (.sl 190 (.pair (.int .i64) (.pair (.int .i64) (.pair .str (.pair .str .unit)))))),
  (87, (.pair (.sl 186 (.pair (.int .i64) (.pair (.int .i64) (.pair (.sl 228 (.pair (.int .i64) (.pair .str (.pair .str (.pair (.int .i64) (.pair (.int .i64) .unit)))))) .unit)))) (.pair (.sl 199 (.pair (.int .i64) (.pair (.int .i64) (.pair (.int .i64) (.pair (.int .i64) (.pair (.sl 236 (.pair (.int .i64) (.pair (.int .i64) .unit))) .unit)))))) (.pair (.sl 166 (.pair (.int .i64) (.pair (.sl 3 (.int .i64)) (.pair (.sl 3 (.int .i64)) (.pair (.sl 3 (.int .i64)) .unit))))) (.pair (.int .i64) (.pair (.sl 3 (.int .i64)) (.pair (.sl 190 (.pair (.int .i64) (.pair (.int .i64) (.pair .str (.pair .str .unit))))) .unit))))))),
  (88, (.pair (.sl 186 (.pair (.int .i64) (.pair (.int .i64) (.pair (.sl 228 (.pair (.int .i64) (.pair .str (.pair .str (.pair (.int .i64) (.pair (.int .i64) .unit)))))) .unit)))) (.pair (.sl 199 (.pair (.int .i64) (.pair (.int .i64) (.pair (.int .i64) (.pair (.int .i64) (.pair (.sl 236 (.pair (.int .i64) (.pair (.int .i64) .unit))) .unit)))))) (.pair (.sl 166 (.pair (.int .i64) (.pair (.sl 3 (.int .i64)) (.pair (.sl 3 (.int .i64)) (.pair (.sl 3 (.int .i64)) .unit))))) (.pair (.int .i64) (.pair (.sl 3 (.int .i64)) (.pair (.sl 190 (.pair (.int .i64) (.pair (.int .i64) (.pair .str (.pair .str .unit))))) .unit))))))),
  (89, (.pair (.int .i64) (.pair (.int .i64) (.pair (.pair (.int .i64) (.pair (.int .i64) (.pair (.sl 112 (.pair (.int .i64) (.pair (.pair (.int .i64) (.pair (.int .i64) (.pair (.int .i64) (.pair (.int .i64) (.pair (.int .i64) (.pair (.int .i64) (.pair .str (.pair .str .unit)))))))) .unit))) .unit))) (.pair (.pair (.sl 186 (.pair (.int .i64) (.pair (.int .i64) (.pair (.sl 228 (.pair (.int .i64) (.pair .str (.pair .str (.pair (.int .i64) (.pair (.int .i64) .unit)))))) .unit)))) (.pair (.sl 199 (.pair (.int .i64) (.pair (.int .i64) (.pair (.int .i64) (.pair (.int .i64) (.pair (.sl 236 (.pair (.int .i64) (.pair (.int .i64) .unit))) .unit)))))) (.pair (.sl 166 (.pair (.int .i64) (.pair (.sl 3 (.int .i64)) (.pair (.sl 3 (.int .i64)) (.pair (.sl 3 (.int .i64)) .unit))))) (.pair (.int .i64) (.pair (.sl 3 (.int .i64)) (.pair (.sl 190 (.pair (.int .i64) (.pair (.int .i64) (.pair .str (.pair .str .unit))))) .unit)))))) .unit))))),
  (90, (.pair (.int .i64) (.pair (.int .i64) (.pair (.pair (.int .i64) (.pair (.int .i64) (.pair (.sl 112 (.pair (.int .i64) (.pair (.pair (.int .i64) (.pair (.int .i64) (.pair (.int .i64) (.pair (.int .i64) (.pair (.int .i64) (.pair (.int .i64) (.pair .str (.pair .str .unit)))))))) .unit))) .unit))) (.pair (.pair (.sl 186 (.pair (.int .i64) (.pair (.int .i64) (.pair (.sl 228 (.pair (.int .i64) (.pair .str (.pair .str (.pair (.int .i64) (.pair (.int .i64) .unit)))))) .unit)))) (.pair (.sl 199 (.pair (.int .i64) (.pair (.int .i64) (.pair (.int .i64) (.pair (.int .i64) (.pair (.sl 236 (.pair (.int .i64) (.pair (.int .i64) .unit))) .unit)))))) (.pair (.sl 166 (.pair (.int .i64) (.pair (.sl 3 (.int .i64)) (.pair (.sl 3 (.int .i64)) (.pair (.sl 3 (.int .i64)) .unit))))) (.pair (.int .i64) (.pair (.sl 3 (.int .i64)) (.pair (.sl 190 (.pair (.int .i64) (.pair (.int .i64) (.pair .str (.pair .str .unit))))) .unit)))))) .unit))))),
  (91, .op),
  (92, (.pair (.int .i64) (.pair (.int .i64) (.pair (.int .i64) (.pair (.int .i64) .unit))))),
  (93, .op),
  (94, .op),
  (95, .op),
  (96, .op),
  (97, (.sl 217 (.pair (.int .i64) (.pair (.int .i64) (.pair (.sl 250 (.pair (.int .i64) (.pair .str (.pair .str (.pair (.int .i64) (.pair (.int .i64) .unit)))))) .unit))))),
  (98, (.sl 221 (.pair (.int .i64) (.pair (.int .i64) (.pair (.int .i64) (.pair (.int .i64) (.pair (.sl 253 (.pair (.int .i64) (.pair (.int .i64) .unit))) .unit))))))),
  (99, (.sl 223 (.pair (.int .i64) (.pair (.sl 3 (.int .i64)) (.pair (.sl 3 (.int .i64)) (.pair (.sl 3 (.int .i64)) .unit)))))),
  (100, (.sl 225 (.pair (.int .i64) (.pair (.int .i64) (.pair .str (.pair .str .unit)))))),
  (101, (.pair (.sl 217 (.pair (.int .i64) (.pair (.int .i64) (.pair (.sl 250 (.pair (.int .i64) (.pair .str (.pair .str (.pair (.int .i64) (.pair (.int .i64) .unit)))))) .unit)))) (.pair (.sl 221 (.pair (.int .i64) (.pair (.int .i64) (.pair (.int .i64) (.pair (.int .i64) (.pair (.sl 253 (.pair (.int .i64) (.pair (.int .i64) .unit))) .unit)))))) (.pair (.sl 223 (.pair (.int .i64) (.pair (.sl 3 (.int .i64)) (.pair (.sl 3 (.int .i64)) (.pair (.sl 3 (.int .i64)) .unit))))) (.pair (.int .i64) (.pair (.sl 3 (.int .i64)) (.pair (.sl 225 (.pair (.int .i64) (.pair (.int .i64) (.pair .str (.pair .str .unit))))) .unit))))))),
  (102, (.pair (.sl 217 (.pair (.int .i64) (.pair (.int .i64) (.pair (.sl 250 (.pair (.int .i64) (.pair .str (.pair .str (.pair (.int .i64) (.pair (.int .i64) .unit)))))) .unit)))) (.pair (.sl 221 (.pair (.int .i64) (.pair (.int .i64) (.pair (.int .i64) (.pair (.int .i64) (.pair (.sl 253 (.pair (.int .i64) (.pair (.int .i64) .unit))) .unit)))))) (.pair (.sl 223 (.pair (.int .i64) (.pair (.sl 3 (.int .i64)) (.pair (.sl 3 (.int .i64)) (.pair (.sl 3 (.int .i64)) .unit))))) (.pair (.int .i64) (.pair (.sl 3 (.int .i64)) (.pair (.sl 225 (.pair (.int .i64) (.pair (.int .i64) (.pair .str (.pair .str .unit))))) .unit))))))),
  (103, (.pair (.int .i64) (.pair (.int .i64) (.pair (.pair (.int .i64) (.pair (.int .i64) (.pair (.sl 122 (.pair (.int .i64) (.pair (.pair (.int .i64) (.pair (.int .i64) (.pair (.int .i64) (.pair (.int .i64) (.pair (.int .i64) (.pair (.int .i64) (.pair .str (.pair .str .unit)))))))) .unit))) .unit))) (.pair (.pair (.sl 217 (.pair (.int .i64) (.pair (.int .i64) (.pair (.sl 250 (.pair (.int .i64) (.pair .str (.pair .str (.pair (.int .i64) (.pair (.int .i64) .unit)))))) .unit)))) (.pair (.sl 221 (.pair (.int .i64) (.pair (.int .i64) (.pair (.int .i64) (.pair (.int .i64) (.pair (.sl 253 (.pair (.int .i64) (.pair (.int .i64) .unit))) .unit)))))) (.pair (.sl 223 (.pair (.int .i64) (.pair (.sl 3 (.int .i64)) (.pair (.sl 3 (.int .i64)) (.pair (.sl 3 (.int .i64)) .unit))))) (.pair (.int .i64) (.pair (.sl 3 (.int .i64)) (.pair (.sl 225 (.pair (.int .i64) (.pair (.int .i64) (.pair .str (.pair .str .unit))))) .unit)))))) .unit))))),
  (104, (.pair (.int .i64) (.pair (.int .i64) (.pair (.pair (.int .i64) (.pair (.int .i64) (.pair (.sl 122 (.pair (.int .i64) (.pair (.pair (.int .i64) (.pair (.int .i64) (.pair (.int .i64) (.pair (.int .i64) (.pair (.int .i64) (.pair (.int .i64) (.pair .str (.pair .str .unit)))))))) .unit))) .unit))) (.pair (.pair (.sl 217 (.pair (.int .i64) (.pair (.int .i64) (.pair (.sl 250 (.pair (.int .i64) (.pair .str (.pair .str (.pair (.int .i64) (.pair (.int .i64) .unit)))))) .unit)))) (.pair (.sl 221 (.pair (.int .i64) (.pair (.int .i64) (.pair (.int .i64) (.pair (.int .i64) (.pair (.sl 253 (.pair (.int .i64) (.pair (.int .i64) .unit))) .unit)))))) (.pair (.sl 223 (.pair (.int .i64) (.pair (.sl 3 (.int .i64)) (.pair (.sl 3 (.int .i64)) (.pair (.sl 3 (.int .i64)) .unit))))) (.pair (.int .i64) (.pair (.sl 3 (.int .i64)) (.pair (.sl 225 (.pair (.int .i64) (.pair (.int .i64) (.pair .str (.pair .str .unit))))) .unit)))))) .unit))))),
  (105, .op),
  (106, .op),
  (107, .op),
  (108, .op),
  (109, (.pair (.int .i64) (.pair (.int .i64) (.pair (.int .i64) (.pair (.int .i64) (.pair (.int .i64) (.pair (.int .i64) (.pair .str (.pair .str .unit))))))))),
  (110, (.pair (.int .i64) (.pair (.int .i64) (.pair (.int .i64) (.pair (.int .i64) (.pair (.int .i64) (.pair (.int .i64) (.pair .str (.pair .str .unit))))))))),
  (111, (.pair (.int .i64) (.pair (.pair (.int .i64) (.pair (.int .i64) (.pair (.int .i64) (.pair (.int .i64) (.pair (.int .i64) (.pair (.int .i64) (.pair .str (.pair .str .unit)))))))) .unit))),
  (112, (.pair (.int .i64) (.pair (.pair (.int .i64) (.pair (.int .i64) (.pair (.int .i64) (.pair (.int .i64) (.pair (.int .i64) (.pair (.int .i64) (.pair .str (.pair .str .unit)))))))) .unit))),
  (113, .op),
  (114, .op),
  (115, .op),
  (116, .op),
  (117, .op),
  (118, .op),
  (119, .op),
  (120, (.pair (.int .i64) (.pair (.int .i64) (.pair (.int .i64) (.pair (.int .i64) (.pair (.int .i64) (.pair (.int .i64) (.pair .str (.pair .str .unit))))))))),
  (121, (.pair (.int .i64) (.pair (.pair (.int .i64) (.pair (.int .i64) (.pair (.int .i64) (.pair (.int .i64) (.pair (.int .i64) (.pair (.int .i64) (.pair .str (.pair .str .unit)))))))) .unit))),
  (122, (.pair (.int .i64) (.pair (.pair (.int .i64) (.pair (.int .i64) (.pair (.int .i64) (.pair (.int .i64) (.pair (.int .i64) (.pair (.int .i64) (.pair .str (.pair .str .unit)))))))) .unit))),
  (123, .op),
  (124, .op),
  (125, .op),
  (126, .op),
  (127, .op),
  (128, .op),
  (129, .op),
  (130, .op),
  (131, .op),
  (132, (.int .u64)),
  (134, .op),
  (135, .op),
  (136, (.pair (.sl 5 (.int .u8)) (.pair (.int .i64) (.pair .bool .unit)))),
  (137, (.pair (.sl 5 (.int .u8)) (.pair (.int .i64) (.pair .bool .unit)))),
  (138, .op),
  (140, .op),
  (141, .op),
  (142, .op),
  (143, .op),
  (144, .op),
  (145, .op),
  (146, .op),
  (147, .op),
  (148, .op),
  (149, .op),
  (150, .op),
  (151, .op),
  (152, .op),
  (153, (.sl 65 (.sl 5 (.int .u8)))),
  (154, .op),
  (155, .op),
  (156, .op),
  (157, .op),
  (158, .op),
  (159, (.pair (.sl 5 (.int .u8)) (.pair (.int .i64) (.pair .bool .unit)))),
  (160, (.pair (.sl 5 (.int .u8)) (.pair (.int .i64) (.pair .bool .unit)))),
  (161, .op),
  (162, .op),
  (163, .op),
  (164, .op),
  (165, (.pair (.int .i64) (.pair (.sl 3 (.int .i64)) (.pair (.sl 3 (.int .i64)) (.pair (.sl 3 (.int .i64)) .unit))))),
  (166, (.pair (.int .i64) (.pair (.sl 3 (.int .i64)) (.pair (.sl 3 (.int .i64)) (.pair (.sl 3 (.int .i64)) .unit))))),
  (167, .op),
  (168, .op),
  (169, .op),
  (170, .op),
  (171, .op),
  (172, .op),
  (173, .op),
  (174, .op),
  (175, .op),
  (176, .op),
  (177, .op),
  (178, .op),
  (179, .op),
  (180, .op),
  (181, .op),
  (182, .op),
  (183, .op),
  (184, (.sl 228 (.pair (.int .i64) (.pair .str (.pair .str (.pair (.int .i64) (.pair (.int .i64) .unit))))))),
  (185, (.pair (.int .i64) (.pair (.int .i64) (.pair (.sl 228 (.pair (.int .i64) (.pair .str (.pair .str (.pair (.int .i64) (.pair (.int .i64) .unit)))))) .unit)))),
  (186, (.pair (.int .i64) (.pair (.int .i64) (.pair (.sl 228 (.pair (.int .i64) (.pair .str (.pair .str (.pair (.int .i64) (.pair (.int .i64) .unit)))))) .unit)))),
  (187, .op),
  (188, .op),
  (189, (.pair (.int .i64) (.pair (.int .i64) (.pair .str (.pair .str .unit))))),
  (190, (.pair (.int .i64) (.pair (.int .i64) (.pair .str (.pair .str .unit))))),
  (191, .op),
  (192, .op),
  (193, .op),
  (194, .op),
  (195, .op),
  (196, .op),
  (197, (.sl 236 (.pair (.int .i64) (.pair (.int .i64) .unit)))),
  (198, (.pair (.int .i64) (.pair (.int .i64) (.pair (.int .i64) (.pair (.int .i64) (.pair (.sl 236 (.pair (.int .i64) (.pair (.int .i64) .unit))) .unit)))))),
  (199, (.pair (.int .i64) (.pair (.int .i64) (.pair (.int .i64) (.pair (.int .i64) (.pair (.sl 236 (.pair (.int .i64) (.pair (.int .i64) .unit))) .unit)))))),
  (200, .op),
  (201, .op),
  (202, .op),
  (203, .op),
  (204, .op),
  (205, .op),
  (207, .op),
  (208, .op),
  (209, .op),
  (210, .op),
  (211, .op),
  (212, .op),
  (213, .op),
  (214, .op),
  (215, (.sl 250 (.pair (.int .i64) (.pair .str (.pair .str (.pair (.int .i64) (.pair (.int .i64) .unit))))))),
  (216, (.pair (.int .i64) (.pair (.int .i64) (.pair (.sl 250 (.pair (.int .i64) (.pair .str (.pair .str (.pair (.int .i64) (.pair (.int .i64) .unit)))))) .unit)))),
  (217, (.pair (.int .i64) (.pair (.int .i64) (.pair (.sl 250 (.pair (.int .i64) (.pair .str (.pair .str (.pair (.int .i64) (.pair (.int .i64) .unit)))))) .unit)))),
  (218, .op),
  (219, (.sl 253 (.pair (.int .i64) (.pair (.int .i64) .unit)))),
  (220, (.pair (.int .i64) (.pair (.int .i64) (.pair (.int .i64) (.pair (.int .i64) (.pair (.sl 253 (.pair (.int .i64) (.pair (.int .i64) .unit))) .unit)))))),
  (221, (.pair (.int .i64) (.pair (.int .i64) (.pair (.int .i64) (.pair (.int .i64) (.pair (.sl 253 (.pair (.int .i64) (.pair (.int .i64) .unit))) .unit)))))),
  (222, .op),
  (223, (.pair (.int .i64) (.pair (.sl 3 (.int .i64)) (.pair (.sl 3 (.int .i64)) (.pair (.sl 3 (.int .i64)) .unit))))),
  (224, .op),
  (225, (.pair (.int .i64) (.pair (.int .i64) (.pair .str (.pair .str .unit))))),
  (226, .op),
  (227, (.pair (.int .i64) (.pair .str (.pair .str (.pair (.int .i64) (.pair (.int .i64) .unit)))))),
  (228, (.pair (.int .i64) (.pair .str (.pair .str (.pair (.int .i64) (.pair (.int .i64) .unit)))))),
  (229, .op),
  (230, .op),
  (231, .op),
  (232, .op),
  (233, .op),
  (234, .op),
  (235, (.pair (.int .i64) (.pair (.int .i64) .unit))),
  (236, (.pair (.int .i64) (.pair (.int .i64) .unit))),
  (237, .op),
  (238, .op),
  (239, .op),
  (240, .op),
  (241, .op),
  (242, .op),
  (243, .op),
  (244, .op),
  (245, .op),
  (246, .op),
  (247, .op),
  (248, .op),
  (249, .op),
  (250, (.pair (.int .i64) (.pair .str (.pair .str (.pair (.int .i64) (.pair (.int .i64) .unit)))))),
  (251, .op),
  (252, .op),
  (253, (.pair (.int .i64) (.pair (.int .i64) .unit))),
  (259, (.int .u32)),
  (260, (.int .u8)),
  (261, (.int .u8)),
  (262, .op),
  (263, .op),
  (264, (.int .i32)),
  (265, (.int .i32))]
theorem tys : ∀ t T, find theta t = some T → tyF Try.prog T (.t t) = true := tys_of (by kernel_rfl)
theorem mixed : Try.prog.follows .mixedOrders = true := by kernel_rfl
namespace impl_within
noncomputable def fs : FS := ⟨[(.val (.int .i64) .f), (.val (.int .i64) .f), (.val (.int .i64) .f)], [(.bool, .o)], fun _ => true, fun x => ((), ((impl_within x.1 x.2.1 x.2.2.1), ()))⟩
noncomputable def E : Env := ⟨theta, [], []⟩
noncomputable def H : List LC := []
noncomputable def code (i : Nat) : Code := (loopsOf (bodyOf Try.f71)).getD i .skip
theorem run (x0 : Int) (x1 : Int) (x2 : Int) : runFn E H Try.f71 fs.ps fs.rs (x0, (x1, (x2, ()))) = raw x0 x1 x2 := by kernel_rfl
theorem env : EnvOk Try.prog E := env_nil tys
theorem loops : ∀ c, Try.f71.body = some c → LoopsOk E H c := loops_none (by kernel_rfl)
theorem sound : Sound Try.prog 71 fs := fn_sound env mixed Try.func71 H loops fun ⟨x0, x1, x2, ()⟩ hw _ => (run x0 x1 x2).trans (eq x0 x1 x2 hw)
theorem known : Seen Try.prog 71 fs := ⟨sound, _, Try.func71, by kernel_rfl, by kernel_rfl⟩
end impl_within
namespace spec_l1In
noncomputable def fs : FS := ⟨[(.val (.int .i64) .f), (.val (.int .i64) .f), (.val (.int .i64) .f)], [(.bool, .o)], fun _ => true, fun x => ((), ((spec_l1In x.1 x.2.1 x.2.2.1), ()))⟩
noncomputable def E : Env := ⟨theta, [], []⟩
noncomputable def H : List LC := []
noncomputable def code (i : Nat) : Code := (loopsOf (bodyOf Try.f69)).getD i .skip
theorem run (x0 : Int) (x1 : Int) (x2 : Int) : runFn E H Try.f69 fs.ps fs.rs (x0, (x1, (x2, ()))) = raw x0 x1 x2 := by kernel_rfl
theorem env : EnvOk Try.prog E := env_nil tys
theorem loops : ∀ c, Try.f69.body = some c → LoopsOk E H c := loops_none (by kernel_rfl)
theorem sound : Sound Try.prog 69 fs := fn_sound env mixed Try.func69 H loops fun ⟨x0, x1, x2, ()⟩ hw _ => (run x0 x1 x2).trans (eq x0 x1 x2 hw)
theorem known : Seen Try.prog 69 fs := ⟨sound, _, Try.func69, by kernel_rfl, by kernel_rfl⟩
end spec_l1In
namespace laws_eqCmd
noncomputable def fs : FS := ⟨[(.val (.pair (.int .i64) (.pair (.int .i64) (.pair (.int .i64) (.pair (.int .i64) (.pair (.int .i64) (.pair (.int .i64) (.pair .str (.pair .str .unit)))))))) .f), (.val (.pair (.int .i64) (.pair (.int .i64) (.pair (.int .i64) (.pair (.int .i64) (.pair (.int .i64) (.pair (.int .i64) (.pair .str (.pair .str .unit)))))))) .f)], [(.bool, .o)], fun _ => true, fun x => ((), ((laws_eqCmd x.1 x.2.1), ()))⟩
noncomputable def E : Env := ⟨theta, [], []⟩
noncomputable def H : List LC := []
noncomputable def code (i : Nat) : Code := (loopsOf (bodyOf Try.f115)).getD i .skip
theorem run (x0 : Cmd) (x1 : Cmd) : runFn E H Try.f115 fs.ps fs.rs (x0, (x1, ())) = raw x0 x1 := by kernel_rfl
theorem env : EnvOk Try.prog E := env_nil tys
theorem loops : ∀ c, Try.f115.body = some c → LoopsOk E H c := loops_none (by kernel_rfl)
theorem sound : Sound Try.prog 115 fs := fn_sound env mixed Try.func115 H loops fun ⟨x0, x1, ()⟩ hw _ => (run x0 x1).trans (eq x0 x1 hw)
theorem known : Seen Try.prog 115 fs := ⟨sound, _, Try.func115, by kernel_rfl, by kernel_rfl⟩
end laws_eqCmd
namespace laws_eqEntry
noncomputable def fs : FS := ⟨[(.val (.pair (.int .i64) (.pair (.pair (.int .i64) (.pair (.int .i64) (.pair (.int .i64) (.pair (.int .i64) (.pair (.int .i64) (.pair (.int .i64) (.pair .str (.pair .str .unit)))))))) .unit)) .f), (.val (.pair (.int .i64) (.pair (.pair (.int .i64) (.pair (.int .i64) (.pair (.int .i64) (.pair (.int .i64) (.pair (.int .i64) (.pair (.int .i64) (.pair .str (.pair .str .unit)))))))) .unit)) .f)], [(.bool, .o)], fun _ => true, fun x => ((), ((laws_eqEntry x.1 x.2.1), ()))⟩
noncomputable def E : Env := ⟨theta, [(115, laws_eqCmd.fs)], []⟩
noncomputable def H : List LC := []
noncomputable def code (i : Nat) : Code := (loopsOf (bodyOf Try.f85)).getD i .skip
theorem run (x0 : Entry) (x1 : Entry) : runFn E H Try.f85 fs.ps fs.rs (x0, (x1, ())) = raw x0 x1 := by kernel_rfl
theorem env : EnvOk Try.prog E := env_cons laws_eqCmd.known (env_nil tys)
theorem loops : ∀ c, Try.f85.body = some c → LoopsOk E H c := loops_none (by kernel_rfl)
theorem sound : Sound Try.prog 85 fs := fn_sound env mixed Try.func85 H loops fun ⟨x0, x1, ()⟩ hw _ => (run x0 x1).trans (eq x0 x1 hw)
theorem known : Seen Try.prog 85 fs := ⟨sound, _, Try.func85, by kernel_rfl, by kernel_rfl⟩
end laws_eqEntry
namespace laws_eqEntryS
noncomputable def fs : FS := ⟨[(.val (.sl 112 (.pair (.int .i64) (.pair (.pair (.int .i64) (.pair (.int .i64) (.pair (.int .i64) (.pair (.int .i64) (.pair (.int .i64) (.pair (.int .i64) (.pair .str (.pair .str .unit)))))))) .unit))) .f), (.val (.sl 112 (.pair (.int .i64) (.pair (.pair (.int .i64) (.pair (.int .i64) (.pair (.int .i64) (.pair (.int .i64) (.pair (.int .i64) (.pair (.int .i64) (.pair .str (.pair .str .unit)))))))) .unit))) .f)], [(.bool, .o)], fun _ => true, fun x => ((), ((laws_eqEntryS x.1 x.2.1), ()))⟩
noncomputable def E : Env := ⟨theta, [(85, laws_eqEntry.fs)], []⟩
noncomputable def sh4 : ShSt := ⟨[(.one (.dat (.sl 112 (.pair (.int .i64) (.pair (.pair (.int .i64) (.pair (.int .i64) (.pair (.int .i64) (.pair (.int .i64) (.pair (.int .i64) (.pair (.int .i64) (.pair .str (.pair .str .unit)))))))) .unit))))), (.one (.dat (.sl 112 (.pair (.int .i64) (.pair (.pair (.int .i64) (.pair (.int .i64) (.pair (.int .i64) (.pair (.int .i64) (.pair (.int .i64) (.pair (.int .i64) (.pair .str (.pair .str .unit)))))))) .unit))))), (.one .undef), (.one .undef), (.one .undef), (.one (.dat (.int .i64))), (.one .undef), (.one .undef), (.one .undef), (.one .undef), (.one .undef), (.one .undef), (.one .undef), (.one .undef), (.one .undef), (.one .undef), (.one .undef), (.one .undef), (.one .undef), (.one .undef), (.one .undef), (.one .undef), (.one .undef), (.one .undef), (.one .undef), (.one .undef), (.one .undef)], []⟩
noncomputable def outs4 : List OutC := [⟨.ret, ⟨0, [4], []⟩, ⟨[(.one .undef), (.one .undef), (.one .undef), (.one .undef), (.one (.dat .bool)), (.one .undef), (.one .undef), (.one .undef), (.one .undef), (.one .undef), (.one .undef), (.one .undef), (.one .undef), (.one .undef), (.one .undef), (.one .undef), (.one .undef), (.one .undef), (.one .undef), (.one .undef), (.one .undef), (.one .undef), (.one .undef), (.one .undef), (.one .undef), (.one .undef), (.one .undef)], []⟩⟩, ⟨(.exit 0), ⟨0, [], []⟩, ⟨[(.one .undef), (.one .undef), (.one .undef), (.one .undef), (.one .undef), (.one .undef), (.one .undef), (.one .undef), (.one .undef), (.one .undef), (.one .undef), (.one .undef), (.one .undef), (.one .undef), (.one .undef), (.one .undef), (.one .undef), (.one .undef), (.one .undef), (.one .undef), (.one .undef), (.one .undef), (.one .undef), (.one .undef), (.one .undef), (.one .undef), (.one .undef)], []⟩⟩]
noncomputable def L4 : LC := ⟨4, ⟨4, [1, 0, 5], []⟩, sh4, outs4, pre4, fn4⟩
noncomputable def H : List LC := [L4]
noncomputable def code (i : Nat) : Code := (loopsOf (bodyOf Try.f42)).getD i .skip
theorem step4 (x1 : (List Entry)) (x2 : (List Entry)) (x3 : Int) : L4.step E H (code 0) (x1, (x2, (x3, ()))) = raw4 x1 x2 x3 := by kernel_rfl
theorem lok4 : LoopOk E H (code 0) L4 := ⟨mu4, fun ⟨x1, x2, x3, ()⟩ hp => rounds_ok (step4 x1 x2 x3) (ok4 x1 x2 x3 hp)⟩
theorem run (x0 : (List Entry)) (x1 : (List Entry)) : runFn E H Try.f42 fs.ps fs.rs (x0, (x1, ())) = raw x0 x1 := by kernel_rfl
theorem env : EnvOk Try.prog E := env_cons laws_eqEntry.known (env_nil tys)
theorem loops : ∀ c, Try.f42.body = some c → LoopsOk E H c := loops_of (by kernel_rfl) (by kernel_rfl) fun i l h => match i, h with
  | 0, h => Option.some.inj h ▸ lok4
  | n + 1, h => by cases h
theorem sound : Sound Try.prog 42 fs := fn_sound env mixed Try.func42 H loops fun ⟨x0, x1, ()⟩ hw _ => (run x0 x1).trans (eq x0 x1 hw)
theorem known : Seen Try.prog 42 fs := ⟨sound, _, Try.func42, by kernel_rfl, by kernel_rfl⟩
end laws_eqEntryS
namespace laws_eqLog
noncomputable def fs : FS := ⟨[(.val (.pair (.int .i64) (.pair (.int .i64) (.pair (.sl 112 (.pair (.int .i64) (.pair (.pair (.int .i64) (.pair (.int .i64) (.pair (.int .i64) (.pair (.int .i64) (.pair (.int .i64) (.pair (.int .i64) (.pair .str (.pair .str .unit)))))))) .unit))) .unit))) .f), (.val (.pair (.int .i64) (.pair (.int .i64) (.pair (.sl 112 (.pair (.int .i64) (.pair (.pair (.int .i64) (.pair (.int .i64) (.pair (.int .i64) (.pair (.int .i64) (.pair (.int .i64) (.pair (.int .i64) (.pair .str (.pair .str .unit)))))))) .unit))) .unit))) .f)], [(.bool, .o)], fun _ => true, fun x => ((), ((laws_eqLog x.1 x.2.1), ()))⟩
noncomputable def E : Env := ⟨theta, [(42, laws_eqEntryS.fs)], []⟩
noncomputable def H : List LC := []
noncomputable def code (i : Nat) : Code := (loopsOf (bodyOf Try.f19)).getD i .skip
theorem run (x0 : Log) (x1 : Log) : runFn E H Try.f19 fs.ps fs.rs (x0, (x1, ())) = raw x0 x1 := by kernel_rfl
theorem env : EnvOk Try.prog E := env_cons laws_eqEntryS.known (env_nil tys)
theorem loops : ∀ c, Try.f19.body = some c → LoopsOk E H c := loops_none (by kernel_rfl)
theorem sound : Sound Try.prog 19 fs := fn_sound env mixed Try.func19 H loops fun ⟨x0, x1, ()⟩ hw _ => (run x0 x1).trans (eq x0 x1 hw)
theorem known : Seen Try.prog 19 fs := ⟨sound, _, Try.func19, by kernel_rfl, by kernel_rfl⟩
end laws_eqLog
namespace laws_markText
noncomputable def fs : FS := ⟨[(.val (.int .i64) .f)], [(.str, .o)], fun x => laws_markText.pre x.1, fun x => ((), ((laws_markText x.1), ()))⟩
noncomputable def E : Env := ⟨theta, [], []⟩
noncomputable def sh4 : ShSt := ⟨[(.one (.dat (.int .i64))), (.one .undef), (.one .undef), (.one (.dat .str)), (.one .undef), (.one .undef), (.one .undef), (.one .undef), (.one .undef), (.one .undef), (.one .undef), (.one .undef), (.one .undef), (.one .undef), (.one .undef), (.one .undef), (.one .undef), (.one .undef), (.one .undef), (.one .undef)], []⟩
noncomputable def outs4 : List OutC := [⟨(.exit 0), ⟨0, [3], []⟩, ⟨[(.one .undef), (.one .undef), (.one .undef), (.one (.dat .str)), (.one .undef), (.one .undef), (.one .undef), (.one .undef), (.one .undef), (.one .undef), (.one .undef), (.one .undef), (.one .undef), (.one .undef), (.one .undef), (.one .undef), (.one .undef), (.one .undef), (.one .undef), (.one .undef)], []⟩⟩]
noncomputable def L4 : LC := ⟨4, ⟨4, [0, 3], []⟩, sh4, outs4, pre4, fn4⟩
noncomputable def H : List LC := [L4]
noncomputable def code (i : Nat) : Code := (loopsOf (bodyOf Try.f86)).getD i .skip
theorem step4 (x1 : Int) (x2 : (List UInt8)) : L4.step E H (code 0) (x1, (x2, ())) = raw4 x1 x2 := by kernel_rfl
theorem lok4 : LoopOk E H (code 0) L4 := ⟨mu4, fun ⟨x1, x2, ()⟩ hp => rounds_ok (step4 x1 x2) (ok4 x1 x2 hp)⟩
theorem run (x0 : Int) : runFn E H Try.f86 fs.ps fs.rs (x0, ()) = raw x0 := by kernel_rfl
theorem env : EnvOk Try.prog E := env_nil tys
theorem loops : ∀ c, Try.f86.body = some c → LoopsOk E H c := loops_of (by kernel_rfl) (by kernel_rfl) fun i l h => match i, h with
  | 0, h => Option.some.inj h ▸ lok4
  | n + 1, h => by cases h
theorem sound : Sound Try.prog 86 fs := fn_sound env mixed Try.func86 H loops fun ⟨x0, ()⟩ hw hp => (run x0).trans (eq x0 hw hp)
theorem known : Seen Try.prog 86 fs := ⟨sound, _, Try.func86, by kernel_rfl, by kernel_rfl⟩
end laws_markText
namespace laws_markEntryS
noncomputable def fs : FS := ⟨[(.mut (.sl 112 (.pair (.int .i64) (.pair (.pair (.int .i64) (.pair (.int .i64) (.pair (.int .i64) (.pair (.int .i64) (.pair (.int .i64) (.pair (.int .i64) (.pair .str (.pair .str .unit)))))))) .unit)))), (.val (.int .i64) .f)], [((.int .i64), .o)], fun x => laws_markEntryS.pre x.1 x.2.1, fun x => (((laws_markEntryS x.1 x.2.1).1, ()), ((laws_markEntryS x.1 x.2.1).2, ()))⟩
noncomputable def E : Env := ⟨theta, [(86, laws_markText.fs)], []⟩
noncomputable def sh2 : ShSt := ⟨[(.one (.arr 40000001)), (.one (.dat (.int .i64))), (.one .undef), (.one .undef), (.one .undef), (.one (.dat (.int .i64))), (.one .undef), (.one .undef), (.one .undef), (.one .undef), (.one .undef), (.one .undef), (.one .undef), (.one .undef), (.one .undef), (.one .undef), (.one .undef), (.one .undef), (.one .undef), (.one .undef), (.one .undef), (.one .undef), (.one .undef), (.one .undef), (.one .undef), (.one .undef), (.one .undef), (.one .undef), (.one .undef), (.one .undef), (.one .undef), (.one .undef), (.one .undef), (.one .undef), (.one .undef), (.one .undef), (.one .undef), (.one .undef), (.one .undef), (.one .undef), (.one .undef), (.one .undef), (.one .undef), (.one .undef), (.one .undef), (.one .undef), (.one .undef), (.one .undef), (.one .undef), (.one .undef), (.one .undef), (.one .undef), (.one .undef), (.one .undef), (.one .undef), (.one .undef), (.one .undef), (.one .undef), (.one .undef), (.one .undef), (.one .undef), (.one .undef), (.one .undef), (.one .undef), (.one .undef), (.one .undef), (.one .undef), (.one .undef), (.one .undef), (.one .undef), (.one .undef), (.one .undef), (.one .undef), (.one .undef), (.one .undef), (.one .undef), (.one .undef), (.one .undef), (.one .undef), (.one .undef), (.one .undef), (.one .undef), (.one .undef), (.one .undef), (.one .undef), (.one .undef)], [(40000001, (.arr 112 (.pair (.int .i64) (.pair (.pair (.int .i64) (.pair (.int .i64) (.pair (.int .i64) (.pair (.int .i64) (.pair (.int .i64) (.pair (.int .i64) (.pair .str (.pair .str .unit)))))))) .unit))))]⟩
noncomputable def outs2 : List OutC := [⟨(.exit 0), ⟨0, [1, 0], []⟩, ⟨[(.one (.arr 40000001)), (.one (.dat (.int .i64))), (.one .undef), (.one .undef), (.one .undef), (.one .undef), (.one .undef), (.one .undef), (.one .undef), (.one .undef), (.one .undef), (.one .undef), (.one .undef), (.one .undef), (.one .undef), (.one .undef), (.one .undef), (.one .undef), (.one .undef), (.one .undef), (.one .undef), (.one .undef), (.one .undef), (.one .undef), (.one .undef), (.one .undef), (.one .undef), (.one .undef), (.one .undef), (.one .undef), (.one .undef), (.one .undef), (.one .undef), (.one .undef), (.one .undef), (.one .undef), (.one .undef), (.one .undef), (.one .undef), (.one .undef), (.one .undef), (.one .undef), (.one .undef), (.one .undef), (.one .undef), (.one .undef), (.one .undef), (.one .undef), (.one .undef), (.one .undef), (.one .undef), (.one .undef), (.one .undef), (.one .undef), (.one .undef), (.one .undef), (.one .undef), (.one .undef), (.one .undef), (.one .undef), (.one .undef), (.one .undef), (.one .undef), (.one .undef), (.one .undef), (.one .undef), (.one .undef), (.one .undef), (.one .undef), (.one .undef), (.one .undef), (.one .undef), (.one .undef), (.one .undef), (.one .undef), (.one .undef), (.one .undef), (.one .undef), (.one .undef), (.one .undef), (.one .undef), (.one .undef), (.one .undef), (.one .undef), (.one .undef), (.one .undef)], [(40000001, (.arr 112 (.pair (.int .i64) (.pair (.pair (.int .i64) (.pair (.int .i64) (.pair (.int .i64) (.pair (.int .i64) (.pair (.int .i64) (.pair (.int .i64) (.pair .str (.pair .str .unit)))))))) .unit))))]⟩⟩]
noncomputable def L2 : LC := ⟨2, ⟨2, [0, 5, 1], []⟩, sh2, outs2, pre2, fn2⟩
noncomputable def H : List LC := [L2]
noncomputable def code (i : Nat) : Code := (loopsOf (bodyOf Try.f43)).getD i .skip
theorem step2 (x1 : Int) (x2 : Int) (x3 : (List Entry)) : L2.step E H (code 0) (x1, (x2, (x3, ()))) = raw2 x1 x2 x3 := by kernel_rfl
theorem lok2 : LoopOk E H (code 0) L2 := ⟨mu2, fun ⟨x1, x2, x3, ()⟩ hp => rounds_ok (step2 x1 x2 x3) (ok2 x1 x2 x3 hp)⟩
theorem run (x0 : (List Entry)) (x1 : Int) : runFn E H Try.f43 fs.ps fs.rs (x0, (x1, ())) = raw x0 x1 := by kernel_rfl
theorem env : EnvOk Try.prog E := env_cons laws_markText.known (env_nil tys)
theorem loops : ∀ c, Try.f43.body = some c → LoopsOk E H c := loops_of (by kernel_rfl) (by kernel_rfl) fun i l h => match i, h with
  | 0, h => Option.some.inj h ▸ lok2
  | n + 1, h => by cases h
theorem sound : Sound Try.prog 43 fs := fn_sound env mixed Try.func43 H loops fun ⟨x0, x1, ()⟩ hw hp => (run x0 x1).trans (eq x0 x1 hw hp)
theorem known : Seen Try.prog 43 fs := ⟨sound, _, Try.func43, by kernel_rfl, by kernel_rfl⟩
end laws_markEntryS
namespace laws_markLog
noncomputable def fs : FS := ⟨[(.mut (.pair (.int .i64) (.pair (.int .i64) (.pair (.sl 112 (.pair (.int .i64) (.pair (.pair (.int .i64) (.pair (.int .i64) (.pair (.int .i64) (.pair (.int .i64) (.pair (.int .i64) (.pair (.int .i64) (.pair .str (.pair .str .unit)))))))) .unit))) .unit)))), (.val (.int .i64) .f)], [((.int .i64), .o)], fun x => laws_markLog.pre x.1 x.2.1, fun x => (((laws_markLog x.1 x.2.1).1, ()), ((laws_markLog x.1 x.2.1).2, ()))⟩
noncomputable def E : Env := ⟨theta, [(43, laws_markEntryS.fs)], []⟩
noncomputable def H : List LC := []
noncomputable def code (i : Nat) : Code := (loopsOf (bodyOf Try.f36)).getD i .skip
theorem run (x0 : Log) (x1 : Int) : runFn E H Try.f36 fs.ps fs.rs (x0, (x1, ())) = raw x0 x1 := by kernel_rfl
theorem env : EnvOk Try.prog E := env_cons laws_markEntryS.known (env_nil tys)
theorem loops : ∀ c, Try.f36.body = some c → LoopsOk E H c := loops_none (by kernel_rfl)
theorem sound : Sound Try.prog 36 fs := fn_sound env mixed Try.func36 H loops fun ⟨x0, x1, ()⟩ hw hp => (run x0 x1).trans (eq x0 x1 hw hp)
theorem known : Seen Try.prog 36 fs := ⟨sound, _, Try.func36, by kernel_rfl, by kernel_rfl⟩
end laws_markLog
namespace laws_heldEntryS
noncomputable def fs : FS := ⟨[(.val (.sl 112 (.pair (.int .i64) (.pair (.pair (.int .i64) (.pair (.int .i64) (.pair (.int .i64) (.pair (.int .i64) (.pair (.int .i64) (.pair (.int .i64) (.pair .str (.pair .str .unit)))))))) .unit))) .f), (.val (.int .i64) .f)], [((.int .i64), .o)], fun x => laws_heldEntryS.pre x.1 x.2.1, fun x => ((), ((laws_heldEntryS x.1 x.2.1), ()))⟩
noncomputable def E : Env := ⟨theta, [(86, laws_markText.fs)], []⟩
noncomputable def sh2 : ShSt := ⟨[(.one (.dat (.sl 112 (.pair (.int .i64) (.pair (.pair (.int .i64) (.pair (.int .i64) (.pair (.int .i64) (.pair (.int .i64) (.pair (.int .i64) (.pair (.int .i64) (.pair .str (.pair .str .unit)))))))) .unit))))), (.one (.dat (.int .i64))), (.one .undef), (.one .undef), (.one .undef), (.one (.dat (.int .i64))), (.one .undef), (.one .undef), (.one .undef), (.one .undef), (.one .undef), (.one .undef), (.one .undef), (.one .undef), (.one .undef), (.one .undef), (.one .undef), (.one .undef), (.one .undef), (.one .undef), (.one .undef), (.one .undef), (.one .undef), (.one .undef), (.one .undef), (.one .undef), (.one .undef), (.one .undef), (.one .undef), (.one .undef), (.one .undef), (.one .undef), (.one .undef), (.one .undef), (.one .undef), (.one .undef), (.one .undef), (.one .undef), (.one .undef), (.one .undef), (.one .undef), (.one .undef), (.one .undef), (.one .undef), (.one .undef), (.one .undef), (.one .undef), (.one .undef), (.one .undef), (.one .undef), (.one .undef), (.one .undef), (.one .undef), (.one .undef), (.one .undef), (.one .undef), (.one .undef), (.one .undef), (.one .undef), (.one .undef), (.one .undef), (.one .undef), (.one .undef), (.one .undef), (.one .undef), (.one .undef), (.one .undef), (.one .undef), (.one .undef), (.one .undef), (.one .undef), (.one .undef), (.one .undef), (.one .undef), (.one .undef), (.one .undef), (.one .undef), (.one .undef), (.one .undef), (.one .undef), (.one .undef), (.one .undef), (.one .undef), (.one .undef), (.one .undef), (.one .undef), (.one .undef), (.one .undef), (.one .undef), (.one .undef), (.one .undef), (.one .undef), (.one .undef), (.one .undef), (.one .undef), (.one .undef), (.one .undef), (.one .undef), (.one .undef), (.one .undef), (.one .undef), (.one .undef), (.one .undef), (.one .undef)], []⟩
noncomputable def outs2 : List OutC := [⟨.ret, ⟨0, [4], []⟩, ⟨[(.one .undef), (.one .undef), (.one .undef), (.one .undef), (.one (.dat (.int .i64))), (.one .undef), (.one .undef), (.one .undef), (.one .undef), (.one .undef), (.one .undef), (.one .undef), (.one .undef), (.one .undef), (.one .undef), (.one .undef), (.one .undef), (.one .undef), (.one .undef), (.one .undef), (.one .undef), (.one .undef), (.one .undef), (.one .undef), (.one .undef), (.one .undef), (.one .undef), (.one .undef), (.one .undef), (.one .undef), (.one .undef), (.one .undef), (.one .undef), (.one .undef), (.one .undef), (.one .undef), (.one .undef), (.one .undef), (.one .undef), (.one .undef), (.one .undef), (.one .undef), (.one .undef), (.one .undef), (.one .undef), (.one .undef), (.one .undef), (.one .undef), (.one .undef), (.one .undef), (.one .undef), (.one .undef), (.one .undef), (.one .undef), (.one .undef), (.one .undef), (.one .undef), (.one .undef), (.one .undef), (.one .undef), (.one .undef), (.one .undef), (.one .undef), (.one .undef), (.one .undef), (.one .undef), (.one .undef), (.one .undef), (.one .undef), (.one .undef), (.one .undef), (.one .undef), (.one .undef), (.one .undef), (.one .undef), (.one .undef), (.one .undef), (.one .undef), (.one .undef), (.one .undef), (.one .undef), (.one .undef), (.one .undef), (.one .undef), (.one .undef), (.one .undef), (.one .undef), (.one .undef), (.one .undef), (.one .undef), (.one .undef), (.one .undef), (.one .undef), (.one .undef), (.one .undef), (.one .undef), (.one .undef), (.one .undef), (.one .undef), (.one .undef), (.one .undef), (.one .undef), (.one .undef), (.one .undef)], []⟩⟩, ⟨(.exit 0), ⟨0, [1], []⟩, ⟨[(.one .undef), (.one (.dat (.int .i64))), (.one .undef), (.one .undef), (.one .undef), (.one .undef), (.one .undef), (.one .undef), (.one .undef), (.one .undef), (.one .undef), (.one .undef), (.one .undef), (.one .undef), (.one .undef), (.one .undef), (.one .undef), (.one .undef), (.one .undef), (.one .undef), (.one .undef), (.one .undef), (.one .undef), (.one .undef), (.one .undef), (.one .undef), (.one .undef), (.one .undef), (.one .undef), (.one .undef), (.one .undef), (.one .undef), (.one .undef), (.one .undef), (.one .undef), (.one .undef), (.one .undef), (.one .undef), (.one .undef), (.one .undef), (.one .undef), (.one .undef), (.one .undef), (.one .undef), (.one .undef), (.one .undef), (.one .undef), (.one .undef), (.one .undef), (.one .undef), (.one .undef), (.one .undef), (.one .undef), (.one .undef), (.one .undef), (.one .undef), (.one .undef), (.one .undef), (.one .undef), (.one .undef), (.one .undef), (.one .undef), (.one .undef), (.one .undef), (.one .undef), (.one .undef), (.one .undef), (.one .undef), (.one .undef), (.one .undef), (.one .undef), (.one .undef), (.one .undef), (.one .undef), (.one .undef), (.one .undef), (.one .undef), (.one .undef), (.one .undef), (.one .undef), (.one .undef), (.one .undef), (.one .undef), (.one .undef), (.one .undef), (.one .undef), (.one .undef), (.one .undef), (.one .undef), (.one .undef), (.one .undef), (.one .undef), (.one .undef), (.one .undef), (.one .undef), (.one .undef), (.one .undef), (.one .undef), (.one .undef), (.one .undef), (.one .undef), (.one .undef), (.one .undef), (.one .undef)], []⟩⟩]
noncomputable def L2 : LC := ⟨2, ⟨2, [0, 5, 1], []⟩, sh2, outs2, pre2, fn2⟩
noncomputable def H : List LC := [L2]
noncomputable def code (i : Nat) : Code := (loopsOf (bodyOf Try.f80)).getD i .skip
theorem step2 (x1 : (List Entry)) (x2 : Int) (x3 : Int) : L2.step E H (code 0) (x1, (x2, (x3, ()))) = raw2 x1 x2 x3 := by kernel_rfl
theorem lok2 : LoopOk E H (code 0) L2 := ⟨mu2, fun ⟨x1, x2, x3, ()⟩ hp => rounds_ok (step2 x1 x2 x3) (ok2 x1 x2 x3 hp)⟩
theorem run (x0 : (List Entry)) (x1 : Int) : runFn E H Try.f80 fs.ps fs.rs (x0, (x1, ())) = raw x0 x1 := by kernel_rfl
theorem env : EnvOk Try.prog E := env_cons laws_markText.known (env_nil tys)
theorem loops : ∀ c, Try.f80.body = some c → LoopsOk E H c := loops_of (by kernel_rfl) (by kernel_rfl) fun i l h => match i, h with
  | 0, h => Option.some.inj h ▸ lok2
  | n + 1, h => by cases h
theorem sound : Sound Try.prog 80 fs := fn_sound env mixed Try.func80 H loops fun ⟨x0, x1, ()⟩ hw hp => (run x0 x1).trans (eq x0 x1 hw hp)
theorem known : Seen Try.prog 80 fs := ⟨sound, _, Try.func80, by kernel_rfl, by kernel_rfl⟩
end laws_heldEntryS
namespace laws_heldLog
noncomputable def fs : FS := ⟨[(.val (.pair (.int .i64) (.pair (.int .i64) (.pair (.sl 112 (.pair (.int .i64) (.pair (.pair (.int .i64) (.pair (.int .i64) (.pair (.int .i64) (.pair (.int .i64) (.pair (.int .i64) (.pair (.int .i64) (.pair .str (.pair .str .unit)))))))) .unit))) .unit))) .f), (.val (.int .i64) .f)], [((.int .i64), .o)], fun x => laws_heldLog.pre x.1 x.2.1, fun x => ((), ((laws_heldLog x.1 x.2.1), ()))⟩
noncomputable def E : Env := ⟨theta, [(80, laws_heldEntryS.fs)], []⟩
noncomputable def H : List LC := []
noncomputable def code (i : Nat) : Code := (loopsOf (bodyOf Try.f37)).getD i .skip
theorem run (x0 : Log) (x1 : Int) : runFn E H Try.f37 fs.ps fs.rs (x0, (x1, ())) = raw x0 x1 := by kernel_rfl
theorem env : EnvOk Try.prog E := env_cons laws_heldEntryS.known (env_nil tys)
theorem loops : ∀ c, Try.f37.body = some c → LoopsOk E H c := loops_none (by kernel_rfl)
theorem sound : Sound Try.prog 37 fs := fn_sound env mixed Try.func37 H loops fun ⟨x0, x1, ()⟩ hw hp => (run x0 x1).trans (eq x0 x1 hw hp)
theorem known : Seen Try.prog 37 fs := ⟨sound, _, Try.func37, by kernel_rfl, by kernel_rfl⟩
end laws_heldLog
namespace spec_SetupOk
noncomputable def fs : FS := ⟨[(.val (.pair (.int .i64) (.pair (.int .i64) (.pair (.int .i64) (.pair (.int .i64) .unit)))) .f)], [(.bool, .o)], fun _ => true, fun x => ((), ((spec_SetupOk x.1), ()))⟩
noncomputable def E : Env := ⟨theta, [(69, spec_l1In.fs)], []⟩
noncomputable def H : List LC := []
noncomputable def code (i : Nat) : Code := (loopsOf (bodyOf Try.f99)).getD i .skip
theorem run (x0 : Setup) : runFn E H Try.f99 fs.ps fs.rs (x0, ()) = raw x0 := by kernel_rfl
theorem env : EnvOk Try.prog E := env_cons spec_l1In.known (env_nil tys)
theorem loops : ∀ c, Try.f99.body = some c → LoopsOk E H c := loops_none (by kernel_rfl)
theorem sound : Sound Try.prog 99 fs := fn_sound env mixed Try.func99 H loops fun ⟨x0, ()⟩ hw _ => (run x0).trans (eq x0 hw)
theorem known : Seen Try.prog 99 fs := ⟨sound, _, Try.func99, by kernel_rfl, by kernel_rfl⟩
end spec_SetupOk
namespace impl_SetupOk
noncomputable def fs : FS := ⟨[(.val (.pair (.int .i64) (.pair (.int .i64) (.pair (.int .i64) (.pair (.int .i64) .unit)))) .f)], [(.bool, .o)], fun _ => true, fun x => ((), ((impl_SetupOk x.1), ()))⟩
noncomputable def E : Env := ⟨theta, [(71, impl_within.fs)], []⟩
noncomputable def H : List LC := []
noncomputable def code (i : Nat) : Code := (loopsOf (bodyOf Try.f101)).getD i .skip
theorem run (x0 : Setup) : runFn E H Try.f101 fs.ps fs.rs (x0, ()) = raw x0 := by kernel_rfl
theorem env : EnvOk Try.prog E := env_cons impl_within.known (env_nil tys)
theorem loops : ∀ c, Try.f101.body = some c → LoopsOk E H c := loops_none (by kernel_rfl)
theorem sound : Sound Try.prog 101 fs := fn_sound env mixed Try.func101 H loops fun ⟨x0, ()⟩ hw _ => (run x0).trans (eq x0 hw)
theorem known : Seen Try.prog 101 fs := ⟨sound, _, Try.func101, by kernel_rfl, by kernel_rfl⟩
end impl_SetupOk
namespace laws_toSetup
noncomputable def fs : FS := ⟨[(.val (.pair (.int .i64) (.pair (.int .i64) (.pair (.int .i64) (.pair (.int .i64) .unit)))) .f)], [((.pair (.int .i64) (.pair (.int .i64) (.pair (.int .i64) (.pair (.int .i64) .unit)))), .o)], fun _ => true, fun x => ((), ((laws_toSetup x.1), ()))⟩
noncomputable def E : Env := ⟨theta, [], []⟩
noncomputable def H : List LC := []
noncomputable def code (i : Nat) : Code := (loopsOf (bodyOf Try.f60)).getD i .skip
theorem run (x0 : Setup) : runFn E H Try.f60 fs.ps fs.rs (x0, ()) = raw x0 := by kernel_rfl
theorem env : EnvOk Try.prog E := env_nil tys
theorem loops : ∀ c, Try.f60.body = some c → LoopsOk E H c := loops_none (by kernel_rfl)
theorem sound : Sound Try.prog 60 fs := fn_sound env mixed Try.func60 H loops fun ⟨x0, ()⟩ hw _ => (run x0).trans (eq x0 hw)
theorem known : Seen Try.prog 60 fs := ⟨sound, _, Try.func60, by kernel_rfl, by kernel_rfl⟩
end laws_toSetup
namespace spec_GroupNew
noncomputable def fs : FS := ⟨[(.val (.int .i64) .f)], [((.pair (.int .i64) (.pair (.sl 3 (.int .i64)) (.pair (.sl 3 (.int .i64)) (.pair (.sl 3 (.int .i64)) .unit)))), .o)], fun x => spec_GroupNew.pre x.1, fun x => ((), ((spec_GroupNew x.1), ()))⟩
noncomputable def E : Env := ⟨theta, [(69, spec_l1In.fs)], []⟩
noncomputable def H : List LC := []
noncomputable def code (i : Nat) : Code := (loopsOf (bodyOf Try.f129)).getD i .skip
theorem run (x0 : Int) : runFn E H Try.f129 fs.ps fs.rs (x0, ()) = raw x0 := by kernel_rfl
theorem env : EnvOk Try.prog E := env_cons spec_l1In.known (env_nil tys)
theorem loops : ∀ c, Try.f129.body = some c → LoopsOk E H c := loops_none (by kernel_rfl)
theorem sound : Sound Try.prog 129 fs := fn_sound env mixed Try.func129 H loops fun ⟨x0, ()⟩ hw hp => (run x0).trans (eq x0 hw hp)
theorem known : Seen Try.prog 129 fs := ⟨sound, _, Try.func129, by kernel_rfl, by kernel_rfl⟩
end spec_GroupNew
namespace impl_GroupNew
noncomputable def fs : FS := ⟨[(.val (.int .i64) .f)], [((.pair (.int .i64) (.pair (.sl 3 (.int .i64)) (.pair (.sl 3 (.int .i64)) (.pair (.sl 3 (.int .i64)) .unit)))), .o)], fun x => impl_GroupNew.pre x.1, fun x => ((), ((impl_GroupNew x.1), ()))⟩
noncomputable def E : Env := ⟨theta, [(71, impl_within.fs)], []⟩
noncomputable def H : List LC := []
noncomputable def code (i : Nat) : Code := (loopsOf (bodyOf Try.f130)).getD i .skip
theorem run (x0 : Int) : runFn E H Try.f130 fs.ps fs.rs (x0, ()) = raw x0 := by kernel_rfl
theorem env : EnvOk Try.prog E := env_cons impl_within.known (env_nil tys)
theorem loops : ∀ c, Try.f130.body = some c → LoopsOk E H c := loops_none (by kernel_rfl)
theorem sound : Sound Try.prog 130 fs := fn_sound env mixed Try.func130 H loops fun ⟨x0, ()⟩ hw hp => (run x0).trans (eq x0 hw hp)
theorem known : Seen Try.prog 130 fs := ⟨sound, _, Try.func130, by kernel_rfl, by kernel_rfl⟩
end impl_GroupNew
namespace spec_KeepNew
noncomputable def fs : FS := ⟨[(.val (.pair (.int .i64) (.pair (.int .i64) (.pair (.int .i64) (.pair (.int .i64) .unit)))) .f)], [((.pair (.sl 186 (.pair (.int .i64) (.pair (.int .i64) (.pair (.sl 228 (.pair (.int .i64) (.pair .str (.pair .str (.pair (.int .i64) (.pair (.int .i64) .unit)))))) .unit)))) (.pair (.sl 199 (.pair (.int .i64) (.pair (.int .i64) (.pair (.int .i64) (.pair (.int .i64) (.pair (.sl 236 (.pair (.int .i64) (.pair (.int .i64) .unit))) .unit)))))) (.pair (.sl 166 (.pair (.int .i64) (.pair (.sl 3 (.int .i64)) (.pair (.sl 3 (.int .i64)) (.pair (.sl 3 (.int .i64)) .unit))))) (.pair (.int .i64) (.pair (.sl 3 (.int .i64)) (.pair (.sl 190 (.pair (.int .i64) (.pair (.int .i64) (.pair .str (.pair .str .unit))))) .unit)))))), .o)], fun x => spec_KeepNew.pre x.1, fun x => ((), ((spec_KeepNew x.1), ()))⟩
noncomputable def E : Env := ⟨theta, [(99, spec_SetupOk.fs), (129, spec_GroupNew.fs)], []⟩
noncomputable def sh5 : ShSt := ⟨[(.one .undef), (.one (.bptr 0 [] (.pair (.int .i64) (.pair (.int .i64) (.pair (.int .i64) (.pair (.int .i64) .unit)))))), (.one (.bptr 32 [] (.pair (.sl 186 (.pair (.int .i64) (.pair (.int .i64) (.pair (.sl 228 (.pair (.int .i64) (.pair .str (.pair .str (.pair (.int .i64) (.pair (.int .i64) .unit)))))) .unit)))) (.pair (.sl 199 (.pair (.int .i64) (.pair (.int .i64) (.pair (.int .i64) (.pair (.int .i64) (.pair (.sl 236 (.pair (.int .i64) (.pair (.int .i64) .unit))) .unit)))))) (.pair (.sl 166 (.pair (.int .i64) (.pair (.sl 3 (.int .i64)) (.pair (.sl 3 (.int .i64)) (.pair (.sl 3 (.int .i64)) .unit))))) (.pair (.int .i64) (.pair (.sl 3 (.int .i64)) (.pair (.sl 190 (.pair (.int .i64) (.pair (.int .i64) (.pair .str (.pair .str .unit))))) .unit)))))))), (.one (.bptr 24768 [] (.pair (.sl 186 (.pair (.int .i64) (.pair (.int .i64) (.pair (.sl 228 (.pair (.int .i64) (.pair .str (.pair .str (.pair (.int .i64) (.pair (.int .i64) .unit)))))) .unit)))) (.pair (.sl 199 (.pair (.int .i64) (.pair (.int .i64) (.pair (.int .i64) (.pair (.int .i64) (.pair (.sl 236 (.pair (.int .i64) (.pair (.int .i64) .unit))) .unit)))))) (.pair (.sl 166 (.pair (.int .i64) (.pair (.sl 3 (.int .i64)) (.pair (.sl 3 (.int .i64)) (.pair (.sl 3 (.int .i64)) .unit))))) (.pair (.int .i64) (.pair (.sl 3 (.int .i64)) (.pair (.sl 190 (.pair (.int .i64) (.pair (.int .i64) (.pair .str (.pair .str .unit))))) .unit)))))))), (.one (.dat (.int .i64))), (.one .undef), (.one .undef), (.one .undef), (.one .undef), (.one .undef), (.one .undef), (.one .undef), (.one .undef), (.one .undef), (.one .undef), (.one .undef), (.one .undef), (.one .undef), (.one .undef), (.one .undef), (.one .undef), (.one .undef), (.one .undef), (.one .undef), (.one .undef), (.one .undef), (.one .undef), (.one .undef)], [(0, (.box (.pair (.int .i64) (.pair (.int .i64) (.pair (.int .i64) (.pair (.int .i64) .unit)))) (.dat (.pair (.int .i64) (.pair (.int .i64) (.pair (.int .i64) (.pair (.int .i64) .unit))))))), (32, (.box (.pair (.sl 186 (.pair (.int .i64) (.pair (.int .i64) (.pair (.sl 228 (.pair (.int .i64) (.pair .str (.pair .str (.pair (.int .i64) (.pair (.int .i64) .unit)))))) .unit)))) (.pair (.sl 199 (.pair (.int .i64) (.pair (.int .i64) (.pair (.int .i64) (.pair (.int .i64) (.pair (.sl 236 (.pair (.int .i64) (.pair (.int .i64) .unit))) .unit)))))) (.pair (.sl 166 (.pair (.int .i64) (.pair (.sl 3 (.int .i64)) (.pair (.sl 3 (.int .i64)) (.pair (.sl 3 (.int .i64)) .unit))))) (.pair (.int .i64) (.pair (.sl 3 (.int .i64)) (.pair (.sl 190 (.pair (.int .i64) (.pair (.int .i64) (.pair .str (.pair .str .unit))))) .unit)))))) (.pair (.arr 20000000) (.pair (.arr 20000001) (.pair (.arr 20000002) (.pair (.dat (.int .i64)) (.pair (.arr 20000003) (.pair (.arr 20000004) (.dat .unit))))))))), (20000000, (.arr 186 (.pair (.int .i64) (.pair (.int .i64) (.pair (.sl 228 (.pair (.int .i64) (.pair .str (.pair .str (.pair (.int .i64) (.pair (.int .i64) .unit)))))) .unit))))), (20000001, (.arr 199 (.pair (.int .i64) (.pair (.int .i64) (.pair (.int .i64) (.pair (.int .i64) (.pair (.sl 236 (.pair (.int .i64) (.pair (.int .i64) .unit))) .unit))))))), (20000002, (.arr 166 (.pair (.int .i64) (.pair (.sl 3 (.int .i64)) (.pair (.sl 3 (.int .i64)) (.pair (.sl 3 (.int .i64)) .unit)))))), (20000003, (.arr 3 (.int .i64))), (20000004, (.arr 190 (.pair (.int .i64) (.pair (.int .i64) (.pair .str (.pair .str .unit)))))), (24768, (.box (.pair (.sl 186 (.pair (.int .i64) (.pair (.int .i64) (.pair (.sl 228 (.pair (.int .i64) (.pair .str (.pair .str (.pair (.int .i64) (.pair (.int .i64) .unit)))))) .unit)))) (.pair (.sl 199 (.pair (.int .i64) (.pair (.int .i64) (.pair (.int .i64) (.pair (.int .i64) (.pair (.sl 236 (.pair (.int .i64) (.pair (.int .i64) .unit))) .unit)))))) (.pair (.sl 166 (.pair (.int .i64) (.pair (.sl 3 (.int .i64)) (.pair (.sl 3 (.int .i64)) (.pair (.sl 3 (.int .i64)) .unit))))) (.pair (.int .i64) (.pair (.sl 3 (.int .i64)) (.pair (.sl 190 (.pair (.int .i64) (.pair (.int .i64) (.pair .str (.pair .str .unit))))) .unit)))))) (.pair (.arr 20000005) (.pair (.arr 20000006) (.pair (.arr 20000007) (.pair (.dat (.int .i64)) (.pair (.arr 20000008) (.pair (.arr 20000009) (.dat .unit))))))))), (20000005, (.arr 186 (.pair (.int .i64) (.pair (.int .i64) (.pair (.sl 228 (.pair (.int .i64) (.pair .str (.pair .str (.pair (.int .i64) (.pair (.int .i64) .unit)))))) .unit))))), (20000006, (.arr 199 (.pair (.int .i64) (.pair (.int .i64) (.pair (.int .i64) (.pair (.int .i64) (.pair (.sl 236 (.pair (.int .i64) (.pair (.int .i64) .unit))) .unit))))))), (20000007, (.arr 166 (.pair (.int .i64) (.pair (.sl 3 (.int .i64)) (.pair (.sl 3 (.int .i64)) (.pair (.sl 3 (.int .i64)) .unit)))))), (20000008, (.arr 3 (.int .i64))), (20000009, (.arr 190 (.pair (.int .i64) (.pair (.int .i64) (.pair .str (.pair .str .unit))))))]⟩
noncomputable def outs5 : List OutC := [⟨(.exit 0), ⟨0, [2, 3], []⟩, ⟨[(.one .undef), (.one .undef), (.one (.bptr 32 [] (.pair (.sl 186 (.pair (.int .i64) (.pair (.int .i64) (.pair (.sl 228 (.pair (.int .i64) (.pair .str (.pair .str (.pair (.int .i64) (.pair (.int .i64) .unit)))))) .unit)))) (.pair (.sl 199 (.pair (.int .i64) (.pair (.int .i64) (.pair (.int .i64) (.pair (.int .i64) (.pair (.sl 236 (.pair (.int .i64) (.pair (.int .i64) .unit))) .unit)))))) (.pair (.sl 166 (.pair (.int .i64) (.pair (.sl 3 (.int .i64)) (.pair (.sl 3 (.int .i64)) (.pair (.sl 3 (.int .i64)) .unit))))) (.pair (.int .i64) (.pair (.sl 3 (.int .i64)) (.pair (.sl 190 (.pair (.int .i64) (.pair (.int .i64) (.pair .str (.pair .str .unit))))) .unit)))))))), (.one (.bptr 24768 [] (.pair (.sl 186 (.pair (.int .i64) (.pair (.int .i64) (.pair (.sl 228 (.pair (.int .i64) (.pair .str (.pair .str (.pair (.int .i64) (.pair (.int .i64) .unit)))))) .unit)))) (.pair (.sl 199 (.pair (.int .i64) (.pair (.int .i64) (.pair (.int .i64) (.pair (.int .i64) (.pair (.sl 236 (.pair (.int .i64) (.pair (.int .i64) .unit))) .unit)))))) (.pair (.sl 166 (.pair (.int .i64) (.pair (.sl 3 (.int .i64)) (.pair (.sl 3 (.int .i64)) (.pair (.sl 3 (.int .i64)) .unit))))) (.pair (.int .i64) (.pair (.sl 3 (.int .i64)) (.pair (.sl 190 (.pair (.int .i64) (.pair (.int .i64) (.pair .str (.pair .str .unit))))) .unit)))))))), (.one .undef), (.one .undef), (.one .undef), (.one .undef), (.one .undef), (.one .undef), (.one .undef), (.one .undef), (.one .undef), (.one .undef), (.one .undef), (.one .undef), (.one .undef), (.one .undef), (.one .undef), (.one .undef), (.one .undef), (.one .undef), (.one .undef), (.one .undef), (.one .undef), (.one .undef), (.one .undef), (.one .undef)], [(32, (.box (.pair (.sl 186 (.pair (.int .i64) (.pair (.int .i64) (.pair (.sl 228 (.pair (.int .i64) (.pair .str (.pair .str (.pair (.int .i64) (.pair (.int .i64) .unit)))))) .unit)))) (.pair (.sl 199 (.pair (.int .i64) (.pair (.int .i64) (.pair (.int .i64) (.pair (.int .i64) (.pair (.sl 236 (.pair (.int .i64) (.pair (.int .i64) .unit))) .unit)))))) (.pair (.sl 166 (.pair (.int .i64) (.pair (.sl 3 (.int .i64)) (.pair (.sl 3 (.int .i64)) (.pair (.sl 3 (.int .i64)) .unit))))) (.pair (.int .i64) (.pair (.sl 3 (.int .i64)) (.pair (.sl 190 (.pair (.int .i64) (.pair (.int .i64) (.pair .str (.pair .str .unit))))) .unit)))))) (.pair (.arr 20000000) (.pair (.arr 20000001) (.pair (.arr 20000002) (.pair (.dat (.int .i64)) (.pair (.arr 20000003) (.pair (.arr 20000004) (.dat .unit))))))))), (20000000, (.arr 186 (.pair (.int .i64) (.pair (.int .i64) (.pair (.sl 228 (.pair (.int .i64) (.pair .str (.pair .str (.pair (.int .i64) (.pair (.int .i64) .unit)))))) .unit))))), (20000001, (.arr 199 (.pair (.int .i64) (.pair (.int .i64) (.pair (.int .i64) (.pair (.int .i64) (.pair (.sl 236 (.pair (.int .i64) (.pair (.int .i64) .unit))) .unit))))))), (20000002, (.arr 166 (.pair (.int .i64) (.pair (.sl 3 (.int .i64)) (.pair (.sl 3 (.int .i64)) (.pair (.sl 3 (.int .i64)) .unit)))))), (20000003, (.arr 3 (.int .i64))), (20000004, (.arr 190 (.pair (.int .i64) (.pair (.int .i64) (.pair .str (.pair .str .unit)))))), (24768, (.box (.pair (.sl 186 (.pair (.int .i64) (.pair (.int .i64) (.pair (.sl 228 (.pair (.int .i64) (.pair .str (.pair .str (.pair (.int .i64) (.pair (.int .i64) .unit)))))) .unit)))) (.pair (.sl 199 (.pair (.int .i64) (.pair (.int .i64) (.pair (.int .i64) (.pair (.int .i64) (.pair (.sl 236 (.pair (.int .i64) (.pair (.int .i64) .unit))) .unit)))))) (.pair (.sl 166 (.pair (.int .i64) (.pair (.sl 3 (.int .i64)) (.pair (.sl 3 (.int .i64)) (.pair (.sl 3 (.int .i64)) .unit))))) (.pair (.int .i64) (.pair (.sl 3 (.int .i64)) (.pair (.sl 190 (.pair (.int .i64) (.pair (.int .i64) (.pair .str (.pair .str .unit))))) .unit)))))) (.pair (.arr 20000005) (.pair (.arr 20000006) (.pair (.arr 20000007) (.pair (.dat (.int .i64)) (.pair (.arr 20000008) (.pair (.arr 20000009) (.dat .unit))))))))), (20000005, (.arr 186 (.pair (.int .i64) (.pair (.int .i64) (.pair (.sl 228 (.pair (.int .i64) (.pair .str (.pair .str (.pair (.int .i64) (.pair (.int .i64) .unit)))))) .unit))))), (20000006, (.arr 199 (.pair (.int .i64) (.pair (.int .i64) (.pair (.int .i64) (.pair (.int .i64) (.pair (.sl 236 (.pair (.int .i64) (.pair (.int .i64) .unit))) .unit))))))), (20000007, (.arr 166 (.pair (.int .i64) (.pair (.sl 3 (.int .i64)) (.pair (.sl 3 (.int .i64)) (.pair (.sl 3 (.int .i64)) .unit)))))), (20000008, (.arr 3 (.int .i64))), (20000009, (.arr 190 (.pair (.int .i64) (.pair (.int .i64) (.pair .str (.pair .str .unit))))))]⟩⟩]
noncomputable def L5 : LC := ⟨5, ⟨5, [3, 1, 2, 4], []⟩, sh5, outs5, pre5, fn5⟩
noncomputable def H : List LC := [L5]
noncomputable def code (i : Nat) : Code := (loopsOf (bodyOf Try.f100)).getD i .skip
theorem step5 (x1 : Int) (x2 : Setup) (x3 : Int) (x4 : Unit) (x5 : (List Row)) (x6 : (List Maker)) (x7 : (List Group)) (x8 : (List Int)) (x9 : (List Answer)) (x10 : Int) (x11 : Unit) (x12 : (List Row)) (x13 : (List Maker)) (x14 : (List Group)) (x15 : (List Int)) (x16 : (List Answer)) : L5.step E H (code 0) (x1, (x2, (x3, (x4, (x5, (x6, (x7, (x8, (x9, (x10, (x11, (x12, (x13, (x14, (x15, (x16, ())))))))))))))))) = raw5 x1 x2 x3 x4 x5 x6 x7 x8 x9 x10 x11 x12 x13 x14 x15 x16 := by kernel_rfl
theorem lok5 : LoopOk E H (code 0) L5 := ⟨mu5, fun ⟨x1, x2, x3, x4, x5, x6, x7, x8, x9, x10, x11, x12, x13, x14, x15, x16, ()⟩ hp => rounds_ok (step5 x1 x2 x3 x4 x5 x6 x7 x8 x9 x10 x11 x12 x13 x14 x15 x16) (ok5 x1 x2 x3 x4 x5 x6 x7 x8 x9 x10 x11 x12 x13 x14 x15 x16 hp)⟩
theorem run (x0 : Setup) : runFn E H Try.f100 fs.ps fs.rs (x0, ()) = raw x0 := by kernel_rfl
theorem env : EnvOk Try.prog E := env_cons spec_SetupOk.known (env_cons spec_GroupNew.known (env_nil tys))
theorem loops : ∀ c, Try.f100.body = some c → LoopsOk E H c := loops_of (by kernel_rfl) (by kernel_rfl) fun i l h => match i, h with
  | 0, h => Option.some.inj h ▸ lok5
  | n + 1, h => by cases h
theorem sound : Sound Try.prog 100 fs := fn_sound env mixed Try.func100 H loops fun ⟨x0, ()⟩ hw hp => (run x0).trans (eq x0 hw hp)
theorem known : Seen Try.prog 100 fs := ⟨sound, _, Try.func100, by kernel_rfl, by kernel_rfl⟩
end spec_KeepNew
namespace impl_KeepNew
noncomputable def fs : FS := ⟨[(.val (.pair (.int .i64) (.pair (.int .i64) (.pair (.int .i64) (.pair (.int .i64) .unit)))) .f)], [((.pair (.sl 186 (.pair (.int .i64) (.pair (.int .i64) (.pair (.sl 228 (.pair (.int .i64) (.pair .str (.pair .str (.pair (.int .i64) (.pair (.int .i64) .unit)))))) .unit)))) (.pair (.sl 199 (.pair (.int .i64) (.pair (.int .i64) (.pair (.int .i64) (.pair (.int .i64) (.pair (.sl 236 (.pair (.int .i64) (.pair (.int .i64) .unit))) .unit)))))) (.pair (.sl 166 (.pair (.int .i64) (.pair (.sl 3 (.int .i64)) (.pair (.sl 3 (.int .i64)) (.pair (.sl 3 (.int .i64)) .unit))))) (.pair (.int .i64) (.pair (.sl 3 (.int .i64)) (.pair (.sl 190 (.pair (.int .i64) (.pair (.int .i64) (.pair .str (.pair .str .unit))))) .unit)))))), .o)], fun x => impl_KeepNew.pre x.1, fun x => ((), ((impl_KeepNew x.1), ()))⟩
noncomputable def E : Env := ⟨theta, [(101, impl_SetupOk.fs), (130, impl_GroupNew.fs)], []⟩
noncomputable def sh5 : ShSt := ⟨[(.one .undef), (.one (.bptr 0 [] (.pair (.int .i64) (.pair (.int .i64) (.pair (.int .i64) (.pair (.int .i64) .unit)))))), (.one (.bptr 32 [] (.pair (.sl 186 (.pair (.int .i64) (.pair (.int .i64) (.pair (.sl 228 (.pair (.int .i64) (.pair .str (.pair .str (.pair (.int .i64) (.pair (.int .i64) .unit)))))) .unit)))) (.pair (.sl 199 (.pair (.int .i64) (.pair (.int .i64) (.pair (.int .i64) (.pair (.int .i64) (.pair (.sl 236 (.pair (.int .i64) (.pair (.int .i64) .unit))) .unit)))))) (.pair (.sl 166 (.pair (.int .i64) (.pair (.sl 3 (.int .i64)) (.pair (.sl 3 (.int .i64)) (.pair (.sl 3 (.int .i64)) .unit))))) (.pair (.int .i64) (.pair (.sl 3 (.int .i64)) (.pair (.sl 190 (.pair (.int .i64) (.pair (.int .i64) (.pair .str (.pair .str .unit))))) .unit)))))))), (.one (.bptr 24768 [] (.pair (.sl 186 (.pair (.int .i64) (.pair (.int .i64) (.pair (.sl 228 (.pair (.int .i64) (.pair .str (.pair .str (.pair (.int .i64) (.pair (.int .i64) .unit)))))) .unit)))) (.pair (.sl 199 (.pair (.int .i64) (.pair (.int .i64) (.pair (.int .i64) (.pair (.int .i64) (.pair (.sl 236 (.pair (.int .i64) (.pair (.int .i64) .unit))) .unit)))))) (.pair (.sl 166 (.pair (.int .i64) (.pair (.sl 3 (.int .i64)) (.pair (.sl 3 (.int .i64)) (.pair (.sl 3 (.int .i64)) .unit))))) (.pair (.int .i64) (.pair (.sl 3 (.int .i64)) (.pair (.sl 190 (.pair (.int .i64) (.pair (.int .i64) (.pair .str (.pair .str .unit))))) .unit)))))))), (.one (.dat (.int .i64))), (.one .undef), (.one .undef), (.one .undef), (.one .undef), (.one .undef), (.one .undef), (.one .undef), (.one .undef), (.one .undef), (.one .undef), (.one .undef), (.one .undef), (.one .undef), (.one .undef), (.one .undef), (.one .undef), (.one .undef), (.one .undef), (.one .undef), (.one .undef), (.one .undef), (.one .undef), (.one .undef)], [(0, (.box (.pair (.int .i64) (.pair (.int .i64) (.pair (.int .i64) (.pair (.int .i64) .unit)))) (.dat (.pair (.int .i64) (.pair (.int .i64) (.pair (.int .i64) (.pair (.int .i64) .unit))))))), (32, (.box (.pair (.sl 186 (.pair (.int .i64) (.pair (.int .i64) (.pair (.sl 228 (.pair (.int .i64) (.pair .str (.pair .str (.pair (.int .i64) (.pair (.int .i64) .unit)))))) .unit)))) (.pair (.sl 199 (.pair (.int .i64) (.pair (.int .i64) (.pair (.int .i64) (.pair (.int .i64) (.pair (.sl 236 (.pair (.int .i64) (.pair (.int .i64) .unit))) .unit)))))) (.pair (.sl 166 (.pair (.int .i64) (.pair (.sl 3 (.int .i64)) (.pair (.sl 3 (.int .i64)) (.pair (.sl 3 (.int .i64)) .unit))))) (.pair (.int .i64) (.pair (.sl 3 (.int .i64)) (.pair (.sl 190 (.pair (.int .i64) (.pair (.int .i64) (.pair .str (.pair .str .unit))))) .unit)))))) (.pair (.arr 20000000) (.pair (.arr 20000001) (.pair (.arr 20000002) (.pair (.dat (.int .i64)) (.pair (.arr 20000003) (.pair (.arr 20000004) (.dat .unit))))))))), (20000000, (.arr 186 (.pair (.int .i64) (.pair (.int .i64) (.pair (.sl 228 (.pair (.int .i64) (.pair .str (.pair .str (.pair (.int .i64) (.pair (.int .i64) .unit)))))) .unit))))), (20000001, (.arr 199 (.pair (.int .i64) (.pair (.int .i64) (.pair (.int .i64) (.pair (.int .i64) (.pair (.sl 236 (.pair (.int .i64) (.pair (.int .i64) .unit))) .unit))))))), (20000002, (.arr 166 (.pair (.int .i64) (.pair (.sl 3 (.int .i64)) (.pair (.sl 3 (.int .i64)) (.pair (.sl 3 (.int .i64)) .unit)))))), (20000003, (.arr 3 (.int .i64))), (20000004, (.arr 190 (.pair (.int .i64) (.pair (.int .i64) (.pair .str (.pair .str .unit)))))), (24768, (.box (.pair (.sl 186 (.pair (.int .i64) (.pair (.int .i64) (.pair (.sl 228 (.pair (.int .i64) (.pair .str (.pair .str (.pair (.int .i64) (.pair (.int .i64) .unit)))))) .unit)))) (.pair (.sl 199 (.pair (.int .i64) (.pair (.int .i64) (.pair (.int .i64) (.pair (.int .i64) (.pair (.sl 236 (.pair (.int .i64) (.pair (.int .i64) .unit))) .unit)))))) (.pair (.sl 166 (.pair (.int .i64) (.pair (.sl 3 (.int .i64)) (.pair (.sl 3 (.int .i64)) (.pair (.sl 3 (.int .i64)) .unit))))) (.pair (.int .i64) (.pair (.sl 3 (.int .i64)) (.pair (.sl 190 (.pair (.int .i64) (.pair (.int .i64) (.pair .str (.pair .str .unit))))) .unit)))))) (.pair (.arr 20000005) (.pair (.arr 20000006) (.pair (.arr 20000007) (.pair (.dat (.int .i64)) (.pair (.arr 20000008) (.pair (.arr 20000009) (.dat .unit))))))))), (20000005, (.arr 186 (.pair (.int .i64) (.pair (.int .i64) (.pair (.sl 228 (.pair (.int .i64) (.pair .str (.pair .str (.pair (.int .i64) (.pair (.int .i64) .unit)))))) .unit))))), (20000006, (.arr 199 (.pair (.int .i64) (.pair (.int .i64) (.pair (.int .i64) (.pair (.int .i64) (.pair (.sl 236 (.pair (.int .i64) (.pair (.int .i64) .unit))) .unit))))))), (20000007, (.arr 166 (.pair (.int .i64) (.pair (.sl 3 (.int .i64)) (.pair (.sl 3 (.int .i64)) (.pair (.sl 3 (.int .i64)) .unit)))))), (20000008, (.arr 3 (.int .i64))), (20000009, (.arr 190 (.pair (.int .i64) (.pair (.int .i64) (.pair .str (.pair .str .unit))))))]⟩
noncomputable def outs5 : List OutC := [⟨(.exit 0), ⟨0, [2, 3], []⟩, ⟨[(.one .undef), (.one .undef), (.one (.bptr 32 [] (.pair (.sl 186 (.pair (.int .i64) (.pair (.int .i64) (.pair (.sl 228 (.pair (.int .i64) (.pair .str (.pair .str (.pair (.int .i64) (.pair (.int .i64) .unit)))))) .unit)))) (.pair (.sl 199 (.pair (.int .i64) (.pair (.int .i64) (.pair (.int .i64) (.pair (.int .i64) (.pair (.sl 236 (.pair (.int .i64) (.pair (.int .i64) .unit))) .unit)))))) (.pair (.sl 166 (.pair (.int .i64) (.pair (.sl 3 (.int .i64)) (.pair (.sl 3 (.int .i64)) (.pair (.sl 3 (.int .i64)) .unit))))) (.pair (.int .i64) (.pair (.sl 3 (.int .i64)) (.pair (.sl 190 (.pair (.int .i64) (.pair (.int .i64) (.pair .str (.pair .str .unit))))) .unit)))))))), (.one (.bptr 24768 [] (.pair (.sl 186 (.pair (.int .i64) (.pair (.int .i64) (.pair (.sl 228 (.pair (.int .i64) (.pair .str (.pair .str (.pair (.int .i64) (.pair (.int .i64) .unit)))))) .unit)))) (.pair (.sl 199 (.pair (.int .i64) (.pair (.int .i64) (.pair (.int .i64) (.pair (.int .i64) (.pair (.sl 236 (.pair (.int .i64) (.pair (.int .i64) .unit))) .unit)))))) (.pair (.sl 166 (.pair (.int .i64) (.pair (.sl 3 (.int .i64)) (.pair (.sl 3 (.int .i64)) (.pair (.sl 3 (.int .i64)) .unit))))) (.pair (.int .i64) (.pair (.sl 3 (.int .i64)) (.pair (.sl 190 (.pair (.int .i64) (.pair (.int .i64) (.pair .str (.pair .str .unit))))) .unit)))))))), (.one .undef), (.one .undef), (.one .undef), (.one .undef), (.one .undef), (.one .undef), (.one .undef), (.one .undef), (.one .undef), (.one .undef), (.one .undef), (.one .undef), (.one .undef), (.one .undef), (.one .undef), (.one .undef), (.one .undef), (.one .undef), (.one .undef), (.one .undef), (.one .undef), (.one .undef), (.one .undef), (.one .undef)], [(32, (.box (.pair (.sl 186 (.pair (.int .i64) (.pair (.int .i64) (.pair (.sl 228 (.pair (.int .i64) (.pair .str (.pair .str (.pair (.int .i64) (.pair (.int .i64) .unit)))))) .unit)))) (.pair (.sl 199 (.pair (.int .i64) (.pair (.int .i64) (.pair (.int .i64) (.pair (.int .i64) (.pair (.sl 236 (.pair (.int .i64) (.pair (.int .i64) .unit))) .unit)))))) (.pair (.sl 166 (.pair (.int .i64) (.pair (.sl 3 (.int .i64)) (.pair (.sl 3 (.int .i64)) (.pair (.sl 3 (.int .i64)) .unit))))) (.pair (.int .i64) (.pair (.sl 3 (.int .i64)) (.pair (.sl 190 (.pair (.int .i64) (.pair (.int .i64) (.pair .str (.pair .str .unit))))) .unit)))))) (.pair (.arr 20000000) (.pair (.arr 20000001) (.pair (.arr 20000002) (.pair (.dat (.int .i64)) (.pair (.arr 20000003) (.pair (.arr 20000004) (.dat .unit))))))))), (20000000, (.arr 186 (.pair (.int .i64) (.pair (.int .i64) (.pair (.sl 228 (.pair (.int .i64) (.pair .str (.pair .str (.pair (.int .i64) (.pair (.int .i64) .unit)))))) .unit))))), (20000001, (.arr 199 (.pair (.int .i64) (.pair (.int .i64) (.pair (.int .i64) (.pair (.int .i64) (.pair (.sl 236 (.pair (.int .i64) (.pair (.int .i64) .unit))) .unit))))))), (20000002, (.arr 166 (.pair (.int .i64) (.pair (.sl 3 (.int .i64)) (.pair (.sl 3 (.int .i64)) (.pair (.sl 3 (.int .i64)) .unit)))))), (20000003, (.arr 3 (.int .i64))), (20000004, (.arr 190 (.pair (.int .i64) (.pair (.int .i64) (.pair .str (.pair .str .unit)))))), (24768, (.box (.pair (.sl 186 (.pair (.int .i64) (.pair (.int .i64) (.pair (.sl 228 (.pair (.int .i64) (.pair .str (.pair .str (.pair (.int .i64) (.pair (.int .i64) .unit)))))) .unit)))) (.pair (.sl 199 (.pair (.int .i64) (.pair (.int .i64) (.pair (.int .i64) (.pair (.int .i64) (.pair (.sl 236 (.pair (.int .i64) (.pair (.int .i64) .unit))) .unit)))))) (.pair (.sl 166 (.pair (.int .i64) (.pair (.sl 3 (.int .i64)) (.pair (.sl 3 (.int .i64)) (.pair (.sl 3 (.int .i64)) .unit))))) (.pair (.int .i64) (.pair (.sl 3 (.int .i64)) (.pair (.sl 190 (.pair (.int .i64) (.pair (.int .i64) (.pair .str (.pair .str .unit))))) .unit)))))) (.pair (.arr 20000005) (.pair (.arr 20000006) (.pair (.arr 20000007) (.pair (.dat (.int .i64)) (.pair (.arr 20000008) (.pair (.arr 20000009) (.dat .unit))))))))), (20000005, (.arr 186 (.pair (.int .i64) (.pair (.int .i64) (.pair (.sl 228 (.pair (.int .i64) (.pair .str (.pair .str (.pair (.int .i64) (.pair (.int .i64) .unit)))))) .unit))))), (20000006, (.arr 199 (.pair (.int .i64) (.pair (.int .i64) (.pair (.int .i64) (.pair (.int .i64) (.pair (.sl 236 (.pair (.int .i64) (.pair (.int .i64) .unit))) .unit))))))), (20000007, (.arr 166 (.pair (.int .i64) (.pair (.sl 3 (.int .i64)) (.pair (.sl 3 (.int .i64)) (.pair (.sl 3 (.int .i64)) .unit)))))), (20000008, (.arr 3 (.int .i64))), (20000009, (.arr 190 (.pair (.int .i64) (.pair (.int .i64) (.pair .str (.pair .str .unit))))))]⟩⟩]
noncomputable def L5 : LC := ⟨5, ⟨5, [3, 1, 2, 4], []⟩, sh5, outs5, pre5, fn5⟩
noncomputable def H : List LC := [L5]
noncomputable def code (i : Nat) : Code := (loopsOf (bodyOf Try.f102)).getD i .skip
theorem step5 (x1 : Int) (x2 : Setup) (x3 : Int) (x4 : Unit) (x5 : (List Row)) (x6 : (List Maker)) (x7 : (List Group)) (x8 : (List Int)) (x9 : (List Answer)) (x10 : Int) (x11 : Unit) (x12 : (List Row)) (x13 : (List Maker)) (x14 : (List Group)) (x15 : (List Int)) (x16 : (List Answer)) : L5.step E H (code 0) (x1, (x2, (x3, (x4, (x5, (x6, (x7, (x8, (x9, (x10, (x11, (x12, (x13, (x14, (x15, (x16, ())))))))))))))))) = raw5 x1 x2 x3 x4 x5 x6 x7 x8 x9 x10 x11 x12 x13 x14 x15 x16 := by kernel_rfl
theorem lok5 : LoopOk E H (code 0) L5 := ⟨mu5, fun ⟨x1, x2, x3, x4, x5, x6, x7, x8, x9, x10, x11, x12, x13, x14, x15, x16, ()⟩ hp => rounds_ok (step5 x1 x2 x3 x4 x5 x6 x7 x8 x9 x10 x11 x12 x13 x14 x15 x16) (ok5 x1 x2 x3 x4 x5 x6 x7 x8 x9 x10 x11 x12 x13 x14 x15 x16 hp)⟩
theorem run (x0 : Setup) : runFn E H Try.f102 fs.ps fs.rs (x0, ()) = raw x0 := by kernel_rfl
theorem env : EnvOk Try.prog E := env_cons impl_SetupOk.known (env_cons impl_GroupNew.known (env_nil tys))
theorem loops : ∀ c, Try.f102.body = some c → LoopsOk E H c := loops_of (by kernel_rfl) (by kernel_rfl) fun i l h => match i, h with
  | 0, h => Option.some.inj h ▸ lok5
  | n + 1, h => by cases h
theorem sound : Sound Try.prog 102 fs := fn_sound env mixed Try.func102 H loops fun ⟨x0, ()⟩ hw hp => (run x0).trans (eq x0 hw hp)
theorem known : Seen Try.prog 102 fs := ⟨sound, _, Try.func102, by kernel_rfl, by kernel_rfl⟩
end impl_KeepNew
namespace spec_HardNew
noncomputable def fs : FS := ⟨[(.val (.pair (.int .i64) (.pair (.int .i64) (.pair (.int .i64) (.pair (.int .i64) .unit)))) .f)], [((.pair (.int .i64) (.pair (.int .i64) (.pair (.pair (.int .i64) (.pair (.int .i64) (.pair (.sl 112 (.pair (.int .i64) (.pair (.pair (.int .i64) (.pair (.int .i64) (.pair (.int .i64) (.pair (.int .i64) (.pair (.int .i64) (.pair (.int .i64) (.pair .str (.pair .str .unit)))))))) .unit))) .unit))) (.pair (.pair (.sl 186 (.pair (.int .i64) (.pair (.int .i64) (.pair (.sl 228 (.pair (.int .i64) (.pair .str (.pair .str (.pair (.int .i64) (.pair (.int .i64) .unit)))))) .unit)))) (.pair (.sl 199 (.pair (.int .i64) (.pair (.int .i64) (.pair (.int .i64) (.pair (.int .i64) (.pair (.sl 236 (.pair (.int .i64) (.pair (.int .i64) .unit))) .unit)))))) (.pair (.sl 166 (.pair (.int .i64) (.pair (.sl 3 (.int .i64)) (.pair (.sl 3 (.int .i64)) (.pair (.sl 3 (.int .i64)) .unit))))) (.pair (.int .i64) (.pair (.sl 3 (.int .i64)) (.pair (.sl 190 (.pair (.int .i64) (.pair (.int .i64) (.pair .str (.pair .str .unit))))) .unit)))))) .unit)))), .o)], fun x => spec_HardNew.pre x.1, fun x => ((), ((spec_HardNew x.1), ()))⟩
noncomputable def E : Env := ⟨theta, [(99, spec_SetupOk.fs), (100, spec_KeepNew.fs)], []⟩
noncomputable def H : List LC := []
noncomputable def code (i : Nat) : Code := (loopsOf (bodyOf Try.f59)).getD i .skip
theorem run (x0 : Setup) : runFn E H Try.f59 fs.ps fs.rs (x0, ()) = raw x0 := by kernel_rfl
theorem env : EnvOk Try.prog E := env_cons spec_SetupOk.known (env_cons spec_KeepNew.known (env_nil tys))
theorem loops : ∀ c, Try.f59.body = some c → LoopsOk E H c := loops_none (by kernel_rfl)
theorem sound : Sound Try.prog 59 fs := fn_sound env mixed Try.func59 H loops fun ⟨x0, ()⟩ hw hp => (run x0).trans (eq x0 hw hp)
theorem known : Seen Try.prog 59 fs := ⟨sound, _, Try.func59, by kernel_rfl, by kernel_rfl⟩
end spec_HardNew
namespace impl_HardNew
noncomputable def fs : FS := ⟨[(.val (.pair (.int .i64) (.pair (.int .i64) (.pair (.int .i64) (.pair (.int .i64) .unit)))) .f)], [((.pair (.int .i64) (.pair (.int .i64) (.pair (.pair (.int .i64) (.pair (.int .i64) (.pair (.sl 112 (.pair (.int .i64) (.pair (.pair (.int .i64) (.pair (.int .i64) (.pair (.int .i64) (.pair (.int .i64) (.pair (.int .i64) (.pair (.int .i64) (.pair .str (.pair .str .unit)))))))) .unit))) .unit))) (.pair (.pair (.sl 186 (.pair (.int .i64) (.pair (.int .i64) (.pair (.sl 228 (.pair (.int .i64) (.pair .str (.pair .str (.pair (.int .i64) (.pair (.int .i64) .unit)))))) .unit)))) (.pair (.sl 199 (.pair (.int .i64) (.pair (.int .i64) (.pair (.int .i64) (.pair (.int .i64) (.pair (.sl 236 (.pair (.int .i64) (.pair (.int .i64) .unit))) .unit)))))) (.pair (.sl 166 (.pair (.int .i64) (.pair (.sl 3 (.int .i64)) (.pair (.sl 3 (.int .i64)) (.pair (.sl 3 (.int .i64)) .unit))))) (.pair (.int .i64) (.pair (.sl 3 (.int .i64)) (.pair (.sl 190 (.pair (.int .i64) (.pair (.int .i64) (.pair .str (.pair .str .unit))))) .unit)))))) .unit)))), .o)], fun x => impl_HardNew.pre x.1, fun x => ((), ((impl_HardNew x.1), ()))⟩
noncomputable def E : Env := ⟨theta, [(101, impl_SetupOk.fs), (102, impl_KeepNew.fs)], []⟩
noncomputable def H : List LC := []
noncomputable def code (i : Nat) : Code := (loopsOf (bodyOf Try.f61)).getD i .skip
theorem run (x0 : Setup) : runFn E H Try.f61 fs.ps fs.rs (x0, ()) = raw x0 := by kernel_rfl
theorem env : EnvOk Try.prog E := env_cons impl_SetupOk.known (env_cons impl_KeepNew.known (env_nil tys))
theorem loops : ∀ c, Try.f61.body = some c → LoopsOk E H c := loops_none (by kernel_rfl)
theorem sound : Sound Try.prog 61 fs := fn_sound env mixed Try.func61 H loops fun ⟨x0, ()⟩ hw hp => (run x0).trans (eq x0 hw hp)
theorem known : Seen Try.prog 61 fs := ⟨sound, _, Try.func61, by kernel_rfl, by kernel_rfl⟩
end impl_HardNew
namespace laws_eqItem
noncomputable def fs : FS := ⟨[(.val (.pair (.int .i64) (.pair .str (.pair .str (.pair (.int .i64) (.pair (.int .i64) .unit))))) .f), (.val (.pair (.int .i64) (.pair .str (.pair .str (.pair (.int .i64) (.pair (.int .i64) .unit))))) .f)], [(.bool, .o)], fun _ => true, fun x => ((), ((laws_eqItem x.1 x.2.1), ()))⟩
noncomputable def E : Env := ⟨theta, [], []⟩
noncomputable def H : List LC := []
noncomputable def code (i : Nat) : Code := (loopsOf (bodyOf Try.f205)).getD i .skip
theorem run (x0 : Item) (x1 : Item) : runFn E H Try.f205 fs.ps fs.rs (x0, (x1, ())) = raw x0 x1 := by kernel_rfl
theorem env : EnvOk Try.prog E := env_nil tys
theorem loops : ∀ c, Try.f205.body = some c → LoopsOk E H c := loops_none (by kernel_rfl)
theorem sound : Sound Try.prog 205 fs := fn_sound env mixed Try.func205 H loops fun ⟨x0, x1, ()⟩ hw _ => (run x0 x1).trans (eq x0 x1 hw)
theorem known : Seen Try.prog 205 fs := ⟨sound, _, Try.func205, by kernel_rfl, by kernel_rfl⟩
end laws_eqItem
namespace laws_eqMark
noncomputable def fs : FS := ⟨[(.val (.pair (.int .i64) (.pair (.int .i64) .unit)) .f), (.val (.pair (.int .i64) (.pair (.int .i64) .unit)) .f)], [(.bool, .o)], fun _ => true, fun x => ((), ((laws_eqMark x.1 x.2.1), ()))⟩
noncomputable def E : Env := ⟨theta, [], []⟩
noncomputable def H : List LC := []
noncomputable def code (i : Nat) : Code := (loopsOf (bodyOf Try.f206)).getD i .skip
theorem run (x0 : Mark) (x1 : Mark) : runFn E H Try.f206 fs.ps fs.rs (x0, (x1, ())) = raw x0 x1 := by kernel_rfl
theorem env : EnvOk Try.prog E := env_nil tys
theorem loops : ∀ c, Try.f206.body = some c → LoopsOk E H c := loops_none (by kernel_rfl)
theorem sound : Sound Try.prog 206 fs := fn_sound env mixed Try.func206 H loops fun ⟨x0, x1, ()⟩ hw _ => (run x0 x1).trans (eq x0 x1 hw)
theorem known : Seen Try.prog 206 fs := ⟨sound, _, Try.func206, by kernel_rfl, by kernel_rfl⟩
end laws_eqMark
namespace laws_eqAnswer
noncomputable def fs : FS := ⟨[(.val (.pair (.int .i64) (.pair (.int .i64) (.pair .str (.pair .str .unit)))) .f), (.val (.pair (.int .i64) (.pair (.int .i64) (.pair .str (.pair .str .unit)))) .f)], [(.bool, .o)], fun _ => true, fun x => ((), ((laws_eqAnswer x.1 x.2.1), ()))⟩
noncomputable def E : Env := ⟨theta, [], []⟩
noncomputable def H : List LC := []
noncomputable def code (i : Nat) : Code := (loopsOf (bodyOf Try.f177)).getD i .skip
theorem run (x0 : Answer) (x1 : Answer) : runFn E H Try.f177 fs.ps fs.rs (x0, (x1, ())) = raw x0 x1 := by kernel_rfl
theorem env : EnvOk Try.prog E := env_nil tys
theorem loops : ∀ c, Try.f177.body = some c → LoopsOk E H c := loops_none (by kernel_rfl)
theorem sound : Sound Try.prog 177 fs := fn_sound env mixed Try.func177 H loops fun ⟨x0, x1, ()⟩ hw _ => (run x0 x1).trans (eq x0 x1 hw)
theorem known : Seen Try.prog 177 fs := ⟨sound, _, Try.func177, by kernel_rfl, by kernel_rfl⟩
end laws_eqAnswer
namespace laws_eqItemS
noncomputable def fs : FS := ⟨[(.val (.sl 228 (.pair (.int .i64) (.pair .str (.pair .str (.pair (.int .i64) (.pair (.int .i64) .unit)))))) .f), (.val (.sl 228 (.pair (.int .i64) (.pair .str (.pair .str (.pair (.int .i64) (.pair (.int .i64) .unit)))))) .f)], [(.bool, .o)], fun _ => true, fun x => ((), ((laws_eqItemS x.1 x.2.1), ()))⟩
noncomputable def E : Env := ⟨theta, [(205, laws_eqItem.fs)], []⟩
noncomputable def sh4 : ShSt := ⟨[(.one (.dat (.sl 228 (.pair (.int .i64) (.pair .str (.pair .str (.pair (.int .i64) (.pair (.int .i64) .unit)))))))), (.one (.dat (.sl 228 (.pair (.int .i64) (.pair .str (.pair .str (.pair (.int .i64) (.pair (.int .i64) .unit)))))))), (.one .undef), (.one .undef), (.one .undef), (.one (.dat (.int .i64))), (.one .undef), (.one .undef), (.one .undef), (.one .undef), (.one .undef), (.one .undef), (.one .undef), (.one .undef), (.one .undef), (.one .undef), (.one .undef), (.one .undef), (.one .undef), (.one .undef), (.one .undef), (.one .undef), (.one .undef), (.one .undef), (.one .undef), (.one .undef), (.one .undef)], []⟩
noncomputable def outs4 : List OutC := [⟨.ret, ⟨0, [4], []⟩, ⟨[(.one .undef), (.one .undef), (.one .undef), (.one .undef), (.one (.dat .bool)), (.one .undef), (.one .undef), (.one .undef), (.one .undef), (.one .undef), (.one .undef), (.one .undef), (.one .undef), (.one .undef), (.one .undef), (.one .undef), (.one .undef), (.one .undef), (.one .undef), (.one .undef), (.one .undef), (.one .undef), (.one .undef), (.one .undef), (.one .undef), (.one .undef), (.one .undef)], []⟩⟩, ⟨(.exit 0), ⟨0, [], []⟩, ⟨[(.one .undef), (.one .undef), (.one .undef), (.one .undef), (.one .undef), (.one .undef), (.one .undef), (.one .undef), (.one .undef), (.one .undef), (.one .undef), (.one .undef), (.one .undef), (.one .undef), (.one .undef), (.one .undef), (.one .undef), (.one .undef), (.one .undef), (.one .undef), (.one .undef), (.one .undef), (.one .undef), (.one .undef), (.one .undef), (.one .undef), (.one .undef)], []⟩⟩]
noncomputable def L4 : LC := ⟨4, ⟨4, [1, 0, 5], []⟩, sh4, outs4, pre4, fn4⟩
noncomputable def H : List LC := [L4]
noncomputable def code (i : Nat) : Code := (loopsOf (bodyOf Try.f198)).getD i .skip
theorem step4 (x1 : (List Item)) (x2 : (List Item)) (x3 : Int) : L4.step E H (code 0) (x1, (x2, (x3, ()))) = raw4 x1 x2 x3 := by kernel_rfl
theorem lok4 : LoopOk E H (code 0) L4 := ⟨mu4, fun ⟨x1, x2, x3, ()⟩ hp => rounds_ok (step4 x1 x2 x3) (ok4 x1 x2 x3 hp)⟩
theorem run (x0 : (List Item)) (x1 : (List Item)) : runFn E H Try.f198 fs.ps fs.rs (x0, (x1, ())) = raw x0 x1 := by kernel_rfl
theorem env : EnvOk Try.prog E := env_cons laws_eqItem.known (env_nil tys)
theorem loops : ∀ c, Try.f198.body = some c → LoopsOk E H c := loops_of (by kernel_rfl) (by kernel_rfl) fun i l h => match i, h with
  | 0, h => Option.some.inj h ▸ lok4
  | n + 1, h => by cases h
theorem sound : Sound Try.prog 198 fs := fn_sound env mixed Try.func198 H loops fun ⟨x0, x1, ()⟩ hw _ => (run x0 x1).trans (eq x0 x1 hw)
theorem known : Seen Try.prog 198 fs := ⟨sound, _, Try.func198, by kernel_rfl, by kernel_rfl⟩
end laws_eqItemS
namespace laws_markItemS
noncomputable def fs : FS := ⟨[(.mut (.sl 228 (.pair (.int .i64) (.pair .str (.pair .str (.pair (.int .i64) (.pair (.int .i64) .unit))))))), (.val (.int .i64) .f)], [((.int .i64), .o)], fun x => laws_markItemS.pre x.1 x.2.1, fun x => (((laws_markItemS x.1 x.2.1).1, ()), ((laws_markItemS x.1 x.2.1).2, ()))⟩
noncomputable def E : Env := ⟨theta, [(86, laws_markText.fs)], []⟩
noncomputable def sh2 : ShSt := ⟨[(.one (.arr 40000001)), (.one (.dat (.int .i64))), (.one .undef), (.one .undef), (.one .undef), (.one (.dat (.int .i64))), (.one .undef), (.one .undef), (.one .undef), (.one .undef), (.one .undef), (.one .undef), (.one .undef), (.one .undef), (.one .undef), (.one .undef), (.one .undef), (.one .undef), (.one .undef), (.one .undef), (.one .undef), (.one .undef), (.one .undef), (.one .undef), (.one .undef), (.one .undef), (.one .undef), (.one .undef), (.one .undef), (.one .undef), (.one .undef), (.one .undef), (.one .undef), (.one .undef), (.one .undef), (.one .undef), (.one .undef), (.one .undef), (.one .undef), (.one .undef), (.one .undef), (.one .undef), (.one .undef), (.one .undef), (.one .undef), (.one .undef), (.one .undef), (.one .undef), (.one .undef), (.one .undef)], [(40000001, (.arr 228 (.pair (.int .i64) (.pair .str (.pair .str (.pair (.int .i64) (.pair (.int .i64) .unit)))))))]⟩
noncomputable def outs2 : List OutC := [⟨(.exit 0), ⟨0, [1, 0], []⟩, ⟨[(.one (.arr 40000001)), (.one (.dat (.int .i64))), (.one .undef), (.one .undef), (.one .undef), (.one .undef), (.one .undef), (.one .undef), (.one .undef), (.one .undef), (.one .undef), (.one .undef), (.one .undef), (.one .undef), (.one .undef), (.one .undef), (.one .undef), (.one .undef), (.one .undef), (.one .undef), (.one .undef), (.one .undef), (.one .undef), (.one .undef), (.one .undef), (.one .undef), (.one .undef), (.one .undef), (.one .undef), (.one .undef), (.one .undef), (.one .undef), (.one .undef), (.one .undef), (.one .undef), (.one .undef), (.one .undef), (.one .undef), (.one .undef), (.one .undef), (.one .undef), (.one .undef), (.one .undef), (.one .undef), (.one .undef), (.one .undef), (.one .undef), (.one .undef), (.one .undef), (.one .undef)], [(40000001, (.arr 228 (.pair (.int .i64) (.pair .str (.pair .str (.pair (.int .i64) (.pair (.int .i64) .unit)))))))]⟩⟩]
noncomputable def L2 : LC := ⟨2, ⟨2, [0, 5, 1], []⟩, sh2, outs2, pre2, fn2⟩
noncomputable def H : List LC := [L2]
noncomputable def code (i : Nat) : Code := (loopsOf (bodyOf Try.f178)).getD i .skip
theorem step2 (x1 : Int) (x2 : Int) (x3 : (List Item)) : L2.step E H (code 0) (x1, (x2, (x3, ()))) = raw2 x1 x2 x3 := by kernel_rfl
theorem lok2 : LoopOk E H (code 0) L2 := ⟨mu2, fun ⟨x1, x2, x3, ()⟩ hp => rounds_ok (step2 x1 x2 x3) (ok2 x1 x2 x3 hp)⟩
theorem run (x0 : (List Item)) (x1 : Int) : runFn E H Try.f178 fs.ps fs.rs (x0, (x1, ())) = raw x0 x1 := by kernel_rfl
theorem env : EnvOk Try.prog E := env_cons laws_markText.known (env_nil tys)
theorem loops : ∀ c, Try.f178.body = some c → LoopsOk E H c := loops_of (by kernel_rfl) (by kernel_rfl) fun i l h => match i, h with
  | 0, h => Option.some.inj h ▸ lok2
  | n + 1, h => by cases h
theorem sound : Sound Try.prog 178 fs := fn_sound env mixed Try.func178 H loops fun ⟨x0, x1, ()⟩ hw hp => (run x0 x1).trans (eq x0 x1 hw hp)
theorem known : Seen Try.prog 178 fs := ⟨sound, _, Try.func178, by kernel_rfl, by kernel_rfl⟩
end laws_markItemS
namespace laws_heldItemS
noncomputable def fs : FS := ⟨[(.val (.sl 228 (.pair (.int .i64) (.pair .str (.pair .str (.pair (.int .i64) (.pair (.int .i64) .unit)))))) .f), (.val (.int .i64) .f)], [((.int .i64), .o)], fun x => laws_heldItemS.pre x.1 x.2.1, fun x => ((), ((laws_heldItemS x.1 x.2.1), ()))⟩
noncomputable def E : Env := ⟨theta, [(86, laws_markText.fs)], []⟩
noncomputable def sh2 : ShSt := ⟨[(.one (.dat (.sl 228 (.pair (.int .i64) (.pair .str (.pair .str (.pair (.int .i64) (.pair (.int .i64) .unit)))))))), (.one (.dat (.int .i64))), (.one .undef), (.one .undef), (.one .undef), (.one (.dat (.int .i64))), (.one .undef), (.one .undef), (.one .undef), (.one .undef), (.one .undef), (.one .undef), (.one .undef), (.one .undef), (.one .undef), (.one .undef), (.one .undef), (.one .undef), (.one .undef), (.one .undef), (.one .undef), (.one .undef), (.one .undef), (.one .undef), (.one .undef), (.one .undef), (.one .undef), (.one .undef), (.one .undef), (.one .undef), (.one .undef), (.one .undef), (.one .undef), (.one .undef), (.one .undef), (.one .undef), (.one .undef), (.one .undef), (.one .undef), (.one .undef), (.one .undef), (.one .undef), (.one .undef), (.one .undef), (.one .undef), (.one .undef), (.one .undef), (.one .undef), (.one .undef), (.one .undef), (.one .undef), (.one .undef), (.one .undef), (.one .undef), (.one .undef), (.one .undef), (.one .undef), (.one .undef), (.one .undef), (.one .undef)], []⟩
noncomputable def outs2 : List OutC := [⟨.ret, ⟨0, [4], []⟩, ⟨[(.one .undef), (.one .undef), (.one .undef), (.one .undef), (.one (.dat (.int .i64))), (.one .undef), (.one .undef), (.one .undef), (.one .undef), (.one .undef), (.one .undef), (.one .undef), (.one .undef), (.one .undef), (.one .undef), (.one .undef), (.one .undef), (.one .undef), (.one .undef), (.one .undef), (.one .undef), (.one .undef), (.one .undef), (.one .undef), (.one .undef), (.one .undef), (.one .undef), (.one .undef), (.one .undef), (.one .undef), (.one .undef), (.one .undef), (.one .undef), (.one .undef), (.one .undef), (.one .undef), (.one .undef), (.one .undef), (.one .undef), (.one .undef), (.one .undef), (.one .undef), (.one .undef), (.one .undef), (.one .undef), (.one .undef), (.one .undef), (.one .undef), (.one .undef), (.one .undef), (.one .undef), (.one .undef), (.one .undef), (.one .undef), (.one .undef), (.one .undef), (.one .undef), (.one .undef), (.one .undef), (.one .undef)], []⟩⟩, ⟨(.exit 0), ⟨0, [1], []⟩, ⟨[(.one .undef), (.one (.dat (.int .i64))), (.one .undef), (.one .undef), (.one .undef), (.one .undef), (.one .undef), (.one .undef), (.one .undef), (.one .undef), (.one .undef), (.one .undef), (.one .undef), (.one .undef), (.one .undef), (.one .undef), (.one .undef), (.one .undef), (.one .undef), (.one .undef), (.one .undef), (.one .undef), (.one .undef), (.one .undef), (.one .undef), (.one .undef), (.one .undef), (.one .undef), (.one .undef), (.one .undef), (.one .undef), (.one .undef), (.one .undef), (.one .undef), (.one .undef), (.one .undef), (.one .undef), (.one .undef), (.one .undef), (.one .undef), (.one .undef), (.one .undef), (.one .undef), (.one .undef), (.one .undef), (.one .undef), (.one .undef), (.one .undef), (.one .undef), (.one .undef), (.one .undef), (.one .undef), (.one .undef), (.one .undef), (.one .undef), (.one .undef), (.one .undef), (.one .undef), (.one .undef), (.one .undef)], []⟩⟩]
noncomputable def L2 : LC := ⟨2, ⟨2, [0, 5, 1], []⟩, sh2, outs2, pre2, fn2⟩
noncomputable def H : List LC := [L2]
noncomputable def code (i : Nat) : Code := (loopsOf (bodyOf Try.f180)).getD i .skip
theorem step2 (x1 : (List Item)) (x2 : Int) (x3 : Int) : L2.step E H (code 0) (x1, (x2, (x3, ()))) = raw2 x1 x2 x3 := by kernel_rfl
theorem lok2 : LoopOk E H (code 0) L2 := ⟨mu2, fun ⟨x1, x2, x3, ()⟩ hp => rounds_ok (step2 x1 x2 x3) (ok2 x1 x2 x3 hp)⟩
theorem run (x0 : (List Item)) (x1 : Int) : runFn E H Try.f180 fs.ps fs.rs (x0, (x1, ())) = raw x0 x1 := by kernel_rfl
theorem env : EnvOk Try.prog E := env_cons laws_markText.known (env_nil tys)
theorem loops : ∀ c, Try.f180.body = some c → LoopsOk E H c := loops_of (by kernel_rfl) (by kernel_rfl) fun i l h => match i, h with
  | 0, h => Option.some.inj h ▸ lok2
  | n + 1, h => by cases h
theorem sound : Sound Try.prog 180 fs := fn_sound env mixed Try.func180 H loops fun ⟨x0, x1, ()⟩ hw hp => (run x0 x1).trans (eq x0 x1 hw hp)
theorem known : Seen Try.prog 180 fs := ⟨sound, _, Try.func180, by kernel_rfl, by kernel_rfl⟩
end laws_heldItemS
namespace laws_eqMarkS
noncomputable def fs : FS := ⟨[(.val (.sl 236 (.pair (.int .i64) (.pair (.int .i64) .unit))) .f), (.val (.sl 236 (.pair (.int .i64) (.pair (.int .i64) .unit))) .f)], [(.bool, .o)], fun _ => true, fun x => ((), ((laws_eqMarkS x.1 x.2.1), ()))⟩
noncomputable def E : Env := ⟨theta, [(206, laws_eqMark.fs)], []⟩
noncomputable def sh4 : ShSt := ⟨[(.one (.dat (.sl 236 (.pair (.int .i64) (.pair (.int .i64) .unit))))), (.one (.dat (.sl 236 (.pair (.int .i64) (.pair (.int .i64) .unit))))), (.one .undef), (.one .undef), (.one .undef), (.one (.dat (.int .i64))), (.one .undef), (.one .undef), (.one .undef), (.one .undef), (.one .undef), (.one .undef), (.one .undef), (.one .undef), (.one .undef), (.one .undef), (.one .undef), (.one .undef), (.one .undef), (.one .undef), (.one .undef), (.one .undef), (.one .undef), (.one .undef), (.one .undef), (.one .undef), (.one .undef)], []⟩
noncomputable def outs4 : List OutC := [⟨.ret, ⟨0, [4], []⟩, ⟨[(.one .undef), (.one .undef), (.one .undef), (.one .undef), (.one (.dat .bool)), (.one .undef), (.one .undef), (.one .undef), (.one .undef), (.one .undef), (.one .undef), (.one .undef), (.one .undef), (.one .undef), (.one .undef), (.one .undef), (.one .undef), (.one .undef), (.one .undef), (.one .undef), (.one .undef), (.one .undef), (.one .undef), (.one .undef), (.one .undef), (.one .undef), (.one .undef)], []⟩⟩, ⟨(.exit 0), ⟨0, [], []⟩, ⟨[(.one .undef), (.one .undef), (.one .undef), (.one .undef), (.one .undef), (.one .undef), (.one .undef), (.one .undef), (.one .undef), (.one .undef), (.one .undef), (.one .undef), (.one .undef), (.one .undef), (.one .undef), (.one .undef), (.one .undef), (.one .undef), (.one .undef), (.one .undef), (.one .undef), (.one .undef), (.one .undef), (.one .undef), (.one .undef), (.one .undef), (.one .undef)], []⟩⟩]
noncomputable def L4 : LC := ⟨4, ⟨4, [1, 0, 5], []⟩, sh4, outs4, pre4, fn4⟩
noncomputable def H : List LC := [L4]
noncomputable def code (i : Nat) : Code := (loopsOf (bodyOf Try.f199)).getD i .skip
theorem step4 (x1 : (List Mark)) (x2 : (List Mark)) (x3 : Int) : L4.step E H (code 0) (x1, (x2, (x3, ()))) = raw4 x1 x2 x3 := by kernel_rfl
theorem lok4 : LoopOk E H (code 0) L4 := ⟨mu4, fun ⟨x1, x2, x3, ()⟩ hp => rounds_ok (step4 x1 x2 x3) (ok4 x1 x2 x3 hp)⟩
theorem run (x0 : (List Mark)) (x1 : (List Mark)) : runFn E H Try.f199 fs.ps fs.rs (x0, (x1, ())) = raw x0 x1 := by kernel_rfl
theorem env : EnvOk Try.prog E := env_cons laws_eqMark.known (env_nil tys)
theorem loops : ∀ c, Try.f199.body = some c → LoopsOk E H c := loops_of (by kernel_rfl) (by kernel_rfl) fun i l h => match i, h with
  | 0, h => Option.some.inj h ▸ lok4
  | n + 1, h => by cases h
theorem sound : Sound Try.prog 199 fs := fn_sound env mixed Try.func199 H loops fun ⟨x0, x1, ()⟩ hw _ => (run x0 x1).trans (eq x0 x1 hw)
theorem known : Seen Try.prog 199 fs := ⟨sound, _, Try.func199, by kernel_rfl, by kernel_rfl⟩
end laws_eqMarkS
namespace laws_markMarkS
noncomputable def fs : FS := ⟨[(.mut (.sl 236 (.pair (.int .i64) (.pair (.int .i64) .unit)))), (.val (.int .i64) .f)], [((.int .i64), .o)], fun x => laws_markMarkS.pre x.1 x.2.1, fun x => (((laws_markMarkS x.1 x.2.1).1, ()), ((laws_markMarkS x.1 x.2.1).2, ()))⟩
noncomputable def E : Env := ⟨theta, [], []⟩
noncomputable def sh2 : ShSt := ⟨[(.one (.arr 40000001)), (.one (.dat (.int .i64))), (.one .undef), (.one .undef), (.one .undef), (.one (.dat (.int .i64))), (.one .undef), (.one .undef), (.one .undef), (.one .undef), (.one .undef), (.one .undef), (.one .undef), (.one .undef), (.one .undef), (.one .undef), (.one .undef), (.one .undef), (.one .undef), (.one .undef), (.one .undef), (.one .undef), (.one .undef), (.one .undef), (.one .undef), (.one .undef), (.one .undef)], [(40000001, (.arr 236 (.pair (.int .i64) (.pair (.int .i64) .unit))))]⟩
noncomputable def outs2 : List OutC := [⟨(.exit 0), ⟨0, [1, 0], []⟩, ⟨[(.one (.arr 40000001)), (.one (.dat (.int .i64))), (.one .undef), (.one .undef), (.one .undef), (.one .undef), (.one .undef), (.one .undef), (.one .undef), (.one .undef), (.one .undef), (.one .undef), (.one .undef), (.one .undef), (.one .undef), (.one .undef), (.one .undef), (.one .undef), (.one .undef), (.one .undef), (.one .undef), (.one .undef), (.one .undef), (.one .undef), (.one .undef), (.one .undef), (.one .undef)], [(40000001, (.arr 236 (.pair (.int .i64) (.pair (.int .i64) .unit))))]⟩⟩]
noncomputable def L2 : LC := ⟨2, ⟨2, [0, 5, 1], []⟩, sh2, outs2, pre2, fn2⟩
noncomputable def H : List LC := [L2]
noncomputable def code (i : Nat) : Code := (loopsOf (bodyOf Try.f179)).getD i .skip
theorem step2 (x1 : Int) (x2 : Int) (x3 : (List Mark)) : L2.step E H (code 0) (x1, (x2, (x3, ()))) = raw2 x1 x2 x3 := by kernel_rfl
theorem lok2 : LoopOk E H (code 0) L2 := ⟨mu2, fun ⟨x1, x2, x3, ()⟩ hp => rounds_ok (step2 x1 x2 x3) (ok2 x1 x2 x3 hp)⟩
theorem run (x0 : (List Mark)) (x1 : Int) : runFn E H Try.f179 fs.ps fs.rs (x0, (x1, ())) = raw x0 x1 := by kernel_rfl
theorem env : EnvOk Try.prog E := env_nil tys
theorem loops : ∀ c, Try.f179.body = some c → LoopsOk E H c := loops_of (by kernel_rfl) (by kernel_rfl) fun i l h => match i, h with
  | 0, h => Option.some.inj h ▸ lok2
  | n + 1, h => by cases h
theorem sound : Sound Try.prog 179 fs := fn_sound env mixed Try.func179 H loops fun ⟨x0, x1, ()⟩ hw hp => (run x0 x1).trans (eq x0 x1 hw hp)
theorem known : Seen Try.prog 179 fs := ⟨sound, _, Try.func179, by kernel_rfl, by kernel_rfl⟩
end laws_markMarkS
namespace laws_heldMarkS
noncomputable def fs : FS := ⟨[(.val (.sl 236 (.pair (.int .i64) (.pair (.int .i64) .unit))) .f), (.val (.int .i64) .f)], [((.int .i64), .o)], fun x => laws_heldMarkS.pre x.1 x.2.1, fun x => ((), ((laws_heldMarkS x.1 x.2.1), ()))⟩
noncomputable def E : Env := ⟨theta, [], []⟩
noncomputable def sh2 : ShSt := ⟨[(.one (.dat (.sl 236 (.pair (.int .i64) (.pair (.int .i64) .unit))))), (.one (.dat (.int .i64))), (.one .undef), (.one .undef), (.one .undef), (.one (.dat (.int .i64))), (.one .undef), (.one .undef), (.one .undef), (.one .undef), (.one .undef), (.one .undef), (.one .undef), (.one .undef), (.one .undef), (.one .undef), (.one .undef), (.one .undef), (.one .undef), (.one .undef), (.one .undef), (.one .undef), (.one .undef), (.one .undef), (.one .undef), (.one .undef), (.one .undef), (.one .undef), (.one .undef), (.one .undef), (.one .undef)], []⟩
noncomputable def outs2 : List OutC := [⟨.ret, ⟨0, [4], []⟩, ⟨[(.one .undef), (.one .undef), (.one .undef), (.one .undef), (.one (.dat (.int .i64))), (.one .undef), (.one .undef), (.one .undef), (.one .undef), (.one .undef), (.one .undef), (.one .undef), (.one .undef), (.one .undef), (.one .undef), (.one .undef), (.one .undef), (.one .undef), (.one .undef), (.one .undef), (.one .undef), (.one .undef), (.one .undef), (.one .undef), (.one .undef), (.one .undef), (.one .undef), (.one .undef), (.one .undef), (.one .undef), (.one .undef)], []⟩⟩, ⟨(.exit 0), ⟨0, [1], []⟩, ⟨[(.one .undef), (.one (.dat (.int .i64))), (.one .undef), (.one .undef), (.one .undef), (.one .undef), (.one .undef), (.one .undef), (.one .undef), (.one .undef), (.one .undef), (.one .undef), (.one .undef), (.one .undef), (.one .undef), (.one .undef), (.one .undef), (.one .undef), (.one .undef), (.one .undef), (.one .undef), (.one .undef), (.one .undef), (.one .undef), (.one .undef), (.one .undef), (.one .undef), (.one .undef), (.one .undef), (.one .undef), (.one .undef)], []⟩⟩]
noncomputable def L2 : LC := ⟨2, ⟨2, [0, 5, 1], []⟩, sh2, outs2, pre2, fn2⟩
noncomputable def H : List LC := [L2]
noncomputable def code (i : Nat) : Code := (loopsOf (bodyOf Try.f181)).getD i .skip
theorem step2 (x1 : (List Mark)) (x2 : Int) (x3 : Int) : L2.step E H (code 0) (x1, (x2, (x3, ()))) = raw2 x1 x2 x3 := by kernel_rfl
theorem lok2 : LoopOk E H (code 0) L2 := ⟨mu2, fun ⟨x1, x2, x3, ()⟩ hp => rounds_ok (step2 x1 x2 x3) (ok2 x1 x2 x3 hp)⟩
theorem run (x0 : (List Mark)) (x1 : Int) : runFn E H Try.f181 fs.ps fs.rs (x0, (x1, ())) = raw x0 x1 := by kernel_rfl
theorem env : EnvOk Try.prog E := env_nil tys
theorem loops : ∀ c, Try.f181.body = some c → LoopsOk E H c := loops_of (by kernel_rfl) (by kernel_rfl) fun i l h => match i, h with
  | 0, h => Option.some.inj h ▸ lok2
  | n + 1, h => by cases h
theorem sound : Sound Try.prog 181 fs := fn_sound env mixed Try.func181 H loops fun ⟨x0, x1, ()⟩ hw hp => (run x0 x1).trans (eq x0 x1 hw hp)
theorem known : Seen Try.prog 181 fs := ⟨sound, _, Try.func181, by kernel_rfl, by kernel_rfl⟩
end laws_heldMarkS
namespace laws_eqIntS
noncomputable def fs : FS := ⟨[(.val (.sl 3 (.int .i64)) .f), (.val (.sl 3 (.int .i64)) .f)], [(.bool, .o)], fun _ => true, fun x => ((), ((laws_eqIntS x.1 x.2.1), ()))⟩
noncomputable def E : Env := ⟨theta, [], []⟩
noncomputable def sh4 : ShSt := ⟨[(.one (.dat (.sl 3 (.int .i64)))), (.one (.dat (.sl 3 (.int .i64)))), (.one .undef), (.one .undef), (.one .undef), (.one (.dat (.int .i64))), (.one .undef), (.one .undef), (.one .undef), (.one .undef), (.one .undef), (.one .undef), (.one .undef), (.one .undef), (.one .undef), (.one .undef), (.one .undef), (.one .undef), (.one .undef), (.one .undef), (.one .undef), (.one .undef), (.one .undef), (.one .undef), (.one .undef), (.one .undef)], []⟩
noncomputable def outs4 : List OutC := [⟨.ret, ⟨0, [4], []⟩, ⟨[(.one .undef), (.one .undef), (.one .undef), (.one .undef), (.one (.dat .bool)), (.one .undef), (.one .undef), (.one .undef), (.one .undef), (.one .undef), (.one .undef), (.one .undef), (.one .undef), (.one .undef), (.one .undef), (.one .undef), (.one .undef), (.one .undef), (.one .undef), (.one .undef), (.one .undef), (.one .undef), (.one .undef), (.one .undef), (.one .undef), (.one .undef)], []⟩⟩, ⟨(.exit 0), ⟨0, [], []⟩, ⟨[(.one .undef), (.one .undef), (.one .undef), (.one .undef), (.one .undef), (.one .undef), (.one .undef), (.one .undef), (.one .undef), (.one .undef), (.one .undef), (.one .undef), (.one .undef), (.one .undef), (.one .undef), (.one .undef), (.one .undef), (.one .undef), (.one .undef), (.one .undef), (.one .undef), (.one .undef), (.one .undef), (.one .undef), (.one .undef), (.one .undef)], []⟩⟩]
noncomputable def L4 : LC := ⟨4, ⟨4, [1, 0, 5], []⟩, sh4, outs4, pre4, fn4⟩
noncomputable def H : List LC := [L4]
noncomputable def code (i : Nat) : Code := (loopsOf (bodyOf Try.f134)).getD i .skip
theorem step4 (x1 : (List Int)) (x2 : (List Int)) (x3 : Int) : L4.step E H (code 0) (x1, (x2, (x3, ()))) = raw4 x1 x2 x3 := by kernel_rfl
theorem lok4 : LoopOk E H (code 0) L4 := ⟨mu4, fun ⟨x1, x2, x3, ()⟩ hp => rounds_ok (step4 x1 x2 x3) (ok4 x1 x2 x3 hp)⟩
theorem run (x0 : (List Int)) (x1 : (List Int)) : runFn E H Try.f134 fs.ps fs.rs (x0, (x1, ())) = raw x0 x1 := by kernel_rfl
theorem env : EnvOk Try.prog E := env_nil tys
theorem loops : ∀ c, Try.f134.body = some c → LoopsOk E H c := loops_of (by kernel_rfl) (by kernel_rfl) fun i l h => match i, h with
  | 0, h => Option.some.inj h ▸ lok4
  | n + 1, h => by cases h
theorem sound : Sound Try.prog 134 fs := fn_sound env mixed Try.func134 H loops fun ⟨x0, x1, ()⟩ hw _ => (run x0 x1).trans (eq x0 x1 hw)
theorem known : Seen Try.prog 134 fs := ⟨sound, _, Try.func134, by kernel_rfl, by kernel_rfl⟩
end laws_eqIntS
namespace laws_markIntS
noncomputable def fs : FS := ⟨[(.mut (.sl 3 (.int .i64))), (.val (.int .i64) .f)], [((.int .i64), .o)], fun x => laws_markIntS.pre x.1 x.2.1, fun x => (((laws_markIntS x.1 x.2.1).1, ()), ((laws_markIntS x.1 x.2.1).2, ()))⟩
noncomputable def E : Env := ⟨theta, [], []⟩
noncomputable def sh2 : ShSt := ⟨[(.one (.arr 40000001)), (.one (.dat (.int .i64))), (.one .undef), (.one .undef), (.one .undef), (.one (.dat (.int .i64))), (.one .undef), (.one .undef), (.one .undef), (.one .undef), (.one .undef), (.one .undef), (.one .undef), (.one .undef), (.one .undef), (.one .undef), (.one .undef), (.one .undef), (.one .undef)], [(40000001, (.arr 3 (.int .i64)))]⟩
noncomputable def outs2 : List OutC := [⟨(.exit 0), ⟨0, [1, 0], []⟩, ⟨[(.one (.arr 40000001)), (.one (.dat (.int .i64))), (.one .undef), (.one .undef), (.one .undef), (.one .undef), (.one .undef), (.one .undef), (.one .undef), (.one .undef), (.one .undef), (.one .undef), (.one .undef), (.one .undef), (.one .undef), (.one .undef), (.one .undef), (.one .undef), (.one .undef)], [(40000001, (.arr 3 (.int .i64)))]⟩⟩]
noncomputable def L2 : LC := ⟨2, ⟨2, [0, 5, 1], []⟩, sh2, outs2, pre2, fn2⟩
noncomputable def H : List LC := [L2]
noncomputable def code (i : Nat) : Code := (loopsOf (bodyOf Try.f139)).getD i .skip
theorem step2 (x1 : Int) (x2 : Int) (x3 : (List Int)) : L2.step E H (code 0) (x1, (x2, (x3, ()))) = raw2 x1 x2 x3 := by kernel_rfl
theorem lok2 : LoopOk E H (code 0) L2 := ⟨mu2, fun ⟨x1, x2, x3, ()⟩ hp => rounds_ok (step2 x1 x2 x3) (ok2 x1 x2 x3 hp)⟩
theorem run (x0 : (List Int)) (x1 : Int) : runFn E H Try.f139 fs.ps fs.rs (x0, (x1, ())) = raw x0 x1 := by kernel_rfl
theorem env : EnvOk Try.prog E := env_nil tys
theorem loops : ∀ c, Try.f139.body = some c → LoopsOk E H c := loops_of (by kernel_rfl) (by kernel_rfl) fun i l h => match i, h with
  | 0, h => Option.some.inj h ▸ lok2
  | n + 1, h => by cases h
theorem sound : Sound Try.prog 139 fs := fn_sound env mixed Try.func139 H loops fun ⟨x0, x1, ()⟩ hw hp => (run x0 x1).trans (eq x0 x1 hw hp)
theorem known : Seen Try.prog 139 fs := ⟨sound, _, Try.func139, by kernel_rfl, by kernel_rfl⟩
end laws_markIntS
namespace laws_heldIntS
noncomputable def fs : FS := ⟨[(.val (.sl 3 (.int .i64)) .f), (.val (.int .i64) .f)], [((.int .i64), .o)], fun x => laws_heldIntS.pre x.1 x.2.1, fun x => ((), ((laws_heldIntS x.1 x.2.1), ()))⟩
noncomputable def E : Env := ⟨theta, [], []⟩
noncomputable def sh2 : ShSt := ⟨[(.one (.dat (.sl 3 (.int .i64)))), (.one (.dat (.int .i64))), (.one .undef), (.one .undef), (.one .undef), (.one (.dat (.int .i64))), (.one .undef), (.one .undef), (.one .undef), (.one .undef), (.one .undef), (.one .undef), (.one .undef), (.one .undef), (.one .undef), (.one .undef), (.one .undef), (.one .undef), (.one .undef), (.one .undef), (.one .undef)], []⟩
noncomputable def outs2 : List OutC := [⟨.ret, ⟨0, [4], []⟩, ⟨[(.one .undef), (.one .undef), (.one .undef), (.one .undef), (.one (.dat (.int .i64))), (.one .undef), (.one .undef), (.one .undef), (.one .undef), (.one .undef), (.one .undef), (.one .undef), (.one .undef), (.one .undef), (.one .undef), (.one .undef), (.one .undef), (.one .undef), (.one .undef), (.one .undef), (.one .undef)], []⟩⟩, ⟨(.exit 0), ⟨0, [1], []⟩, ⟨[(.one .undef), (.one (.dat (.int .i64))), (.one .undef), (.one .undef), (.one .undef), (.one .undef), (.one .undef), (.one .undef), (.one .undef), (.one .undef), (.one .undef), (.one .undef), (.one .undef), (.one .undef), (.one .undef), (.one .undef), (.one .undef), (.one .undef), (.one .undef), (.one .undef), (.one .undef)], []⟩⟩]
noncomputable def L2 : LC := ⟨2, ⟨2, [0, 5, 1], []⟩, sh2, outs2, pre2, fn2⟩
noncomputable def H : List LC := [L2]
noncomputable def code (i : Nat) : Code := (loopsOf (bodyOf Try.f144)).getD i .skip
theorem step2 (x1 : (List Int)) (x2 : Int) (x3 : Int) : L2.step E H (code 0) (x1, (x2, (x3, ()))) = raw2 x1 x2 x3 := by kernel_rfl
theorem lok2 : LoopOk E H (code 0) L2 := ⟨mu2, fun ⟨x1, x2, x3, ()⟩ hp => rounds_ok (step2 x1 x2 x3) (ok2 x1 x2 x3 hp)⟩
theorem run (x0 : (List Int)) (x1 : Int) : runFn E H Try.f144 fs.ps fs.rs (x0, (x1, ())) = raw x0 x1 := by kernel_rfl
theorem env : EnvOk Try.prog E := env_nil tys
theorem loops : ∀ c, Try.f144.body = some c → LoopsOk E H c := loops_of (by kernel_rfl) (by kernel_rfl) fun i l h => match i, h with
  | 0, h => Option.some.inj h ▸ lok2
  | n + 1, h => by cases h
theorem sound : Sound Try.prog 144 fs := fn_sound env mixed Try.func144 H loops fun ⟨x0, x1, ()⟩ hw hp => (run x0 x1).trans (eq x0 x1 hw hp)
theorem known : Seen Try.prog 144 fs := ⟨sound, _, Try.func144, by kernel_rfl, by kernel_rfl⟩
end laws_heldIntS
namespace laws_eqAnswerS
noncomputable def fs : FS := ⟨[(.val (.sl 190 (.pair (.int .i64) (.pair (.int .i64) (.pair .str (.pair .str .unit))))) .f), (.val (.sl 190 (.pair (.int .i64) (.pair (.int .i64) (.pair .str (.pair .str .unit))))) .f)], [(.bool, .o)], fun _ => true, fun x => ((), ((laws_eqAnswerS x.1 x.2.1), ()))⟩
noncomputable def E : Env := ⟨theta, [(177, laws_eqAnswer.fs)], []⟩
noncomputable def sh4 : ShSt := ⟨[(.one (.dat (.sl 190 (.pair (.int .i64) (.pair (.int .i64) (.pair .str (.pair .str .unit))))))), (.one (.dat (.sl 190 (.pair (.int .i64) (.pair (.int .i64) (.pair .str (.pair .str .unit))))))), (.one .undef), (.one .undef), (.one .undef), (.one (.dat (.int .i64))), (.one .undef), (.one .undef), (.one .undef), (.one .undef), (.one .undef), (.one .undef), (.one .undef), (.one .undef), (.one .undef), (.one .undef), (.one .undef), (.one .undef), (.one .undef), (.one .undef), (.one .undef), (.one .undef), (.one .undef), (.one .undef), (.one .undef), (.one .undef), (.one .undef)], []⟩
noncomputable def outs4 : List OutC := [⟨.ret, ⟨0, [4], []⟩, ⟨[(.one .undef), (.one .undef), (.one .undef), (.one .undef), (.one (.dat .bool)), (.one .undef), (.one .undef), (.one .undef), (.one .undef), (.one .undef), (.one .undef), (.one .undef), (.one .undef), (.one .undef), (.one .undef), (.one .undef), (.one .undef), (.one .undef), (.one .undef), (.one .undef), (.one .undef), (.one .undef), (.one .undef), (.one .undef), (.one .undef), (.one .undef), (.one .undef)], []⟩⟩, ⟨(.exit 0), ⟨0, [], []⟩, ⟨[(.one .undef), (.one .undef), (.one .undef), (.one .undef), (.one .undef), (.one .undef), (.one .undef), (.one .undef), (.one .undef), (.one .undef), (.one .undef), (.one .undef), (.one .undef), (.one .undef), (.one .undef), (.one .undef), (.one .undef), (.one .undef), (.one .undef), (.one .undef), (.one .undef), (.one .undef), (.one .undef), (.one .undef), (.one .undef), (.one .undef), (.one .undef)], []⟩⟩]
noncomputable def L4 : LC := ⟨4, ⟨4, [1, 0, 5], []⟩, sh4, outs4, pre4, fn4⟩
noncomputable def H : List LC := [L4]
noncomputable def code (i : Nat) : Code := (loopsOf (bodyOf Try.f135)).getD i .skip
theorem step4 (x1 : (List Answer)) (x2 : (List Answer)) (x3 : Int) : L4.step E H (code 0) (x1, (x2, (x3, ()))) = raw4 x1 x2 x3 := by kernel_rfl
theorem lok4 : LoopOk E H (code 0) L4 := ⟨mu4, fun ⟨x1, x2, x3, ()⟩ hp => rounds_ok (step4 x1 x2 x3) (ok4 x1 x2 x3 hp)⟩
theorem run (x0 : (List Answer)) (x1 : (List Answer)) : runFn E H Try.f135 fs.ps fs.rs (x0, (x1, ())) = raw x0 x1 := by kernel_rfl
theorem env : EnvOk Try.prog E := env_cons laws_eqAnswer.known (env_nil tys)
theorem loops : ∀ c, Try.f135.body = some c → LoopsOk E H c := loops_of (by kernel_rfl) (by kernel_rfl) fun i l h => match i, h with
  | 0, h => Option.some.inj h ▸ lok4
  | n + 1, h => by cases h
theorem sound : Sound Try.prog 135 fs := fn_sound env mixed Try.func135 H loops fun ⟨x0, x1, ()⟩ hw _ => (run x0 x1).trans (eq x0 x1 hw)
theorem known : Seen Try.prog 135 fs := ⟨sound, _, Try.func135, by kernel_rfl, by kernel_rfl⟩
end laws_eqAnswerS
namespace laws_markAnswerS
noncomputable def fs : FS := ⟨[(.mut (.sl 190 (.pair (.int .i64) (.pair (.int .i64) (.pair .str (.pair .str .unit)))))), (.val (.int .i64) .f)], [((.int .i64), .o)], fun x => laws_markAnswerS.pre x.1 x.2.1, fun x => (((laws_markAnswerS x.1 x.2.1).1, ()), ((laws_markAnswerS x.1 x.2.1).2, ()))⟩
noncomputable def E : Env := ⟨theta, [(86, laws_markText.fs)], []⟩
noncomputable def sh2 : ShSt := ⟨[(.one (.arr 40000001)), (.one (.dat (.int .i64))), (.one .undef), (.one .undef), (.one .undef), (.one (.dat (.int .i64))), (.one .undef), (.one .undef), (.one .undef), (.one .undef), (.one .undef), (.one .undef), (.one .undef), (.one .undef), (.one .undef), (.one .undef), (.one .undef), (.one .undef), (.one .undef), (.one .undef), (.one .undef), (.one .undef), (.one .undef), (.one .undef), (.one .undef), (.one .undef), (.one .undef), (.one .undef), (.one .undef), (.one .undef), (.one .undef), (.one .undef), (.one .undef), (.one .undef), (.one .undef), (.one .undef), (.one .undef), (.one .undef), (.one .undef), (.one .undef), (.one .undef), (.one .undef), (.one .undef)], [(40000001, (.arr 190 (.pair (.int .i64) (.pair (.int .i64) (.pair .str (.pair .str .unit))))))]⟩
noncomputable def outs2 : List OutC := [⟨(.exit 0), ⟨0, [1, 0], []⟩, ⟨[(.one (.arr 40000001)), (.one (.dat (.int .i64))), (.one .undef), (.one .undef), (.one .undef), (.one .undef), (.one .undef), (.one .undef), (.one .undef), (.one .undef), (.one .undef), (.one .undef), (.one .undef), (.one .undef), (.one .undef), (.one .undef), (.one .undef), (.one .undef), (.one .undef), (.one .undef), (.one .undef), (.one .undef), (.one .undef), (.one .undef), (.one .undef), (.one .undef), (.one .undef), (.one .undef), (.one .undef), (.one .undef), (.one .undef), (.one .undef), (.one .undef), (.one .undef), (.one .undef), (.one .undef), (.one .undef), (.one .undef), (.one .undef), (.one .undef), (.one .undef), (.one .undef), (.one .undef)], [(40000001, (.arr 190 (.pair (.int .i64) (.pair (.int .i64) (.pair .str (.pair .str .unit))))))]⟩⟩]
noncomputable def L2 : LC := ⟨2, ⟨2, [0, 5, 1], []⟩, sh2, outs2, pre2, fn2⟩
noncomputable def H : List LC := [L2]
noncomputable def code (i : Nat) : Code := (loopsOf (bodyOf Try.f140)).getD i .skip
theorem step2 (x1 : Int) (x2 : Int) (x3 : (List Answer)) : L2.step E H (code 0) (x1, (x2, (x3, ()))) = raw2 x1 x2 x3 := by kernel_rfl
theorem lok2 : LoopOk E H (code 0) L2 := ⟨mu2, fun ⟨x1, x2, x3, ()⟩ hp => rounds_ok (step2 x1 x2 x3) (ok2 x1 x2 x3 hp)⟩
theorem run (x0 : (List Answer)) (x1 : Int) : runFn E H Try.f140 fs.ps fs.rs (x0, (x1, ())) = raw x0 x1 := by kernel_rfl
theorem env : EnvOk Try.prog E := env_cons laws_markText.known (env_nil tys)
theorem loops : ∀ c, Try.f140.body = some c → LoopsOk E H c := loops_of (by kernel_rfl) (by kernel_rfl) fun i l h => match i, h with
  | 0, h => Option.some.inj h ▸ lok2
  | n + 1, h => by cases h
theorem sound : Sound Try.prog 140 fs := fn_sound env mixed Try.func140 H loops fun ⟨x0, x1, ()⟩ hw hp => (run x0 x1).trans (eq x0 x1 hw hp)
theorem known : Seen Try.prog 140 fs := ⟨sound, _, Try.func140, by kernel_rfl, by kernel_rfl⟩
end laws_markAnswerS
namespace laws_heldAnswerS
noncomputable def fs : FS := ⟨[(.val (.sl 190 (.pair (.int .i64) (.pair (.int .i64) (.pair .str (.pair .str .unit))))) .f), (.val (.int .i64) .f)], [((.int .i64), .o)], fun x => laws_heldAnswerS.pre x.1 x.2.1, fun x => ((), ((laws_heldAnswerS x.1 x.2.1), ()))⟩
noncomputable def E : Env := ⟨theta, [(86, laws_markText.fs)], []⟩
noncomputable def sh2 : ShSt := ⟨[(.one (.dat (.sl 190 (.pair (.int .i64) (.pair (.int .i64) (.pair .str (.pair .str .unit))))))), (.one (.dat (.int .i64))), (.one .undef), (.one .undef), (.one .undef), (.one (.dat (.int .i64))), (.one .undef), (.one .undef), (.one .undef), (.one .undef), (.one .undef), (.one .undef), (.one .undef), (.one .undef), (.one .undef), (.one .undef), (.one .undef), (.one .undef), (.one .undef), (.one .undef), (.one .undef), (.one .undef), (.one .undef), (.one .undef), (.one .undef), (.one .undef), (.one .undef), (.one .undef), (.one .undef), (.one .undef), (.one .undef), (.one .undef), (.one .undef), (.one .undef), (.one .undef), (.one .undef), (.one .undef), (.one .undef), (.one .undef), (.one .undef), (.one .undef), (.one .undef), (.one .undef), (.one .undef), (.one .undef), (.one .undef), (.one .undef), (.one .undef), (.one .undef), (.one .undef), (.one .undef)], []⟩
noncomputable def outs2 : List OutC := [⟨.ret, ⟨0, [4], []⟩, ⟨[(.one .undef), (.one .undef), (.one .undef), (.one .undef), (.one (.dat (.int .i64))), (.one .undef), (.one .undef), (.one .undef), (.one .undef), (.one .undef), (.one .undef), (.one .undef), (.one .undef), (.one .undef), (.one .undef), (.one .undef), (.one .undef), (.one .undef), (.one .undef), (.one .undef), (.one .undef), (.one .undef), (.one .undef), (.one .undef), (.one .undef), (.one .undef), (.one .undef), (.one .undef), (.one .undef), (.one .undef), (.one .undef), (.one .undef), (.one .undef), (.one .undef), (.one .undef), (.one .undef), (.one .undef), (.one .undef), (.one .undef), (.one .undef), (.one .undef), (.one .undef), (.one .undef), (.one .undef), (.one .undef), (.one .undef), (.one .undef), (.one .undef), (.one .undef), (.one .undef), (.one .undef)], []⟩⟩, ⟨(.exit 0), ⟨0, [1], []⟩, ⟨[(.one .undef), (.one (.dat (.int .i64))), (.one .undef), (.one .undef), (.one .undef), (.one .undef), (.one .undef), (.one .undef), (.one .undef), (.one .undef), (.one .undef), (.one .undef), (.one .undef), (.one .undef), (.one .undef), (.one .undef), (.one .undef), (.one .undef), (.one .undef), (.one .undef), (.one .undef), (.one .undef), (.one .undef), (.one .undef), (.one .undef), (.one .undef), (.one .undef), (.one .undef), (.one .undef), (.one .undef), (.one .undef), (.one .undef), (.one .undef), (.one .undef), (.one .undef), (.one .undef), (.one .undef), (.one .undef), (.one .undef), (.one .undef), (.one .undef), (.one .undef), (.one .undef), (.one .undef), (.one .undef), (.one .undef), (.one .undef), (.one .undef), (.one .undef), (.one .undef), (.one .undef)], []⟩⟩]
noncomputable def L2 : LC := ⟨2, ⟨2, [0, 5, 1], []⟩, sh2, outs2, pre2, fn2⟩
noncomputable def H : List LC := [L2]
noncomputable def code (i : Nat) : Code := (loopsOf (bodyOf Try.f145)).getD i .skip
theorem step2 (x1 : (List Answer)) (x2 : Int) (x3 : Int) : L2.step E H (code 0) (x1, (x2, (x3, ()))) = raw2 x1 x2 x3 := by kernel_rfl
theorem lok2 : LoopOk E H (code 0) L2 := ⟨mu2, fun ⟨x1, x2, x3, ()⟩ hp => rounds_ok (step2 x1 x2 x3) (ok2 x1 x2 x3 hp)⟩
theorem run (x0 : (List Answer)) (x1 : Int) : runFn E H Try.f145 fs.ps fs.rs (x0, (x1, ())) = raw x0 x1 := by kernel_rfl
theorem env : EnvOk Try.prog E := env_cons laws_markText.known (env_nil tys)
theorem loops : ∀ c, Try.f145.body = some c → LoopsOk E H c := loops_of (by kernel_rfl) (by kernel_rfl) fun i l h => match i, h with
  | 0, h => Option.some.inj h ▸ lok2
  | n + 1, h => by cases h
theorem sound : Sound Try.prog 145 fs := fn_sound env mixed Try.func145 H loops fun ⟨x0, x1, ()⟩ hw hp => (run x0 x1).trans (eq x0 x1 hw hp)
theorem known : Seen Try.prog 145 fs := ⟨sound, _, Try.func145, by kernel_rfl, by kernel_rfl⟩
end laws_heldAnswerS
namespace laws_eqRow
noncomputable def fs : FS := ⟨[(.val (.pair (.int .i64) (.pair (.int .i64) (.pair (.sl 228 (.pair (.int .i64) (.pair .str (.pair .str (.pair (.int .i64) (.pair (.int .i64) .unit)))))) .unit))) .f), (.val (.pair (.int .i64) (.pair (.int .i64) (.pair (.sl 228 (.pair (.int .i64) (.pair .str (.pair .str (.pair (.int .i64) (.pair (.int .i64) .unit)))))) .unit))) .f)], [(.bool, .o)], fun _ => true, fun x => ((), ((laws_eqRow x.1 x.2.1), ()))⟩
noncomputable def E : Env := ⟨theta, [(198, laws_eqItemS.fs)], []⟩
noncomputable def H : List LC := []
noncomputable def code (i : Nat) : Code := (loopsOf (bodyOf Try.f174)).getD i .skip
theorem run (x0 : Row) (x1 : Row) : runFn E H Try.f174 fs.ps fs.rs (x0, (x1, ())) = raw x0 x1 := by kernel_rfl
theorem env : EnvOk Try.prog E := env_cons laws_eqItemS.known (env_nil tys)
theorem loops : ∀ c, Try.f174.body = some c → LoopsOk E H c := loops_none (by kernel_rfl)
theorem sound : Sound Try.prog 174 fs := fn_sound env mixed Try.func174 H loops fun ⟨x0, x1, ()⟩ hw _ => (run x0 x1).trans (eq x0 x1 hw)
theorem known : Seen Try.prog 174 fs := ⟨sound, _, Try.func174, by kernel_rfl, by kernel_rfl⟩
end laws_eqRow
namespace laws_eqMaker
noncomputable def fs : FS := ⟨[(.val (.pair (.int .i64) (.pair (.int .i64) (.pair (.int .i64) (.pair (.int .i64) (.pair (.sl 236 (.pair (.int .i64) (.pair (.int .i64) .unit))) .unit))))) .f), (.val (.pair (.int .i64) (.pair (.int .i64) (.pair (.int .i64) (.pair (.int .i64) (.pair (.sl 236 (.pair (.int .i64) (.pair (.int .i64) .unit))) .unit))))) .f)], [(.bool, .o)], fun _ => true, fun x => ((), ((laws_eqMaker x.1 x.2.1), ()))⟩
noncomputable def E : Env := ⟨theta, [(199, laws_eqMarkS.fs)], []⟩
noncomputable def H : List LC := []
noncomputable def code (i : Nat) : Code := (loopsOf (bodyOf Try.f175)).getD i .skip
theorem run (x0 : Maker) (x1 : Maker) : runFn E H Try.f175 fs.ps fs.rs (x0, (x1, ())) = raw x0 x1 := by kernel_rfl
theorem env : EnvOk Try.prog E := env_cons laws_eqMarkS.known (env_nil tys)
theorem loops : ∀ c, Try.f175.body = some c → LoopsOk E H c := loops_none (by kernel_rfl)
theorem sound : Sound Try.prog 175 fs := fn_sound env mixed Try.func175 H loops fun ⟨x0, x1, ()⟩ hw _ => (run x0 x1).trans (eq x0 x1 hw)
theorem known : Seen Try.prog 175 fs := ⟨sound, _, Try.func175, by kernel_rfl, by kernel_rfl⟩
end laws_eqMaker
namespace laws_eqGroup
noncomputable def fs : FS := ⟨[(.val (.pair (.int .i64) (.pair (.sl 3 (.int .i64)) (.pair (.sl 3 (.int .i64)) (.pair (.sl 3 (.int .i64)) .unit)))) .f), (.val (.pair (.int .i64) (.pair (.sl 3 (.int .i64)) (.pair (.sl 3 (.int .i64)) (.pair (.sl 3 (.int .i64)) .unit)))) .f)], [(.bool, .o)], fun _ => true, fun x => ((), ((laws_eqGroup x.1 x.2.1), ()))⟩
noncomputable def E : Env := ⟨theta, [(134, laws_eqIntS.fs)], []⟩
noncomputable def H : List LC := []
noncomputable def code (i : Nat) : Code := (loopsOf (bodyOf Try.f176)).getD i .skip
theorem run (x0 : Group) (x1 : Group) : runFn E H Try.f176 fs.ps fs.rs (x0, (x1, ())) = raw x0 x1 := by kernel_rfl
theorem env : EnvOk Try.prog E := env_cons laws_eqIntS.known (env_nil tys)
theorem loops : ∀ c, Try.f176.body = some c → LoopsOk E H c := loops_none (by kernel_rfl)
theorem sound : Sound Try.prog 176 fs := fn_sound env mixed Try.func176 H loops fun ⟨x0, x1, ()⟩ hw _ => (run x0 x1).trans (eq x0 x1 hw)
theorem known : Seen Try.prog 176 fs := ⟨sound, _, Try.func176, by kernel_rfl, by kernel_rfl⟩
end laws_eqGroup
namespace laws_eqRowS
noncomputable def fs : FS := ⟨[(.val (.sl 186 (.pair (.int .i64) (.pair (.int .i64) (.pair (.sl 228 (.pair (.int .i64) (.pair .str (.pair .str (.pair (.int .i64) (.pair (.int .i64) .unit)))))) .unit)))) .f), (.val (.sl 186 (.pair (.int .i64) (.pair (.int .i64) (.pair (.sl 228 (.pair (.int .i64) (.pair .str (.pair .str (.pair (.int .i64) (.pair (.int .i64) .unit)))))) .unit)))) .f)], [(.bool, .o)], fun _ => true, fun x => ((), ((laws_eqRowS x.1 x.2.1), ()))⟩
noncomputable def E : Env := ⟨theta, [(174, laws_eqRow.fs)], []⟩
noncomputable def sh4 : ShSt := ⟨[(.one (.dat (.sl 186 (.pair (.int .i64) (.pair (.int .i64) (.pair (.sl 228 (.pair (.int .i64) (.pair .str (.pair .str (.pair (.int .i64) (.pair (.int .i64) .unit)))))) .unit)))))), (.one (.dat (.sl 186 (.pair (.int .i64) (.pair (.int .i64) (.pair (.sl 228 (.pair (.int .i64) (.pair .str (.pair .str (.pair (.int .i64) (.pair (.int .i64) .unit)))))) .unit)))))), (.one .undef), (.one .undef), (.one .undef), (.one (.dat (.int .i64))), (.one .undef), (.one .undef), (.one .undef), (.one .undef), (.one .undef), (.one .undef), (.one .undef), (.one .undef), (.one .undef), (.one .undef), (.one .undef), (.one .undef), (.one .undef), (.one .undef), (.one .undef), (.one .undef), (.one .undef), (.one .undef), (.one .undef), (.one .undef), (.one .undef)], []⟩
noncomputable def outs4 : List OutC := [⟨.ret, ⟨0, [4], []⟩, ⟨[(.one .undef), (.one .undef), (.one .undef), (.one .undef), (.one (.dat .bool)), (.one .undef), (.one .undef), (.one .undef), (.one .undef), (.one .undef), (.one .undef), (.one .undef), (.one .undef), (.one .undef), (.one .undef), (.one .undef), (.one .undef), (.one .undef), (.one .undef), (.one .undef), (.one .undef), (.one .undef), (.one .undef), (.one .undef), (.one .undef), (.one .undef), (.one .undef)], []⟩⟩, ⟨(.exit 0), ⟨0, [], []⟩, ⟨[(.one .undef), (.one .undef), (.one .undef), (.one .undef), (.one .undef), (.one .undef), (.one .undef), (.one .undef), (.one .undef), (.one .undef), (.one .undef), (.one .undef), (.one .undef), (.one .undef), (.one .undef), (.one .undef), (.one .undef), (.one .undef), (.one .undef), (.one .undef), (.one .undef), (.one .undef), (.one .undef), (.one .undef), (.one .undef), (.one .undef), (.one .undef)], []⟩⟩]
noncomputable def L4 : LC := ⟨4, ⟨4, [1, 0, 5], []⟩, sh4, outs4, pre4, fn4⟩
noncomputable def H : List LC := [L4]
noncomputable def code (i : Nat) : Code := (loopsOf (bodyOf Try.f131)).getD i .skip
theorem step4 (x1 : (List Row)) (x2 : (List Row)) (x3 : Int) : L4.step E H (code 0) (x1, (x2, (x3, ()))) = raw4 x1 x2 x3 := by kernel_rfl
theorem lok4 : LoopOk E H (code 0) L4 := ⟨mu4, fun ⟨x1, x2, x3, ()⟩ hp => rounds_ok (step4 x1 x2 x3) (ok4 x1 x2 x3 hp)⟩
theorem run (x0 : (List Row)) (x1 : (List Row)) : runFn E H Try.f131 fs.ps fs.rs (x0, (x1, ())) = raw x0 x1 := by kernel_rfl
theorem env : EnvOk Try.prog E := env_cons laws_eqRow.known (env_nil tys)
theorem loops : ∀ c, Try.f131.body = some c → LoopsOk E H c := loops_of (by kernel_rfl) (by kernel_rfl) fun i l h => match i, h with
  | 0, h => Option.some.inj h ▸ lok4
  | n + 1, h => by cases h
theorem sound : Sound Try.prog 131 fs := fn_sound env mixed Try.func131 H loops fun ⟨x0, x1, ()⟩ hw _ => (run x0 x1).trans (eq x0 x1 hw)
theorem known : Seen Try.prog 131 fs := ⟨sound, _, Try.func131, by kernel_rfl, by kernel_rfl⟩
end laws_eqRowS
namespace laws_markRowS
noncomputable def fs : FS := ⟨[(.mut (.sl 186 (.pair (.int .i64) (.pair (.int .i64) (.pair (.sl 228 (.pair (.int .i64) (.pair .str (.pair .str (.pair (.int .i64) (.pair (.int .i64) .unit)))))) .unit))))), (.val (.int .i64) .f)], [((.int .i64), .o)], fun x => laws_markRowS.pre x.1 x.2.1, fun x => (((laws_markRowS x.1 x.2.1).1, ()), ((laws_markRowS x.1 x.2.1).2, ()))⟩
noncomputable def E : Env := ⟨theta, [(178, laws_markItemS.fs)], []⟩
noncomputable def sh2 : ShSt := ⟨[(.one (.arr 40000001)), (.one (.dat (.int .i64))), (.one .undef), (.one .undef), (.one .undef), (.one (.dat (.int .i64))), (.one .undef), (.one .undef), (.one .undef), (.one .undef), (.one .undef), (.one .undef), (.one .undef), (.one .undef), (.one .undef), (.one .undef), (.one .undef), (.one .undef), (.one .undef), (.one .undef), (.one .undef), (.one .undef), (.one .undef), (.one .undef), (.one .undef), (.one .undef), (.one .undef), (.one .undef), (.one .undef), (.one .undef), (.one .undef), (.one .undef), (.one .undef), (.one .undef)], [(40000001, (.arr 186 (.pair (.int .i64) (.pair (.int .i64) (.pair (.sl 228 (.pair (.int .i64) (.pair .str (.pair .str (.pair (.int .i64) (.pair (.int .i64) .unit)))))) .unit)))))]⟩
noncomputable def outs2 : List OutC := [⟨(.exit 0), ⟨0, [1, 0], []⟩, ⟨[(.one (.arr 40000001)), (.one (.dat (.int .i64))), (.one .undef), (.one .undef), (.one .undef), (.one .undef), (.one .undef), (.one .undef), (.one .undef), (.one .undef), (.one .undef), (.one .undef), (.one .undef), (.one .undef), (.one .undef), (.one .undef), (.one .undef), (.one .undef), (.one .undef), (.one .undef), (.one .undef), (.one .undef), (.one .undef), (.one .undef), (.one .undef), (.one .undef), (.one .undef), (.one .undef), (.one .undef), (.one .undef), (.one .undef), (.one .undef), (.one .undef), (.one .undef)], [(40000001, (.arr 186 (.pair (.int .i64) (.pair (.int .i64) (.pair (.sl 228 (.pair (.int .i64) (.pair .str (.pair .str (.pair (.int .i64) (.pair (.int .i64) .unit)))))) .unit)))))]⟩⟩]
noncomputable def L2 : LC := ⟨2, ⟨2, [0, 5, 1], []⟩, sh2, outs2, pre2, fn2⟩
noncomputable def H : List LC := [L2]
noncomputable def code (i : Nat) : Code := (loopsOf (bodyOf Try.f136)).getD i .skip
theorem step2 (x1 : Int) (x2 : Int) (x3 : (List Row)) : L2.step E H (code 0) (x1, (x2, (x3, ()))) = raw2 x1 x2 x3 := by kernel_rfl
theorem lok2 : LoopOk E H (code 0) L2 := ⟨mu2, fun ⟨x1, x2, x3, ()⟩ hp => rounds_ok (step2 x1 x2 x3) (ok2 x1 x2 x3 hp)⟩
theorem run (x0 : (List Row)) (x1 : Int) : runFn E H Try.f136 fs.ps fs.rs (x0, (x1, ())) = raw x0 x1 := by kernel_rfl
theorem env : EnvOk Try.prog E := env_cons laws_markItemS.known (env_nil tys)
theorem loops : ∀ c, Try.f136.body = some c → LoopsOk E H c := loops_of (by kernel_rfl) (by kernel_rfl) fun i l h => match i, h with
  | 0, h => Option.some.inj h ▸ lok2
  | n + 1, h => by cases h
theorem sound : Sound Try.prog 136 fs := fn_sound env mixed Try.func136 H loops fun ⟨x0, x1, ()⟩ hw hp => (run x0 x1).trans (eq x0 x1 hw hp)
theorem known : Seen Try.prog 136 fs := ⟨sound, _, Try.func136, by kernel_rfl, by kernel_rfl⟩
end laws_markRowS
namespace laws_heldRowS
noncomputable def fs : FS := ⟨[(.val (.sl 186 (.pair (.int .i64) (.pair (.int .i64) (.pair (.sl 228 (.pair (.int .i64) (.pair .str (.pair .str (.pair (.int .i64) (.pair (.int .i64) .unit)))))) .unit)))) .f), (.val (.int .i64) .f)], [((.int .i64), .o)], fun x => laws_heldRowS.pre x.1 x.2.1, fun x => ((), ((laws_heldRowS x.1 x.2.1), ()))⟩
noncomputable def E : Env := ⟨theta, [(180, laws_heldItemS.fs)], []⟩
noncomputable def sh2 : ShSt := ⟨[(.one (.dat (.sl 186 (.pair (.int .i64) (.pair (.int .i64) (.pair (.sl 228 (.pair (.int .i64) (.pair .str (.pair .str (.pair (.int .i64) (.pair (.int .i64) .unit)))))) .unit)))))), (.one (.dat (.int .i64))), (.one .undef), (.one .undef), (.one .undef), (.one (.dat (.int .i64))), (.one .undef), (.one .undef), (.one .undef), (.one .undef), (.one .undef), (.one .undef), (.one .undef), (.one .undef), (.one .undef), (.one .undef), (.one .undef), (.one .undef), (.one .undef), (.one .undef), (.one .undef), (.one .undef), (.one .undef), (.one .undef), (.one .undef), (.one .undef), (.one .undef), (.one .undef), (.one .undef), (.one .undef), (.one .undef), (.one .undef), (.one .undef), (.one .undef), (.one .undef), (.one .undef), (.one .undef), (.one .undef), (.one .undef), (.one .undef)], []⟩
noncomputable def outs2 : List OutC := [⟨.ret, ⟨0, [4], []⟩, ⟨[(.one .undef), (.one .undef), (.one .undef), (.one .undef), (.one (.dat (.int .i64))), (.one .undef), (.one .undef), (.one .undef), (.one .undef), (.one .undef), (.one .undef), (.one .undef), (.one .undef), (.one .undef), (.one .undef), (.one .undef), (.one .undef), (.one .undef), (.one .undef), (.one .undef), (.one .undef), (.one .undef), (.one .undef), (.one .undef), (.one .undef), (.one .undef), (.one .undef), (.one .undef), (.one .undef), (.one .undef), (.one .undef), (.one .undef), (.one .undef), (.one .undef), (.one .undef), (.one .undef), (.one .undef), (.one .undef), (.one .undef), (.one .undef)], []⟩⟩, ⟨(.exit 0), ⟨0, [1], []⟩, ⟨[(.one .undef), (.one (.dat (.int .i64))), (.one .undef), (.one .undef), (.one .undef), (.one .undef), (.one .undef), (.one .undef), (.one .undef), (.one .undef), (.one .undef), (.one .undef), (.one .undef), (.one .undef), (.one .undef), (.one .undef), (.one .undef), (.one .undef), (.one .undef), (.one .undef), (.one .undef), (.one .undef), (.one .undef), (.one .undef), (.one .undef), (.one .undef), (.one .undef), (.one .undef), (.one .undef), (.one .undef), (.one .undef), (.one .undef), (.one .undef), (.one .undef), (.one .undef), (.one .undef), (.one .undef), (.one .undef), (.one .undef), (.one .undef)], []⟩⟩]
noncomputable def L2 : LC := ⟨2, ⟨2, [0, 5, 1], []⟩, sh2, outs2, pre2, fn2⟩
noncomputable def H : List LC := [L2]
noncomputable def code (i : Nat) : Code := (loopsOf (bodyOf Try.f141)).getD i .skip
theorem step2 (x1 : (List Row)) (x2 : Int) (x3 : Int) : L2.step E H (code 0) (x1, (x2, (x3, ()))) = raw2 x1 x2 x3 := by kernel_rfl
theorem lok2 : LoopOk E H (code 0) L2 := ⟨mu2, fun ⟨x1, x2, x3, ()⟩ hp => rounds_ok (step2 x1 x2 x3) (ok2 x1 x2 x3 hp)⟩
theorem run (x0 : (List Row)) (x1 : Int) : runFn E H Try.f141 fs.ps fs.rs (x0, (x1, ())) = raw x0 x1 := by kernel_rfl
theorem env : EnvOk Try.prog E := env_cons laws_heldItemS.known (env_nil tys)
theorem loops : ∀ c, Try.f141.body = some c → LoopsOk E H c := loops_of (by kernel_rfl) (by kernel_rfl) fun i l h => match i, h with
  | 0, h => Option.some.inj h ▸ lok2
  | n + 1, h => by cases h
theorem sound : Sound Try.prog 141 fs := fn_sound env mixed Try.func141 H loops fun ⟨x0, x1, ()⟩ hw hp => (run x0 x1).trans (eq x0 x1 hw hp)
theorem known : Seen Try.prog 141 fs := ⟨sound, _, Try.func141, by kernel_rfl, by kernel_rfl⟩
end laws_heldRowS
namespace laws_eqMakerS
noncomputable def fs : FS := ⟨[(.val (.sl 199 (.pair (.int .i64) (.pair (.int .i64) (.pair (.int .i64) (.pair (.int .i64) (.pair (.sl 236 (.pair (.int .i64) (.pair (.int .i64) .unit))) .unit)))))) .f), (.val (.sl 199 (.pair (.int .i64) (.pair (.int .i64) (.pair (.int .i64) (.pair (.int .i64) (.pair (.sl 236 (.pair (.int .i64) (.pair (.int .i64) .unit))) .unit)))))) .f)], [(.bool, .o)], fun _ => true, fun x => ((), ((laws_eqMakerS x.1 x.2.1), ()))⟩
noncomputable def E : Env := ⟨theta, [(175, laws_eqMaker.fs)], []⟩
noncomputable def sh4 : ShSt := ⟨[(.one (.dat (.sl 199 (.pair (.int .i64) (.pair (.int .i64) (.pair (.int .i64) (.pair (.int .i64) (.pair (.sl 236 (.pair (.int .i64) (.pair (.int .i64) .unit))) .unit)))))))), (.one (.dat (.sl 199 (.pair (.int .i64) (.pair (.int .i64) (.pair (.int .i64) (.pair (.int .i64) (.pair (.sl 236 (.pair (.int .i64) (.pair (.int .i64) .unit))) .unit)))))))), (.one .undef), (.one .undef), (.one .undef), (.one (.dat (.int .i64))), (.one .undef), (.one .undef), (.one .undef), (.one .undef), (.one .undef), (.one .undef), (.one .undef), (.one .undef), (.one .undef), (.one .undef), (.one .undef), (.one .undef), (.one .undef), (.one .undef), (.one .undef), (.one .undef), (.one .undef), (.one .undef), (.one .undef), (.one .undef), (.one .undef)], []⟩
noncomputable def outs4 : List OutC := [⟨.ret, ⟨0, [4], []⟩, ⟨[(.one .undef), (.one .undef), (.one .undef), (.one .undef), (.one (.dat .bool)), (.one .undef), (.one .undef), (.one .undef), (.one .undef), (.one .undef), (.one .undef), (.one .undef), (.one .undef), (.one .undef), (.one .undef), (.one .undef), (.one .undef), (.one .undef), (.one .undef), (.one .undef), (.one .undef), (.one .undef), (.one .undef), (.one .undef), (.one .undef), (.one .undef), (.one .undef)], []⟩⟩, ⟨(.exit 0), ⟨0, [], []⟩, ⟨[(.one .undef), (.one .undef), (.one .undef), (.one .undef), (.one .undef), (.one .undef), (.one .undef), (.one .undef), (.one .undef), (.one .undef), (.one .undef), (.one .undef), (.one .undef), (.one .undef), (.one .undef), (.one .undef), (.one .undef), (.one .undef), (.one .undef), (.one .undef), (.one .undef), (.one .undef), (.one .undef), (.one .undef), (.one .undef), (.one .undef), (.one .undef)], []⟩⟩]
noncomputable def L4 : LC := ⟨4, ⟨4, [1, 0, 5], []⟩, sh4, outs4, pre4, fn4⟩
noncomputable def H : List LC := [L4]
noncomputable def code (i : Nat) : Code := (loopsOf (bodyOf Try.f132)).getD i .skip
theorem step4 (x1 : (List Maker)) (x2 : (List Maker)) (x3 : Int) : L4.step E H (code 0) (x1, (x2, (x3, ()))) = raw4 x1 x2 x3 := by kernel_rfl
theorem lok4 : LoopOk E H (code 0) L4 := ⟨mu4, fun ⟨x1, x2, x3, ()⟩ hp => rounds_ok (step4 x1 x2 x3) (ok4 x1 x2 x3 hp)⟩
theorem run (x0 : (List Maker)) (x1 : (List Maker)) : runFn E H Try.f132 fs.ps fs.rs (x0, (x1, ())) = raw x0 x1 := by kernel_rfl
theorem env : EnvOk Try.prog E := env_cons laws_eqMaker.known (env_nil tys)
theorem loops : ∀ c, Try.f132.body = some c → LoopsOk E H c := loops_of (by kernel_rfl) (by kernel_rfl) fun i l h => match i, h with
  | 0, h => Option.some.inj h ▸ lok4
  | n + 1, h => by cases h
theorem sound : Sound Try.prog 132 fs := fn_sound env mixed Try.func132 H loops fun ⟨x0, x1, ()⟩ hw _ => (run x0 x1).trans (eq x0 x1 hw)
theorem known : Seen Try.prog 132 fs := ⟨sound, _, Try.func132, by kernel_rfl, by kernel_rfl⟩
end laws_eqMakerS
namespace laws_markMakerS
noncomputable def fs : FS := ⟨[(.mut (.sl 199 (.pair (.int .i64) (.pair (.int .i64) (.pair (.int .i64) (.pair (.int .i64) (.pair (.sl 236 (.pair (.int .i64) (.pair (.int .i64) .unit))) .unit))))))), (.val (.int .i64) .f)], [((.int .i64), .o)], fun x => laws_markMakerS.pre x.1 x.2.1, fun x => (((laws_markMakerS x.1 x.2.1).1, ()), ((laws_markMakerS x.1 x.2.1).2, ()))⟩
noncomputable def E : Env := ⟨theta, [(179, laws_markMarkS.fs)], []⟩
noncomputable def sh2 : ShSt := ⟨[(.one (.arr 40000001)), (.one (.dat (.int .i64))), (.one .undef), (.one .undef), (.one .undef), (.one (.dat (.int .i64))), (.one .undef), (.one .undef), (.one .undef), (.one .undef), (.one .undef), (.one .undef), (.one .undef), (.one .undef), (.one .undef), (.one .undef), (.one .undef), (.one .undef), (.one .undef), (.one .undef), (.one .undef), (.one .undef), (.one .undef), (.one .undef), (.one .undef), (.one .undef), (.one .undef), (.one .undef), (.one .undef), (.one .undef), (.one .undef), (.one .undef), (.one .undef), (.one .undef), (.one .undef), (.one .undef), (.one .undef), (.one .undef), (.one .undef), (.one .undef), (.one .undef), (.one .undef), (.one .undef), (.one .undef), (.one .undef), (.one .undef), (.one .undef), (.one .undef)], [(40000001, (.arr 199 (.pair (.int .i64) (.pair (.int .i64) (.pair (.int .i64) (.pair (.int .i64) (.pair (.sl 236 (.pair (.int .i64) (.pair (.int .i64) .unit))) .unit)))))))]⟩
noncomputable def outs2 : List OutC := [⟨(.exit 0), ⟨0, [1, 0], []⟩, ⟨[(.one (.arr 40000001)), (.one (.dat (.int .i64))), (.one .undef), (.one .undef), (.one .undef), (.one .undef), (.one .undef), (.one .undef), (.one .undef), (.one .undef), (.one .undef), (.one .undef), (.one .undef), (.one .undef), (.one .undef), (.one .undef), (.one .undef), (.one .undef), (.one .undef), (.one .undef), (.one .undef), (.one .undef), (.one .undef), (.one .undef), (.one .undef), (.one .undef), (.one .undef), (.one .undef), (.one .undef), (.one .undef), (.one .undef), (.one .undef), (.one .undef), (.one .undef), (.one .undef), (.one .undef), (.one .undef), (.one .undef), (.one .undef), (.one .undef), (.one .undef), (.one .undef), (.one .undef), (.one .undef), (.one .undef), (.one .undef), (.one .undef), (.one .undef)], [(40000001, (.arr 199 (.pair (.int .i64) (.pair (.int .i64) (.pair (.int .i64) (.pair (.int .i64) (.pair (.sl 236 (.pair (.int .i64) (.pair (.int .i64) .unit))) .unit)))))))]⟩⟩]
noncomputable def L2 : LC := ⟨2, ⟨2, [0, 5, 1], []⟩, sh2, outs2, pre2, fn2⟩
noncomputable def H : List LC := [L2]
noncomputable def code (i : Nat) : Code := (loopsOf (bodyOf Try.f137)).getD i .skip
theorem step2 (x1 : Int) (x2 : Int) (x3 : (List Maker)) : L2.step E H (code 0) (x1, (x2, (x3, ()))) = raw2 x1 x2 x3 := by kernel_rfl
theorem lok2 : LoopOk E H (code 0) L2 := ⟨mu2, fun ⟨x1, x2, x3, ()⟩ hp => rounds_ok (step2 x1 x2 x3) (ok2 x1 x2 x3 hp)⟩
theorem run (x0 : (List Maker)) (x1 : Int) : runFn E H Try.f137 fs.ps fs.rs (x0, (x1, ())) = raw x0 x1 := by kernel_rfl
theorem env : EnvOk Try.prog E := env_cons laws_markMarkS.known (env_nil tys)
theorem loops : ∀ c, Try.f137.body = some c → LoopsOk E H c := loops_of (by kernel_rfl) (by kernel_rfl) fun i l h => match i, h with
  | 0, h => Option.some.inj h ▸ lok2
  | n + 1, h => by cases h
theorem sound : Sound Try.prog 137 fs := fn_sound env mixed Try.func137 H loops fun ⟨x0, x1, ()⟩ hw hp => (run x0 x1).trans (eq x0 x1 hw hp)
theorem known : Seen Try.prog 137 fs := ⟨sound, _, Try.func137, by kernel_rfl, by kernel_rfl⟩
end laws_markMakerS
namespace laws_heldMakerS
noncomputable def fs : FS := ⟨[(.val (.sl 199 (.pair (.int .i64) (.pair (.int .i64) (.pair (.int .i64) (.pair (.int .i64) (.pair (.sl 236 (.pair (.int .i64) (.pair (.int .i64) .unit))) .unit)))))) .f), (.val (.int .i64) .f)], [((.int .i64), .o)], fun x => laws_heldMakerS.pre x.1 x.2.1, fun x => ((), ((laws_heldMakerS x.1 x.2.1), ()))⟩
noncomputable def E : Env := ⟨theta, [(181, laws_heldMarkS.fs)], []⟩
noncomputable def sh2 : ShSt := ⟨[(.one (.dat (.sl 199 (.pair (.int .i64) (.pair (.int .i64) (.pair (.int .i64) (.pair (.int .i64) (.pair (.sl 236 (.pair (.int .i64) (.pair (.int .i64) .unit))) .unit)))))))), (.one (.dat (.int .i64))), (.one .undef), (.one .undef), (.one .undef), (.one (.dat (.int .i64))), (.one .undef), (.one .undef), (.one .undef), (.one .undef), (.one .undef), (.one .undef), (.one .undef), (.one .undef), (.one .undef), (.one .undef), (.one .undef), (.one .undef), (.one .undef), (.one .undef), (.one .undef), (.one .undef), (.one .undef), (.one .undef), (.one .undef), (.one .undef), (.one .undef), (.one .undef), (.one .undef), (.one .undef), (.one .undef), (.one .undef), (.one .undef), (.one .undef), (.one .undef), (.one .undef), (.one .undef), (.one .undef), (.one .undef), (.one .undef), (.one .undef), (.one .undef), (.one .undef), (.one .undef), (.one .undef), (.one .undef), (.one .undef), (.one .undef), (.one .undef), (.one .undef), (.one .undef), (.one .undef), (.one .undef), (.one .undef), (.one .undef), (.one .undef), (.one .undef), (.one .undef)], []⟩
noncomputable def outs2 : List OutC := [⟨.ret, ⟨0, [4], []⟩, ⟨[(.one .undef), (.one .undef), (.one .undef), (.one .undef), (.one (.dat (.int .i64))), (.one .undef), (.one .undef), (.one .undef), (.one .undef), (.one .undef), (.one .undef), (.one .undef), (.one .undef), (.one .undef), (.one .undef), (.one .undef), (.one .undef), (.one .undef), (.one .undef), (.one .undef), (.one .undef), (.one .undef), (.one .undef), (.one .undef), (.one .undef), (.one .undef), (.one .undef), (.one .undef), (.one .undef), (.one .undef), (.one .undef), (.one .undef), (.one .undef), (.one .undef), (.one .undef), (.one .undef), (.one .undef), (.one .undef), (.one .undef), (.one .undef), (.one .undef), (.one .undef), (.one .undef), (.one .undef), (.one .undef), (.one .undef), (.one .undef), (.one .undef), (.one .undef), (.one .undef), (.one .undef), (.one .undef), (.one .undef), (.one .undef), (.one .undef), (.one .undef), (.one .undef), (.one .undef)], []⟩⟩, ⟨(.exit 0), ⟨0, [1], []⟩, ⟨[(.one .undef), (.one (.dat (.int .i64))), (.one .undef), (.one .undef), (.one .undef), (.one .undef), (.one .undef), (.one .undef), (.one .undef), (.one .undef), (.one .undef), (.one .undef), (.one .undef), (.one .undef), (.one .undef), (.one .undef), (.one .undef), (.one .undef), (.one .undef), (.one .undef), (.one .undef), (.one .undef), (.one .undef), (.one .undef), (.one .undef), (.one .undef), (.one .undef), (.one .undef), (.one .undef), (.one .undef), (.one .undef), (.one .undef), (.one .undef), (.one .undef), (.one .undef), (.one .undef), (.one .undef), (.one .undef), (.one .undef), (.one .undef), (.one .undef), (.one .undef), (.one .undef), (.one .undef), (.one .undef), (.one .undef), (.one .undef), (.one .undef), (.one .undef), (.one .undef), (.one .undef), (.one .undef), (.one .undef), (.one .undef), (.one .undef), (.one .undef), (.one .undef), (.one .undef)], []⟩⟩]
noncomputable def L2 : LC := ⟨2, ⟨2, [0, 5, 1], []⟩, sh2, outs2, pre2, fn2⟩
noncomputable def H : List LC := [L2]
noncomputable def code (i : Nat) : Code := (loopsOf (bodyOf Try.f142)).getD i .skip
theorem step2 (x1 : (List Maker)) (x2 : Int) (x3 : Int) : L2.step E H (code 0) (x1, (x2, (x3, ()))) = raw2 x1 x2 x3 := by kernel_rfl
theorem lok2 : LoopOk E H (code 0) L2 := ⟨mu2, fun ⟨x1, x2, x3, ()⟩ hp => rounds_ok (step2 x1 x2 x3) (ok2 x1 x2 x3 hp)⟩
theorem run (x0 : (List Maker)) (x1 : Int) : runFn E H Try.f142 fs.ps fs.rs (x0, (x1, ())) = raw x0 x1 := by kernel_rfl
theorem env : EnvOk Try.prog E := env_cons laws_heldMarkS.known (env_nil tys)
theorem loops : ∀ c, Try.f142.body = some c → LoopsOk E H c := loops_of (by kernel_rfl) (by kernel_rfl) fun i l h => match i, h with
  | 0, h => Option.some.inj h ▸ lok2
  | n + 1, h => by cases h
theorem sound : Sound Try.prog 142 fs := fn_sound env mixed Try.func142 H loops fun ⟨x0, x1, ()⟩ hw hp => (run x0 x1).trans (eq x0 x1 hw hp)
theorem known : Seen Try.prog 142 fs := ⟨sound, _, Try.func142, by kernel_rfl, by kernel_rfl⟩
end laws_heldMakerS
namespace laws_eqGroupS
noncomputable def fs : FS := ⟨[(.val (.sl 166 (.pair (.int .i64) (.pair (.sl 3 (.int .i64)) (.pair (.sl 3 (.int .i64)) (.pair (.sl 3 (.int .i64)) .unit))))) .f), (.val (.sl 166 (.pair (.int .i64) (.pair (.sl 3 (.int .i64)) (.pair (.sl 3 (.int .i64)) (.pair (.sl 3 (.int .i64)) .unit))))) .f)], [(.bool, .o)], fun _ => true, fun x => ((), ((laws_eqGroupS x.1 x.2.1), ()))⟩
noncomputable def E : Env := ⟨theta, [(176, laws_eqGroup.fs)], []⟩
noncomputable def sh4 : ShSt := ⟨[(.one (.dat (.sl 166 (.pair (.int .i64) (.pair (.sl 3 (.int .i64)) (.pair (.sl 3 (.int .i64)) (.pair (.sl 3 (.int .i64)) .unit))))))), (.one (.dat (.sl 166 (.pair (.int .i64) (.pair (.sl 3 (.int .i64)) (.pair (.sl 3 (.int .i64)) (.pair (.sl 3 (.int .i64)) .unit))))))), (.one .undef), (.one .undef), (.one .undef), (.one (.dat (.int .i64))), (.one .undef), (.one .undef), (.one .undef), (.one .undef), (.one .undef), (.one .undef), (.one .undef), (.one .undef), (.one .undef), (.one .undef), (.one .undef), (.one .undef), (.one .undef), (.one .undef), (.one .undef), (.one .undef), (.one .undef), (.one .undef), (.one .undef), (.one .undef), (.one .undef)], []⟩
noncomputable def outs4 : List OutC := [⟨.ret, ⟨0, [4], []⟩, ⟨[(.one .undef), (.one .undef), (.one .undef), (.one .undef), (.one (.dat .bool)), (.one .undef), (.one .undef), (.one .undef), (.one .undef), (.one .undef), (.one .undef), (.one .undef), (.one .undef), (.one .undef), (.one .undef), (.one .undef), (.one .undef), (.one .undef), (.one .undef), (.one .undef), (.one .undef), (.one .undef), (.one .undef), (.one .undef), (.one .undef), (.one .undef), (.one .undef)], []⟩⟩, ⟨(.exit 0), ⟨0, [], []⟩, ⟨[(.one .undef), (.one .undef), (.one .undef), (.one .undef), (.one .undef), (.one .undef), (.one .undef), (.one .undef), (.one .undef), (.one .undef), (.one .undef), (.one .undef), (.one .undef), (.one .undef), (.one .undef), (.one .undef), (.one .undef), (.one .undef), (.one .undef), (.one .undef), (.one .undef), (.one .undef), (.one .undef), (.one .undef), (.one .undef), (.one .undef), (.one .undef)], []⟩⟩]
noncomputable def L4 : LC := ⟨4, ⟨4, [1, 0, 5], []⟩, sh4, outs4, pre4, fn4⟩
noncomputable def H : List LC := [L4]
noncomputable def code (i : Nat) : Code := (loopsOf (bodyOf Try.f133)).getD i .skip
theorem step4 (x1 : (List Group)) (x2 : (List Group)) (x3 : Int) : L4.step E H (code 0) (x1, (x2, (x3, ()))) = raw4 x1 x2 x3 := by kernel_rfl
theorem lok4 : LoopOk E H (code 0) L4 := ⟨mu4, fun ⟨x1, x2, x3, ()⟩ hp => rounds_ok (step4 x1 x2 x3) (ok4 x1 x2 x3 hp)⟩
theorem run (x0 : (List Group)) (x1 : (List Group)) : runFn E H Try.f133 fs.ps fs.rs (x0, (x1, ())) = raw x0 x1 := by kernel_rfl
theorem env : EnvOk Try.prog E := env_cons laws_eqGroup.known (env_nil tys)
theorem loops : ∀ c, Try.f133.body = some c → LoopsOk E H c := loops_of (by kernel_rfl) (by kernel_rfl) fun i l h => match i, h with
  | 0, h => Option.some.inj h ▸ lok4
  | n + 1, h => by cases h
theorem sound : Sound Try.prog 133 fs := fn_sound env mixed Try.func133 H loops fun ⟨x0, x1, ()⟩ hw _ => (run x0 x1).trans (eq x0 x1 hw)
theorem known : Seen Try.prog 133 fs := ⟨sound, _, Try.func133, by kernel_rfl, by kernel_rfl⟩
end laws_eqGroupS
namespace laws_markGroupS
noncomputable def fs : FS := ⟨[(.mut (.sl 166 (.pair (.int .i64) (.pair (.sl 3 (.int .i64)) (.pair (.sl 3 (.int .i64)) (.pair (.sl 3 (.int .i64)) .unit)))))), (.val (.int .i64) .f)], [((.int .i64), .o)], fun x => laws_markGroupS.pre x.1 x.2.1, fun x => (((laws_markGroupS x.1 x.2.1).1, ()), ((laws_markGroupS x.1 x.2.1).2, ()))⟩
noncomputable def E : Env := ⟨theta, [(139, laws_markIntS.fs)], []⟩
noncomputable def sh2 : ShSt := ⟨[(.one (.arr 40000001)), (.one (.dat (.int .i64))), (.one .undef), (.one .undef), (.one .undef), (.one (.dat (.int .i64))), (.one .undef), (.one .undef), (.one .undef), (.one .undef), (.one .undef), (.one .undef), (.one .undef), (.one .undef), (.one .undef), (.one .undef), (.one .undef), (.one .undef), (.one .undef), (.one .undef), (.one .undef), (.one .undef), (.one .undef), (.one .undef), (.one .undef), (.one .undef), (.one .undef), (.one .undef), (.one .undef), (.one .undef), (.one .undef), (.one .undef), (.one .undef), (.one .undef), (.one .undef), (.one .undef), (.one .undef), (.one .undef), (.one .undef), (.one .undef), (.one .undef)], [(40000001, (.arr 166 (.pair (.int .i64) (.pair (.sl 3 (.int .i64)) (.pair (.sl 3 (.int .i64)) (.pair (.sl 3 (.int .i64)) .unit))))))]⟩
noncomputable def outs2 : List OutC := [⟨(.exit 0), ⟨0, [1, 0], []⟩, ⟨[(.one (.arr 40000001)), (.one (.dat (.int .i64))), (.one .undef), (.one .undef), (.one .undef), (.one .undef), (.one .undef), (.one .undef), (.one .undef), (.one .undef), (.one .undef), (.one .undef), (.one .undef), (.one .undef), (.one .undef), (.one .undef), (.one .undef), (.one .undef), (.one .undef), (.one .undef), (.one .undef), (.one .undef), (.one .undef), (.one .undef), (.one .undef), (.one .undef), (.one .undef), (.one .undef), (.one .undef), (.one .undef), (.one .undef), (.one .undef), (.one .undef), (.one .undef), (.one .undef), (.one .undef), (.one .undef), (.one .undef), (.one .undef), (.one .undef), (.one .undef)], [(40000001, (.arr 166 (.pair (.int .i64) (.pair (.sl 3 (.int .i64)) (.pair (.sl 3 (.int .i64)) (.pair (.sl 3 (.int .i64)) .unit))))))]⟩⟩]
noncomputable def L2 : LC := ⟨2, ⟨2, [0, 5, 1], []⟩, sh2, outs2, pre2, fn2⟩
noncomputable def H : List LC := [L2]
noncomputable def code (i : Nat) : Code := (loopsOf (bodyOf Try.f138)).getD i .skip
theorem step2 (x1 : Int) (x2 : Int) (x3 : (List Group)) : L2.step E H (code 0) (x1, (x2, (x3, ()))) = raw2 x1 x2 x3 := by kernel_rfl
theorem lok2 : LoopOk E H (code 0) L2 := ⟨mu2, fun ⟨x1, x2, x3, ()⟩ hp => rounds_ok (step2 x1 x2 x3) (ok2 x1 x2 x3 hp)⟩
theorem run (x0 : (List Group)) (x1 : Int) : runFn E H Try.f138 fs.ps fs.rs (x0, (x1, ())) = raw x0 x1 := by kernel_rfl
theorem env : EnvOk Try.prog E := env_cons laws_markIntS.known (env_nil tys)
theorem loops : ∀ c, Try.f138.body = some c → LoopsOk E H c := loops_of (by kernel_rfl) (by kernel_rfl) fun i l h => match i, h with
  | 0, h => Option.some.inj h ▸ lok2
  | n + 1, h => by cases h
theorem sound : Sound Try.prog 138 fs := fn_sound env mixed Try.func138 H loops fun ⟨x0, x1, ()⟩ hw hp => (run x0 x1).trans (eq x0 x1 hw hp)
theorem known : Seen Try.prog 138 fs := ⟨sound, _, Try.func138, by kernel_rfl, by kernel_rfl⟩
end laws_markGroupS
namespace laws_heldGroupS
noncomputable def fs : FS := ⟨[(.val (.sl 166 (.pair (.int .i64) (.pair (.sl 3 (.int .i64)) (.pair (.sl 3 (.int .i64)) (.pair (.sl 3 (.int .i64)) .unit))))) .f), (.val (.int .i64) .f)], [((.int .i64), .o)], fun x => laws_heldGroupS.pre x.1 x.2.1, fun x => ((), ((laws_heldGroupS x.1 x.2.1), ()))⟩
noncomputable def E : Env := ⟨theta, [(144, laws_heldIntS.fs)], []⟩
noncomputable def sh2 : ShSt := ⟨[(.one (.dat (.sl 166 (.pair (.int .i64) (.pair (.sl 3 (.int .i64)) (.pair (.sl 3 (.int .i64)) (.pair (.sl 3 (.int .i64)) .unit))))))), (.one (.dat (.int .i64))), (.one .undef), (.one .undef), (.one .undef), (.one (.dat (.int .i64))), (.one .undef), (.one .undef), (.one .undef), (.one .undef), (.one .undef), (.one .undef), (.one .undef), (.one .undef), (.one .undef), (.one .undef), (.one .undef), (.one .undef), (.one .undef), (.one .undef), (.one .undef), (.one .undef), (.one .undef), (.one .undef), (.one .undef), (.one .undef), (.one .undef), (.one .undef), (.one .undef), (.one .undef), (.one .undef), (.one .undef), (.one .undef), (.one .undef), (.one .undef), (.one .undef), (.one .undef), (.one .undef), (.one .undef), (.one .undef), (.one .undef), (.one .undef), (.one .undef), (.one .undef), (.one .undef), (.one .undef), (.one .undef), (.one .undef), (.one .undef)], []⟩
noncomputable def outs2 : List OutC := [⟨.ret, ⟨0, [4], []⟩, ⟨[(.one .undef), (.one .undef), (.one .undef), (.one .undef), (.one (.dat (.int .i64))), (.one .undef), (.one .undef), (.one .undef), (.one .undef), (.one .undef), (.one .undef), (.one .undef), (.one .undef), (.one .undef), (.one .undef), (.one .undef), (.one .undef), (.one .undef), (.one .undef), (.one .undef), (.one .undef), (.one .undef), (.one .undef), (.one .undef), (.one .undef), (.one .undef), (.one .undef), (.one .undef), (.one .undef), (.one .undef), (.one .undef), (.one .undef), (.one .undef), (.one .undef), (.one .undef), (.one .undef), (.one .undef), (.one .undef), (.one .undef), (.one .undef), (.one .undef), (.one .undef), (.one .undef), (.one .undef), (.one .undef), (.one .undef), (.one .undef), (.one .undef), (.one .undef)], []⟩⟩, ⟨(.exit 0), ⟨0, [1], []⟩, ⟨[(.one .undef), (.one (.dat (.int .i64))), (.one .undef), (.one .undef), (.one .undef), (.one .undef), (.one .undef), (.one .undef), (.one .undef), (.one .undef), (.one .undef), (.one .undef), (.one .undef), (.one .undef), (.one .undef), (.one .undef), (.one .undef), (.one .undef), (.one .undef), (.one .undef), (.one .undef), (.one .undef), (.one .undef), (.one .undef), (.one .undef), (.one .undef), (.one .undef), (.one .undef), (.one .undef), (.one .undef), (.one .undef), (.one .undef), (.one .undef), (.one .undef), (.one .undef), (.one .undef), (.one .undef), (.one .undef), (.one .undef), (.one .undef), (.one .undef), (.one .undef), (.one .undef), (.one .undef), (.one .undef), (.one .undef), (.one .undef), (.one .undef), (.one .undef)], []⟩⟩]
noncomputable def L2 : LC := ⟨2, ⟨2, [0, 5, 1], []⟩, sh2, outs2, pre2, fn2⟩
noncomputable def H : List LC := [L2]
noncomputable def code (i : Nat) : Code := (loopsOf (bodyOf Try.f143)).getD i .skip
theorem step2 (x1 : (List Group)) (x2 : Int) (x3 : Int) : L2.step E H (code 0) (x1, (x2, (x3, ()))) = raw2 x1 x2 x3 := by kernel_rfl
theorem lok2 : LoopOk E H (code 0) L2 := ⟨mu2, fun ⟨x1, x2, x3, ()⟩ hp => rounds_ok (step2 x1 x2 x3) (ok2 x1 x2 x3 hp)⟩
theorem run (x0 : (List Group)) (x1 : Int) : runFn E H Try.f143 fs.ps fs.rs (x0, (x1, ())) = raw x0 x1 := by kernel_rfl
theorem env : EnvOk Try.prog E := env_cons laws_heldIntS.known (env_nil tys)
theorem loops : ∀ c, Try.f143.body = some c → LoopsOk E H c := loops_of (by kernel_rfl) (by kernel_rfl) fun i l h => match i, h with
  | 0, h => Option.some.inj h ▸ lok2
  | n + 1, h => by cases h
theorem sound : Sound Try.prog 143 fs := fn_sound env mixed Try.func143 H loops fun ⟨x0, x1, ()⟩ hw hp => (run x0 x1).trans (eq x0 x1 hw hp)
theorem known : Seen Try.prog 143 fs := ⟨sound, _, Try.func143, by kernel_rfl, by kernel_rfl⟩
end laws_heldGroupS
namespace laws_eqKeep
noncomputable def fs : FS := ⟨[(.val (.pair (.sl 186 (.pair (.int .i64) (.pair (.int .i64) (.pair (.sl 228 (.pair (.int .i64) (.pair .str (.pair .str (.pair (.int .i64) (.pair (.int .i64) .unit)))))) .unit)))) (.pair (.sl 199 (.pair (.int .i64) (.pair (.int .i64) (.pair (.int .i64) (.pair (.int .i64) (.pair (.sl 236 (.pair (.int .i64) (.pair (.int .i64) .unit))) .unit)))))) (.pair (.sl 166 (.pair (.int .i64) (.pair (.sl 3 (.int .i64)) (.pair (.sl 3 (.int .i64)) (.pair (.sl 3 (.int .i64)) .unit))))) (.pair (.int .i64) (.pair (.sl 3 (.int .i64)) (.pair (.sl 190 (.pair (.int .i64) (.pair (.int .i64) (.pair .str (.pair .str .unit))))) .unit)))))) .f), (.val (.pair (.sl 186 (.pair (.int .i64) (.pair (.int .i64) (.pair (.sl 228 (.pair (.int .i64) (.pair .str (.pair .str (.pair (.int .i64) (.pair (.int .i64) .unit)))))) .unit)))) (.pair (.sl 199 (.pair (.int .i64) (.pair (.int .i64) (.pair (.int .i64) (.pair (.int .i64) (.pair (.sl 236 (.pair (.int .i64) (.pair (.int .i64) .unit))) .unit)))))) (.pair (.sl 166 (.pair (.int .i64) (.pair (.sl 3 (.int .i64)) (.pair (.sl 3 (.int .i64)) (.pair (.sl 3 (.int .i64)) .unit))))) (.pair (.int .i64) (.pair (.sl 3 (.int .i64)) (.pair (.sl 190 (.pair (.int .i64) (.pair (.int .i64) (.pair .str (.pair .str .unit))))) .unit)))))) .f)], [(.bool, .o)], fun _ => true, fun x => ((), ((laws_eqKeep x.1 x.2.1), ()))⟩
noncomputable def E : Env := ⟨theta, [(134, laws_eqIntS.fs), (135, laws_eqAnswerS.fs), (131, laws_eqRowS.fs), (132, laws_eqMakerS.fs), (133, laws_eqGroupS.fs)], []⟩
noncomputable def H : List LC := []
noncomputable def code (i : Nat) : Code := (loopsOf (bodyOf Try.f103)).getD i .skip
theorem run (x0 : Keep) (x1 : Keep) : runFn E H Try.f103 fs.ps fs.rs (x0, (x1, ())) = raw x0 x1 := by kernel_rfl
theorem env : EnvOk Try.prog E := env_cons laws_eqIntS.known (env_cons laws_eqAnswerS.known (env_cons laws_eqRowS.known (env_cons laws_eqMakerS.known (env_cons laws_eqGroupS.known (env_nil tys)))))
theorem loops : ∀ c, Try.f103.body = some c → LoopsOk E H c := loops_none (by kernel_rfl)
theorem sound : Sound Try.prog 103 fs := fn_sound env mixed Try.func103 H loops fun ⟨x0, x1, ()⟩ hw _ => (run x0 x1).trans (eq x0 x1 hw)
theorem known : Seen Try.prog 103 fs := ⟨sound, _, Try.func103, by kernel_rfl, by kernel_rfl⟩
end laws_eqKeep
namespace laws_markKeep
noncomputable def fs : FS := ⟨[(.mut (.pair (.sl 186 (.pair (.int .i64) (.pair (.int .i64) (.pair (.sl 228 (.pair (.int .i64) (.pair .str (.pair .str (.pair (.int .i64) (.pair (.int .i64) .unit)))))) .unit)))) (.pair (.sl 199 (.pair (.int .i64) (.pair (.int .i64) (.pair (.int .i64) (.pair (.int .i64) (.pair (.sl 236 (.pair (.int .i64) (.pair (.int .i64) .unit))) .unit)))))) (.pair (.sl 166 (.pair (.int .i64) (.pair (.sl 3 (.int .i64)) (.pair (.sl 3 (.int .i64)) (.pair (.sl 3 (.int .i64)) .unit))))) (.pair (.int .i64) (.pair (.sl 3 (.int .i64)) (.pair (.sl 190 (.pair (.int .i64) (.pair (.int .i64) (.pair .str (.pair .str .unit))))) .unit))))))), (.val (.int .i64) .f)], [((.int .i64), .o)], fun x => laws_markKeep.pre x.1 x.2.1, fun x => (((laws_markKeep x.1 x.2.1).1, ()), ((laws_markKeep x.1 x.2.1).2, ()))⟩
noncomputable def E : Env := ⟨theta, [(139, laws_markIntS.fs), (140, laws_markAnswerS.fs), (136, laws_markRowS.fs), (137, laws_markMakerS.fs), (138, laws_markGroupS.fs)], []⟩
noncomputable def H : List LC := []
noncomputable def code (i : Nat) : Code := (loopsOf (bodyOf Try.f104)).getD i .skip
theorem run (x0 : Keep) (x1 : Int) : runFn E H Try.f104 fs.ps fs.rs (x0, (x1, ())) = raw x0 x1 := by kernel_rfl
theorem env : EnvOk Try.prog E := env_cons laws_markIntS.known (env_cons laws_markAnswerS.known (env_cons laws_markRowS.known (env_cons laws_markMakerS.known (env_cons laws_markGroupS.known (env_nil tys)))))
theorem loops : ∀ c, Try.f104.body = some c → LoopsOk E H c := loops_none (by kernel_rfl)
theorem sound : Sound Try.prog 104 fs := fn_sound env mixed Try.func104 H loops fun ⟨x0, x1, ()⟩ hw hp => (run x0 x1).trans (eq x0 x1 hw hp)
theorem known : Seen Try.prog 104 fs := ⟨sound, _, Try.func104, by kernel_rfl, by kernel_rfl⟩
end laws_markKeep
namespace laws_heldKeep
noncomputable def fs : FS := ⟨[(.val (.pair (.sl 186 (.pair (.int .i64) (.pair (.int .i64) (.pair (.sl 228 (.pair (.int .i64) (.pair .str (.pair .str (.pair (.int .i64) (.pair (.int .i64) .unit)))))) .unit)))) (.pair (.sl 199 (.pair (.int .i64) (.pair (.int .i64) (.pair (.int .i64) (.pair (.int .i64) (.pair (.sl 236 (.pair (.int .i64) (.pair (.int .i64) .unit))) .unit)))))) (.pair (.sl 166 (.pair (.int .i64) (.pair (.sl 3 (.int .i64)) (.pair (.sl 3 (.int .i64)) (.pair (.sl 3 (.int .i64)) .unit))))) (.pair (.int .i64) (.pair (.sl 3 (.int .i64)) (.pair (.sl 190 (.pair (.int .i64) (.pair (.int .i64) (.pair .str (.pair .str .unit))))) .unit)))))) .f), (.val (.int .i64) .f)], [((.int .i64), .o)], fun x => laws_heldKeep.pre x.1 x.2.1, fun x => ((), ((laws_heldKeep x.1 x.2.1), ()))⟩
noncomputable def E : Env := ⟨theta, [(144, laws_heldIntS.fs), (145, laws_heldAnswerS.fs), (141, laws_heldRowS.fs), (142, laws_heldMakerS.fs), (143, laws_heldGroupS.fs)], []⟩
noncomputable def H : List LC := []
noncomputable def code (i : Nat) : Code := (loopsOf (bodyOf Try.f105)).getD i .skip
theorem run (x0 : Keep) (x1 : Int) : runFn E H Try.f105 fs.ps fs.rs (x0, (x1, ())) = raw x0 x1 := by kernel_rfl
theorem env : EnvOk Try.prog E := env_cons laws_heldIntS.known (env_cons laws_heldAnswerS.known (env_cons laws_heldRowS.known (env_cons laws_heldMakerS.known (env_cons laws_heldGroupS.known (env_nil tys)))))
theorem loops : ∀ c, Try.f105.body = some c → LoopsOk E H c := loops_none (by kernel_rfl)
theorem sound : Sound Try.prog 105 fs := fn_sound env mixed Try.func105 H loops fun ⟨x0, x1, ()⟩ hw hp => (run x0 x1).trans (eq x0 x1 hw hp)
theorem known : Seen Try.prog 105 fs := ⟨sound, _, Try.func105, by kernel_rfl, by kernel_rfl⟩
end laws_heldKeep
namespace laws_eqHard
noncomputable def fs : FS := ⟨[(.val (.pair (.int .i64) (.pair (.int .i64) (.pair (.pair (.int .i64) (.pair (.int .i64) (.pair (.sl 112 (.pair (.int .i64) (.pair (.pair (.int .i64) (.pair (.int .i64) (.pair (.int .i64) (.pair (.int .i64) (.pair (.int .i64) (.pair (.int .i64) (.pair .str (.pair .str .unit)))))))) .unit))) .unit))) (.pair (.pair (.sl 186 (.pair (.int .i64) (.pair (.int .i64) (.pair (.sl 228 (.pair (.int .i64) (.pair .str (.pair .str (.pair (.int .i64) (.pair (.int .i64) .unit)))))) .unit)))) (.pair (.sl 199 (.pair (.int .i64) (.pair (.int .i64) (.pair (.int .i64) (.pair (.int .i64) (.pair (.sl 236 (.pair (.int .i64) (.pair (.int .i64) .unit))) .unit)))))) (.pair (.sl 166 (.pair (.int .i64) (.pair (.sl 3 (.int .i64)) (.pair (.sl 3 (.int .i64)) (.pair (.sl 3 (.int .i64)) .unit))))) (.pair (.int .i64) (.pair (.sl 3 (.int .i64)) (.pair (.sl 190 (.pair (.int .i64) (.pair (.int .i64) (.pair .str (.pair .str .unit))))) .unit)))))) .unit)))) .f), (.val (.pair (.int .i64) (.pair (.int .i64) (.pair (.pair (.int .i64) (.pair (.int .i64) (.pair (.sl 112 (.pair (.int .i64) (.pair (.pair (.int .i64) (.pair (.int .i64) (.pair (.int .i64) (.pair (.int .i64) (.pair (.int .i64) (.pair (.int .i64) (.pair .str (.pair .str .unit)))))))) .unit))) .unit))) (.pair (.pair (.sl 186 (.pair (.int .i64) (.pair (.int .i64) (.pair (.sl 228 (.pair (.int .i64) (.pair .str (.pair .str (.pair (.int .i64) (.pair (.int .i64) .unit)))))) .unit)))) (.pair (.sl 199 (.pair (.int .i64) (.pair (.int .i64) (.pair (.int .i64) (.pair (.int .i64) (.pair (.sl 236 (.pair (.int .i64) (.pair (.int .i64) .unit))) .unit)))))) (.pair (.sl 166 (.pair (.int .i64) (.pair (.sl 3 (.int .i64)) (.pair (.sl 3 (.int .i64)) (.pair (.sl 3 (.int .i64)) .unit))))) (.pair (.int .i64) (.pair (.sl 3 (.int .i64)) (.pair (.sl 190 (.pair (.int .i64) (.pair (.int .i64) (.pair .str (.pair .str .unit))))) .unit)))))) .unit)))) .f)], [(.bool, .o)], fun _ => true, fun x => ((), ((laws_eqHard x.1 x.2.1), ()))⟩
noncomputable def E : Env := ⟨theta, [(19, laws_eqLog.fs), (103, laws_eqKeep.fs)], []⟩
noncomputable def H : List LC := []
noncomputable def code (i : Nat) : Code := (loopsOf (bodyOf Try.f62)).getD i .skip
theorem run (x0 : (Int × (Int × (Log × (Keep × Unit))))) (x1 : (Int × (Int × (Log × (Keep × Unit))))) : runFn E H Try.f62 fs.ps fs.rs (x0, (x1, ())) = raw x0 x1 := by kernel_rfl
theorem env : EnvOk Try.prog E := env_cons laws_eqLog.known (env_cons laws_eqKeep.known (env_nil tys))
theorem loops : ∀ c, Try.f62.body = some c → LoopsOk E H c := loops_none (by kernel_rfl)
theorem sound : Sound Try.prog 62 fs := fn_sound env mixed Try.func62 H loops fun ⟨x0, x1, ()⟩ hw _ => (run x0 x1).trans (eq x0 x1 hw)
theorem known : Seen Try.prog 62 fs := ⟨sound, _, Try.func62, by kernel_rfl, by kernel_rfl⟩
end laws_eqHard
namespace laws_markHard
noncomputable def fs : FS := ⟨[(.mut (.pair (.int .i64) (.pair (.int .i64) (.pair (.pair (.int .i64) (.pair (.int .i64) (.pair (.sl 112 (.pair (.int .i64) (.pair (.pair (.int .i64) (.pair (.int .i64) (.pair (.int .i64) (.pair (.int .i64) (.pair (.int .i64) (.pair (.int .i64) (.pair .str (.pair .str .unit)))))))) .unit))) .unit))) (.pair (.pair (.sl 186 (.pair (.int .i64) (.pair (.int .i64) (.pair (.sl 228 (.pair (.int .i64) (.pair .str (.pair .str (.pair (.int .i64) (.pair (.int .i64) .unit)))))) .unit)))) (.pair (.sl 199 (.pair (.int .i64) (.pair (.int .i64) (.pair (.int .i64) (.pair (.int .i64) (.pair (.sl 236 (.pair (.int .i64) (.pair (.int .i64) .unit))) .unit)))))) (.pair (.sl 166 (.pair (.int .i64) (.pair (.sl 3 (.int .i64)) (.pair (.sl 3 (.int .i64)) (.pair (.sl 3 (.int .i64)) .unit))))) (.pair (.int .i64) (.pair (.sl 3 (.int .i64)) (.pair (.sl 190 (.pair (.int .i64) (.pair (.int .i64) (.pair .str (.pair .str .unit))))) .unit)))))) .unit))))), (.val (.int .i64) .f)], [((.int .i64), .o)], fun x => laws_markHard.pre x.1 x.2.1, fun x => (((laws_markHard x.1 x.2.1).1, ()), ((laws_markHard x.1 x.2.1).2, ()))⟩
noncomputable def E : Env := ⟨theta, [(36, laws_markLog.fs), (104, laws_markKeep.fs)], []⟩
noncomputable def H : List LC := []
noncomputable def code (i : Nat) : Code := (loopsOf (bodyOf Try.f63)).getD i .skip
theorem run (x0 : (Int × (Int × (Log × (Keep × Unit))))) (x1 : Int) : runFn E H Try.f63 fs.ps fs.rs (x0, (x1, ())) = raw x0 x1 := by kernel_rfl
theorem env : EnvOk Try.prog E := env_cons laws_markLog.known (env_cons laws_markKeep.known (env_nil tys))
theorem loops : ∀ c, Try.f63.body = some c → LoopsOk E H c := loops_none (by kernel_rfl)
theorem sound : Sound Try.prog 63 fs := fn_sound env mixed Try.func63 H loops fun ⟨x0, x1, ()⟩ hw hp => (run x0 x1).trans (eq x0 x1 hw hp)
theorem known : Seen Try.prog 63 fs := ⟨sound, _, Try.func63, by kernel_rfl, by kernel_rfl⟩
end laws_markHard
namespace laws_heldHard
noncomputable def fs : FS := ⟨[(.val (.pair (.int .i64) (.pair (.int .i64) (.pair (.pair (.int .i64) (.pair (.int .i64) (.pair (.sl 112 (.pair (.int .i64) (.pair (.pair (.int .i64) (.pair (.int .i64) (.pair (.int .i64) (.pair (.int .i64) (.pair (.int .i64) (.pair (.int .i64) (.pair .str (.pair .str .unit)))))))) .unit))) .unit))) (.pair (.pair (.sl 186 (.pair (.int .i64) (.pair (.int .i64) (.pair (.sl 228 (.pair (.int .i64) (.pair .str (.pair .str (.pair (.int .i64) (.pair (.int .i64) .unit)))))) .unit)))) (.pair (.sl 199 (.pair (.int .i64) (.pair (.int .i64) (.pair (.int .i64) (.pair (.int .i64) (.pair (.sl 236 (.pair (.int .i64) (.pair (.int .i64) .unit))) .unit)))))) (.pair (.sl 166 (.pair (.int .i64) (.pair (.sl 3 (.int .i64)) (.pair (.sl 3 (.int .i64)) (.pair (.sl 3 (.int .i64)) .unit))))) (.pair (.int .i64) (.pair (.sl 3 (.int .i64)) (.pair (.sl 190 (.pair (.int .i64) (.pair (.int .i64) (.pair .str (.pair .str .unit))))) .unit)))))) .unit)))) .f), (.val (.int .i64) .f)], [((.int .i64), .o)], fun x => laws_heldHard.pre x.1 x.2.1, fun x => ((), ((laws_heldHard x.1 x.2.1), ()))⟩
noncomputable def E : Env := ⟨theta, [(37, laws_heldLog.fs), (105, laws_heldKeep.fs)], []⟩
noncomputable def H : List LC := []
noncomputable def code (i : Nat) : Code := (loopsOf (bodyOf Try.f64)).getD i .skip
theorem run (x0 : (Int × (Int × (Log × (Keep × Unit))))) (x1 : Int) : runFn E H Try.f64 fs.ps fs.rs (x0, (x1, ())) = raw x0 x1 := by kernel_rfl
theorem env : EnvOk Try.prog E := env_cons laws_heldLog.known (env_cons laws_heldKeep.known (env_nil tys))
theorem loops : ∀ c, Try.f64.body = some c → LoopsOk E H c := loops_none (by kernel_rfl)
theorem sound : Sound Try.prog 64 fs := fn_sound env mixed Try.func64 H loops fun ⟨x0, x1, ()⟩ hw hp => (run x0 x1).trans (eq x0 x1 hw hp)
theorem known : Seen Try.prog 64 fs := ⟨sound, _, Try.func64, by kernel_rfl, by kernel_rfl⟩
end laws_heldHard
namespace laws_FnExactHardNew
noncomputable def fs : FS := ⟨[(.val (.pair (.int .i64) (.pair (.int .i64) (.pair (.int .i64) (.pair (.int .i64) .unit)))) .f)], [(.bool, .o)], fun _ => true, fun x => ((), ((laws_FnExactHardNew x.1), ()))⟩
noncomputable def E : Env := ⟨theta, [(60, laws_toSetup.fs), (59, spec_HardNew.fs), (61, impl_HardNew.fs), (62, laws_eqHard.fs), (63, laws_markHard.fs), (64, laws_heldHard.fs)], []⟩
noncomputable def H : List LC := []
noncomputable def code (i : Nat) : Code := (loopsOf (bodyOf Try.f13)).getD i .skip
theorem run (x0 : Setup) : runFn E H Try.f13 fs.ps fs.rs (x0, ()) = raw x0 := by kernel_rfl
theorem env : EnvOk Try.prog E := env_cons laws_toSetup.known (env_cons spec_HardNew.known (env_cons impl_HardNew.known (env_cons laws_eqHard.known (env_cons laws_markHard.known (env_cons laws_heldHard.known (env_nil tys))))))
theorem loops : ∀ c, Try.f13.body = some c → LoopsOk E H c := loops_none (by kernel_rfl)
theorem sound : Sound Try.prog 13 fs := fn_sound env mixed Try.func13 H loops fun ⟨x0, ()⟩ hw _ => (run x0).trans (eq x0 hw)
theorem known : Seen Try.prog 13 fs := ⟨sound, _, Try.func13, by kernel_rfl, by kernel_rfl⟩
end laws_FnExactHardNew
end Go.Aw.Pl
namespace Go.Proofs.Ytdgpjdedpkpfhaa.fnExactHardNew
open Go Go.Aw Go.Aw.Pl
theorem own : ownKnob Try.prog.godebug = none := by kernel_rfl
theorem laidOut : laidOutB Try.prog = true := by kernel_rfl
theorem lifted (os : Os) (started : os.Started) (H : Type) (enc : TypeId × Value → H) :
    ReturnsInHanded {} Try.checked os 13 .any (Rows.fnExactHardNewSpec.pre6 enc Try.prog Try.f13 Rows.fnExactHardNewRow.domain false) (Rows.fnExactHardNewSpec.post enc Try.prog Try.f13 false true false false) :=
  law_lifted (C := Try.checked) (Ts := [(.pair (.int .i64) (.pair (.int .i64) (.pair (.int .i64) (.pair (.int .i64) .unit))))]) (md := .o) (g := laws_FnExactHardNew.fs.fn) started own laidOut (by kernel_rfl) Try.func13 laws_FnExactHardNew.sound (fun _ _ => rfl) (by kernel_rfl) rfl Try.underlying4 rfl
    (fun _ ds h => match ds, h with
      | [_], _ => ⟨rfl, rfl, rfl⟩)
    (ChangeSpec.witness6 (enc := enc) (C := Try.checked) false ⟨#[], #[.agg #[.int .i64 0, .int .i64 0, .int .i64 0, .int .i64 0]], []⟩ 24 (by kernel_rfl) (by kernel_rfl) (by kernel_rfl) (by kernel_rfl))
theorem over : Rows.fnExactHardNewRow.holds Try.pinned (OpenSpec.ofChange Rows.fnExactHardNewSpec) :=
  OpenClaim.holds_of_wide 13 Try.f13 rfl rfl rfl rfl rfl rfl rfl ⟨rfl, rfl, rfl, rfl, rfl⟩ rfl rfl rfl rfl rfl (by kernel_rfl) Try.func13 (by kernel_rfl)
    (of_decide_eq_true (by kernel_rfl)) (by unfold Func.isWrapper; first | (rw [if_pos (by decide +kernel)]; kernel_rfl) | (rw [if_neg (by decide +kernel)]; exact ⟨rfl, rfl⟩))
    (fun os started H enc _ => lifted os started H enc)
theorem proved : Rows.FnExactHardNewSaid := over
end Go.Proofs.Ytdgpjdedpkpfhaa.fnExactHardNew
