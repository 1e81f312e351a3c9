/-
  These laws hold: FnExactLogPut: each answers true for every input, and nothing of its arguments is changed. Conditions: those of the given statements alone.
  Printed by a program of the proof's author: what each function does, by the plain machine (the texts Aw.. and Ax..), and the rows at the end.
-/
import Derived.Test.YtdgpjdedpkpfhaaRows
import Derived.JoinedOf
import Derived.Test.YtdgpjdedpkpfhaaPlK
namespace Go.Aw.Pl
open Go Go.Aw Go.Proofs
set_option linter.unusedVariables false
noncomputable def theta : List (TypeId × Ty) := [(1, .op),
  (2, (.int .i64)),
  (3, (.int .i64)),
  (4, .bool),
  (5, (.int .u8)),
  (6, (.int .u8)),
  (7, (.pair (.int .i64) (.pair (.int .i64) (.pair .bool (.pair (.int .u8) .unit))))),
  (8, (.pair (.int .i64) (.pair (.int .i64) (.pair .bool (.pair (.int .u8) .unit))))),
  (9, .str),
  (10, .str),
  (11, .str),
  (12, (.int .u64)),
  (15, .op),
  (16, .op),
  (17, .op),
  (21, (.int .i32)),
  (22, (.sl 122 (.pair (.int .i64) (.pair (.pair (.int .i64) (.pair (.int .i64) (.pair (.int .i64) (.pair (.int .i64) (.pair (.int .i64) (.pair (.int .i64) (.pair .str (.pair .str .unit)))))))) .unit)))),
  (23, (.pair (.int .i64) (.pair (.int .i64) (.pair (.sl 122 (.pair (.int .i64) (.pair (.pair (.int .i64) (.pair (.int .i64) (.pair (.int .i64) (.pair (.int .i64) (.pair (.int .i64) (.pair (.int .i64) (.pair .str (.pair .str .unit)))))))) .unit))) .unit)))),
  (24, (.pair (.int .i64) (.pair (.int .i64) (.pair (.sl 122 (.pair (.int .i64) (.pair (.pair (.int .i64) (.pair (.int .i64) (.pair (.int .i64) (.pair (.int .i64) (.pair (.int .i64) (.pair (.int .i64) (.pair .str (.pair .str .unit)))))))) .unit))) .unit)))),
  (25, .op),
  (27, .op),
  (28, (.sl 112 (.pair (.int .i64) (.pair (.pair (.int .i64) (.pair (.int .i64) (.pair (.int .i64) (.pair (.int .i64) (.pair (.int .i64) (.pair (.int .i64) (.pair .str (.pair .str .unit)))))))) .unit)))),
  (29, (.pair (.int .i64) (.pair (.int .i64) (.pair (.sl 112 (.pair (.int .i64) (.pair (.pair (.int .i64) (.pair (.int .i64) (.pair (.int .i64) (.pair (.int .i64) (.pair (.int .i64) (.pair (.int .i64) (.pair .str (.pair .str .unit)))))))) .unit))) .unit)))),
  (30, (.pair (.int .i64) (.pair (.int .i64) (.pair (.sl 112 (.pair (.int .i64) (.pair (.pair (.int .i64) (.pair (.int .i64) (.pair (.int .i64) (.pair (.int .i64) (.pair (.int .i64) (.pair (.int .i64) (.pair .str (.pair .str .unit)))))))) .unit))) .unit)))),
  (31, .op),
  (32, .op),
  (33, .op),
  (34, .op),
  (35, .op),
  (36, .op),
  (37, (.pair (.int .i64) (.pair (.int .i64) (.pair (.int .i64) (.pair (.int .i64) (.pair (.sl 122 (.pair (.int .i64) (.pair (.pair (.int .i64) (.pair (.int .i64) (.pair (.int .i64) (.pair (.int .i64) (.pair (.int .i64) (.pair (.int .i64) (.pair .str (.pair .str .unit)))))))) .unit))) (.pair .str .unit))))))),
  (38, (.pair (.int .i64) (.pair (.int .i64) (.pair (.int .i64) (.pair (.int .i64) (.pair (.sl 122 (.pair (.int .i64) (.pair (.pair (.int .i64) (.pair (.int .i64) (.pair (.int .i64) (.pair (.int .i64) (.pair (.int .i64) (.pair (.int .i64) (.pair .str (.pair .str .unit)))))))) .unit))) (.pair .str .unit))))))),
  (39, .op),
  (40, .op),
  (41, (.pair (.int .i64) (.pair (.int .i64) (.pair (.int .i64) (.pair (.int .i64) (.pair (.sl 112 (.pair (.int .i64) (.pair (.pair (.int .i64) (.pair (.int .i64) (.pair (.int .i64) (.pair (.int .i64) (.pair (.int .i64) (.pair (.int .i64) (.pair .str (.pair .str .unit)))))))) .unit))) (.pair .str .unit))))))),
  (42, (.pair (.int .i64) (.pair (.int .i64) (.pair (.int .i64) (.pair (.int .i64) (.pair (.sl 112 (.pair (.int .i64) (.pair (.pair (.int .i64) (.pair (.int .i64) (.pair (.int .i64) (.pair (.int .i64) (.pair (.int .i64) (.pair (.int .i64) (.pair .str (.pair .str .unit)))))))) .unit))) (.pair .str .unit))))))),
  (43, .op),
  (44, .op),
  (45, .op),
  (46, (.pair (.int .i64) (.pair (.int .i64) (.pair (.int .i64) (.pair (.int .i64) (.pair (.int .i64) (.pair (.int .i64) (.pair (.int .i64) (.pair (.sl 122 (.pair (.int .i64) (.pair (.pair (.int .i64) (.pair (.int .i64) (.pair (.int .i64) (.pair (.int .i64) (.pair (.int .i64) (.pair (.int .i64) (.pair .str (.pair .str .unit)))))))) .unit))) (.pair .bool (.pair .str .unit))))))))))),
  (47, (.pair (.int .i64) (.pair (.int .i64) (.pair (.int .i64) (.pair (.int .i64) (.pair (.int .i64) (.pair (.int .i64) (.pair (.int .i64) (.pair (.sl 122 (.pair (.int .i64) (.pair (.pair (.int .i64) (.pair (.int .i64) (.pair (.int .i64) (.pair (.int .i64) (.pair (.int .i64) (.pair (.int .i64) (.pair .str (.pair .str .unit)))))))) .unit))) (.pair .bool (.pair .str .unit))))))))))),
  (48, .op),
  (49, .op),
  (50, (.pair (.int .i64) (.pair (.int .i64) (.pair (.int .i64) (.pair (.int .i64) (.pair (.int .i64) (.pair (.int .i64) (.pair (.int .i64) (.pair (.sl 112 (.pair (.int .i64) (.pair (.pair (.int .i64) (.pair (.int .i64) (.pair (.int .i64) (.pair (.int .i64) (.pair (.int .i64) (.pair (.int .i64) (.pair .str (.pair .str .unit)))))))) .unit))) (.pair .bool (.pair .str .unit))))))))))),
  (51, (.pair (.int .i64) (.pair (.int .i64) (.pair (.int .i64) (.pair (.int .i64) (.pair (.int .i64) (.pair (.int .i64) (.pair (.int .i64) (.pair (.sl 112 (.pair (.int .i64) (.pair (.pair (.int .i64) (.pair (.int .i64) (.pair (.int .i64) (.pair (.int .i64) (.pair (.int .i64) (.pair (.int .i64) (.pair .str (.pair .str .unit)))))))) .unit))) (.pair .bool (.pair .str .unit))))))))))),
  (52, .op),
  (53, .op),
  (54, .op),
  (55, .op),
  (56, .op),
  (57, .op),
  (58, .op),
  (60, .op),
  (61, .op),
  (62, .op),
  (63, .op),
  (64, .op),
  (65, (.sl 5 (.int .u8))),
  (66, .op),
  (67, .op),
  (68, .op),
  (69, .op),
  (71, .op),
  (72, .op),
  (73, .op),
  (74, (.sl 42 (.pair (.int .i64) (.pair (.int .i64) (.pair (.int .i64) (.pair (.int .i64) (.pair (.sl 112 (.pair (.int .i64) (.pair (.pair (.int .i64) (.pair (.int .i64) (.pair (.int .i64) (.pair (.int .i64) (.pair (.int .i64) (.pair (.int .i64) (.pair .str (.pair .str .unit)))))))) .unit))) (.pair .str .unit)))))))),
  (76, .op),
  (77, .op),
  (78, .op),
  (79, .op),
  (80, (.pair (.int .i64) (.pair (.int .i64) (.pair (.int .i64) (.pair (.int .i64) .unit))))),
  (81, (.pair (.int .i64) (.pair (.int .i64) (.pair (.int .i64) (.pair (.int .i64) .unit))))),
  (82, (.sl 186 (.pair (.int .i64) (.pair (.int .i64) (.pair (.sl 228 (.pair (.int .i64) (.pair .str (.pair .str (.pair (.int .i64) (.pair (.int .i64) .unit)))))) .unit))))),
  (83, (.sl 199 (.pair (.int .i64) (.pair (.int .i64) (.pair (.int .i64) (.pair (.int .i64) (.pair (.sl 236 (.pair (.int .i64) (.pair (.int .i64) .unit))) .unit))))))),
  (84, (.sl 166 (.pair (.int .i64) (.pair (.sl 3 (.int .i64)) (.pair (.sl 3 (.int .i64)) (.pair (.sl 3 (.int .i64)) .unit)))))),
  (85, (.sl 3 (.int .i64))),
  (86, (.sl 190 (.pair (.int .i64) (.pair (.int .i64) (.pair .str (.pair .str .unit)))))),
  (87, (.pair (.sl 186 (.pair (.int .i64) (.pair (.int .i64) (.pair (.sl 228 (.pair (.int .i64) (.pair .str (.pair .str (.pair (.int .i64) (.pair (.int .i64) .unit)))))) .unit)))) (.pair (.sl 199 (.pair (.int .i64) (.pair (.int .i64) (.pair (.int .i64) (.pair (.int .i64) (.pair (.sl 236 (.pair (.int .i64) (.pair (.int .i64) .unit))) .unit)))))) (.pair (.sl 166 (.pair (.int .i64) (.pair (.sl 3 (.int .i64)) (.pair (.sl 3 (.int .i64)) (.pair (.sl 3 (.int .i64)) .unit))))) (.pair (.int .i64) (.pair (.sl 3 (.int .i64)) (.pair (.sl 190 (.pair (.int .i64) (.pair (.int .i64) (.pair .str (.pair .str .unit))))) .unit))))))),
  (88, (.pair (.sl 186 (.pair (.int .i64) (.pair (.int .i64) (.pair (.sl 228 (.pair (.int .i64) (.pair .str (.pair .str (.pair (.int .i64) (.pair (.int .i64) .unit)))))) .unit)))) (.pair (.sl 199 (.pair (.int .i64) (.pair (.int .i64) (.pair (.int .i64) (.pair (.int .i64) (.pair (.sl 236 (.pair (.int .i64) (.pair (.int .i64) .unit))) .unit)))))) (.pair (.sl 166 (.pair (.int .i64) (.pair (.sl 3 (.int .i64)) (.pair (.sl 3 (.int .i64)) (.pair (.sl 3 (.int .i64)) .unit))))) (.pair (.int .i64) (.pair (.sl 3 (.int .i64)) (.pair (.sl 190 (.pair (.int .i64) (.pair (.int .i64) (.pair .str (.pair .str .unit))))) .unit))))))),
  (89, (.pair (.int .i64) (.pair (.int .i64) (.pair (.pair (.int .i64) (.pair (.int .i64) (.pair (.sl 112 (.pair (.int .i64) (.pair (.pair (.int .i64) (.pair (.int .i64) (.pair (.int .i64) (.pair (.int .i64) (.pair (.int .i64) (.pair (.int .i64) (.pair .str (.pair .str .unit)))))))) .unit))) .unit))) (.pair (.pair (.sl 186 (.pair (.int .i64) (.pair (.int .i64) (.pair (.sl 228 (.pair (.int .i64) (.pair .str (.pair .str (.pair (.int .i64) (.pair (.int .i64) .unit)))))) .unit)))) (.pair (.sl 199 (.pair (.int .i64) (.pair (.int .i64) (.pair (.int .i64) (.pair (.int .i64) (.pair (.sl 236 (.pair (.int .i64) (.pair (.int .i64) .unit))) .unit)))))) (.pair (.sl 166 (.pair (.int .i64) (.pair (.sl 3 (.int .i64)) (.pair (.sl 3 (.int .i64)) (.pair (.sl 3 (.int .i64)) .unit))))) (.pair (.int .i64) (.pair (.sl 3 (.int .i64)) (.pair (.sl 190 (.pair (.int .i64) (.pair (.int .i64) (.pair .str (.pair .str .unit))))) .unit)))))) .unit))))),
  (90, (.pair (.int .i64) (.pair (.int .i64) (.pair (.pair (.int .i64) (.pair (.int .i64) (.pair (.sl 112 (.pair (.int .i64) (.pair (.pair (.int .i64) (.pair (.int .i64) (.pair (.int .i64) (.pair (.int .i64) (.pair (.int .i64) (.pair (.int .i64) (.pair .str (.pair .str .unit)))))))) .unit))) .unit))) (.pair (.pair (.sl 186 (.pair (.int .i64) (.pair (.int .i64) (.pair (.sl 228 (.pair (.int .i64) (.pair .str (.pair .str (.pair (.int .i64) (.pair (.int .i64) .unit)))))) .unit)))) (.pair (.sl 199 (.pair (.int .i64) (.pair (.int .i64) (.pair (.int .i64) (.pair (.int .i64) (.pair (.sl 236 (.pair (.int .i64) (.pair (.int .i64) .unit))) .unit)))))) (.pair (.sl 166 (.pair (.int .i64) (.pair (.sl 3 (.int .i64)) (.pair (.sl 3 (.int .i64)) (.pair (.sl 3 (.int .i64)) .unit))))) (.pair (.int .i64) (.pair (.sl 3 (.int .i64)) (.pair (.sl 190 (.pair (.int .i64) (.pair (.int .i64) (.pair .str (.pair .str .unit))))) .unit)))))) .unit))))),
  (91, .op),
  (92, (.pair (.int .i64) (.pair (.int .i64) (.pair (.int .i64) (.pair (.int .i64) .unit))))),
  (93, .op),
  (94, .op),
  (95, .op),
  (96, .op),
  (97, (.sl 217 (.pair (.int .i64) (.pair (.int .i64) (.pair (.sl 250 (.pair (.int .i64) (.pair .str (.pair .str (.pair (.int .i64) (.pair (.int .i64) .unit)))))) .unit))))),
  (98, (.sl 221 (.pair (.int .i64) (.pair (.int .i64) (.pair (.int .i64) (.pair (.int .i64) (.pair (.sl 253 (.pair (.int .i64) (.pair (.int .i64) .unit))) .unit))))))),
  (99, (.sl 223 (.pair (.int .i64) (.pair (.sl 3 (.int .i64)) (.pair (.sl 3 (.int .i64)) (.pair (.sl 3 (.int .i64)) .unit)))))),
  (100, (.sl 225 (.pair (.int .i64) (.pair (.int .i64) (.pair .str (.pair .str .unit)))))),
  (101, (.pair (.sl 217 (.pair (.int .i64) (.pair (.int .i64) (.pair (.sl 250 (.pair (.int .i64) (.pair .str (.pair .str (.pair (.int .i64) (.pair (.int .i64) .unit)))))) .unit)))) (.pair (.sl 221 (.pair (.int .i64) (.pair (.int .i64) (.pair (.int .i64) (.pair (.int .i64) (.pair (.sl 253 (.pair (.int .i64) (.pair (.int .i64) .unit))) .unit)))))) (.pair (.sl 223 (.pair (.int .i64) (.pair (.sl 3 (.int .i64)) (.pair (.sl 3 (.int .i64)) (.pair (.sl 3 (.int .i64)) .unit))))) (.pair (.int .i64) (.pair (.sl 3 (.int .i64)) (.pair (.sl 225 (.pair (.int .i64) (.pair (.int .i64) (.pair .str (.pair .str .unit))))) .unit))))))),
  (102, (.pair (.sl 217 (.pair (.int .i64) (.pair (.int .i64) (.pair (.sl 250 (.pair (.int .i64) (.pair .str (.pair .str (.pair (.int .i64) (.pair (.int .i64) .unit)))))) .unit)))) (.pair (.sl 221 (.pair (.int .i64) (.pair (.int .i64) (.pair (.int .i64) (.pair (.int .i64) (.pair (.sl 253 (.pair (.int .i64) (.pair (.int .i64) .unit))) .unit)))))) (.pair (.sl 223 (.pair (.int .i64) (.pair (.sl 3 (.int .i64)) (.pair (.sl 3 (.int .i64)) (.pair (.sl 3 (.int .i64)) .unit))))) (.pair (.int .i64) (.pair (.sl 3 (.int .i64)) (.pair (.sl 225 (.pair (.int .i64) (.pair (.int .i64) (.pair .str (.pair .str .unit))))) .unit))))))),
  (103, (.pair (.int .i64) (.pair (.int .i64) (.pair (.pair (.int .i64) (.pair (.int .i64) (.pair (.sl 122 (.pair (.int .i64) (.pair (.pair (.int .i64) (.pair (.int .i64) (.pair (.int .i64) (.pair (.int .i64) (.pair (.int .i64) (.pair (.int .i64) (.pair .str (.pair .str .unit)))))))) .unit))) .unit))) (.pair (.pair (.sl 217 (.pair (.int .i64) (.pair (.int .i64) (.pair (.sl 250 (.pair (.int .i64) (.pair .str (.pair .str (.pair (.int .i64) (.pair (.int .i64) .unit)))))) .unit)))) (.pair (.sl 221 (.pair (.int .i64) (.pair (.int .i64) (.pair (.int .i64) (.pair (.int .i64) (.pair (.sl 253 (.pair (.int .i64) (.pair (.int .i64) .unit))) .unit)))))) (.pair (.sl 223 (.pair (.int .i64) (.pair (.sl 3 (.int .i64)) (.pair (.sl 3 (.int .i64)) (.pair (.sl 3 (.int .i64)) .unit))))) (.pair (.int .i64) (.pair (.sl 3 (.int .i64)) (.pair (.sl 225 (.pair (.int .i64) (.pair (.int .i64) (.pair .str (.pair .str .unit))))) .unit)))))) .unit))))),
  (104, (.pair (.int .i64) (.pair (.int .i64) (.pair (.pair (.int .i64) (.pair (.int .i64) (.pair (.sl 122 (.pair (.int .i64) (.pair (.pair (.int .i64) (.pair (.int .i64) (.pair (.int .i64) (.pair (.int .i64) (.pair (.int .i64) (.pair (.int .i64) (.pair .str (.pair .str .unit)))))))) .unit))) .unit))) (.pair (.pair (.sl 217 (.pair (.int .i64) (.pair (.int .i64) (.pair (.sl 250 (.pair (.int .i64) (.pair .str (.pair .str (.pair (.int .i64) (.pair (.int .i64) .unit)))))) .unit)))) (.pair (.sl 221 (.pair (.int .i64) (.pair (.int .i64) (.pair (.int .i64) (.pair (.int .i64) (.pair (.sl 253 (.pair (.int .i64) (.pair (.int .i64) .unit))) .unit)))))) (.pair (.sl 223 (.pair (.int .i64) (.pair (.sl 3 (.int .i64)) (.pair (.sl 3 (.int .i64)) (.pair (.sl 3 (.int .i64)) .unit))))) (.pair (.int .i64) (.pair (.sl 3 (.int .i64)) (.pair (.sl 225 (.pair (.int .i64) (.pair (.int .i64) (.pair .str (.pair .str .unit))))) .unit)))))) .unit))))),
  (105, .op),
  (106, .op),
  (107, .op),
  (108, .op),
  (109, (.pair (.int .i64) (.pair (.int .i64) (.pair (.int .i64) (.pair (.int .i64) (.pair (.int .i64) (.pair (.int .i64) (.pair .str (.pair .str .unit))))))))),
  (110, (.pair (.int .i64) (.pair (.int .i64) (.pair (.int .i64) (.pair (.int .i64) (.pair (.int .i64) (.pair (.int .i64) (.pair .str (.pair .str .unit))))))))),
  (111, (.pair (.int .i64) (.pair (.pair (.int .i64) (.pair (.int .i64) (.pair (.int .i64) (.pair (.int .i64) (.pair (.int .i64) (.pair (.int .i64) (.pair .str (.pair .str .unit)))))))) .unit))),
  (112, (.pair (.int .i64) (.pair (.pair (.int .i64) (.pair (.int .i64) (.pair (.int .i64) (.pair (.int .i64) (.pair (.int .i64) (.pair (.int .i64) (.pair .str (.pair .str .unit)))))))) .unit))),
  (113, .op),
  (114, .op),
  (115, .op),
  (116, .op),
  (117, .op),
  (118, .op),
  (119, .op),
  (120, (.pair (.int .i64) (.pair (.int .i64) (.pair (.int .i64) (.pair (.int .i64) (.pair (.int .i64) (.pair (.int .i64) (.pair .str (.pair .str .unit))))))))),
  (121, (.pair (.int .i64) (.pair (.pair (.int .i64) (.pair (.int .i64) (.pair (.int .i64) (.pair (.int .i64) (.pair (.int .i64) (.pair (.int .i64) (.pair .str (.pair .str .unit)))))))) .unit))),
  (122, (.pair (.int .i64) (.pair (.pair (.int .i64) (.pair (.int .i64) (.pair (.int .i64) (.pair (.int .i64) (.pair (.int .i64) (.pair (.int .i64) (.pair .str (.pair .str .unit)))))))) .unit))),
  (123, .op),
  (124, .op),
  (125, .op),
  (126, .op),
  (127, .op),
  (128, .op),
  (129, .op),
  (130, .op),
  (131, .op),
  (132, (.int .u64)),
  (134, .op),
  (135, .op),
  (136, (.pair (.sl 5 (.int .u8)) (.pair (.int .i64) (.pair .bool .unit)))),
  (137, (.pair (.sl 5 (.int .u8)) (.pair (.int .i64) (.pair .bool .unit)))),
  (138, .op),
  (140, .op),
  (141, .op),
  (142, .op),
  (143, .op),
  (144, .op),
  (145, .op),
  (146, .op),
  (147, .op),
  (148, .op),
  (149, .op),
  (150, .op),
  (151, .op),
  (152, .op),
  (153, (.sl 65 (.sl 5 (.int .u8)))),
  (154, .op),
  (155, .op),
  (156, .op),
  (157, .op),
  (158, .op),
  (159, (.pair (.sl 5 (.int .u8)) (.pair (.int .i64) (.pair .bool .unit)))),
  (160, (.pair (.sl 5 (.int .u8)) (.pair (.int .i64) (.pair .bool .unit)))),
  (161, .op),
  (162, .op),
  (163, .op),
  (164, .op),
  (165, (.pair (.int .i64) (.pair (.sl 3 (.int .i64)) (.pair (.sl 3 (.int .i64)) (.pair (.sl 3 (.int .i64)) .unit))))),
  (166, (.pair (.int .i64) (.pair (.sl 3 (.int .i64)) (.pair (.sl 3 (.int .i64)) (.pair (.sl 3 (.int .i64)) .unit))))),
  (167, .op),
  (168, .op),
  (169, .op),
  (170, .op),
  (171, .op),
  (172, .op),
  (173, .op),
  (174, .op),
  (175, .op),
  (176, .op),
  (177, .op),
  (178, .op),
  (179, .op),
  (180, .op),
  (181, .op),
  (182, .op),
  (183, .op),
  (184, (.sl 228 (.pair (.int .i64) (.pair .str (.pair .str (.pair (.int .i64) (.pair (.int .i64) .unit))))))),
  (185, (.pair (.int .i64) (.pair (.int .i64) (.pair (.sl 228 (.pair (.int .i64) (.pair .str (.pair .str (.pair (.int .i64) (.pair (.int .i64) .unit)))))) .unit)))),
  (186, (.pair (.int .i64) (.pair (.int .i64) (.pair (.sl 228 (.pair (.int .i64) (.pair .str (.pair .str (.pair (.int .i64) (.pair (.int .i64) .unit)))))) .unit)))),
  (187, .op),
  (188, .op),
  (189, (.pair (.int .i64) (.pair (.int .i64) (.pair .str (.pair .str .unit))))),
  (190, (.pair (.int .i64) (.pair (.int .i64) (.pair .str (.pair .str .unit))))),
  (191, .op),
  (192, .op),
  (193, .op),
  (194, .op),
  (195, .op),
  (196, .op),
  (197, (.sl 236 (.pair (.int .i64) (.pair (.int .i64) .unit)))),
  (198, (.pair (.int .i64) (.pair (.int .i64) (.pair (.int .i64) (.pair (.int .i64) (.pair (.sl 236 (.pair (.int .i64) (.pair (.int .i64) .unit))) .unit)))))),
  (199, (.pair (.int .i64) (.pair (.int .i64) (.pair (.int .i64) (.pair (.int .i64) (.pair (.sl 236 (.pair (.int .i64) (.pair (.int .i64) .unit))) .unit)))))),
  (200, .op),
  (201, .op),
  (202, .op),
  (203, .op),
  (204, .op),
  (205, .op),
  (207, .op),
  (208, .op),
  (209, .op),
  (210, .op),
  (211, .op),
  (212, .op),
  (213, .op),
  (214, .op),
  (215, (.sl 250 (.pair (.int .i64) (.pair .str (.pair .str (.pair (.int .i64) (.pair (.int .i64) .unit))))))),
  (216, (.pair (.int .i64) (.pair (.int .i64) (.pair (.sl 250 (.pair (.int .i64) (.pair .str (.pair .str (.pair (.int .i64) (.pair (.int .i64) .unit)))))) .unit)))),
  (217, (.pair (.int .i64) (.pair (.int .i64) (.pair (.sl 250 (.pair (.int .i64) (.pair .str (.pair .str (.pair (.int .i64) (.pair (.int .i64) .unit)))))) .unit)))),
  (218, .op),
  (219, (.sl 253 (.pair (.int .i64) (.pair (.int .i64) .unit)))),
  (220, (.pair (.int .i64) (.pair (.int .i64) (.pair (.int .i64) (.pair (.int .i64) (.pair (.sl 253 (.pair (.int .i64) (.pair (.int .i64) .unit))) .unit)))))),
  (221, (.pair (.int .i64) (.pair (.int .i64) (.pair (.int .i64) (.pair (.int .i64) (.pair (.sl 253 (.pair (.int .i64) (.pair (.int .i64) .unit))) .unit)))))),
  (222, .op),
  (223, (.pair (.int .i64) (.pair (.sl 3 (.int .i64)) (.pair (.sl 3 (.int .i64)) (.pair (.sl 3 (.int .i64)) .unit))))),
  (224, .op),
  (225, (.pair (.int .i64) (.pair (.int .i64) (.pair .str (.pair .str .unit))))),
  (226, .op),
  (227, (.pair (.int .i64) (.pair .str (.pair .str (.pair (.int .i64) (.pair (.int .i64) .unit)))))),
  (228, (.pair (.int .i64) (.pair .str (.pair .str (.pair (.int .i64) (.pair (.int .i64) .unit)))))),
  (229, .op),
  (230, .op),
  (231, .op),
  (232, .op),
  (233, .op),
  (234, .op),
  (235, (.pair (.int .i64) (.pair (.int .i64) .unit))),
  (236, (.pair (.int .i64) (.pair (.int .i64) .unit))),
  (237, .op),
  (238, .op),
  (239, .op),
  (240, .op),
  (241, .op),
  (242, .op),
  (243, .op),
  (244, .op),
  (245, .op),
  (246, .op),
  (247, .op),
  (248, .op),
  (249, .op),
  (250, (.pair (.int .i64) (.pair .str (.pair .str (.pair (.int .i64) (.pair (.int .i64) .unit)))))),
  (251, .op),
  (252, .op),
  (253, (.pair (.int .i64) (.pair (.int .i64) .unit))),
  (259, (.int .u32)),
  (260, (.int .u8)),
  (261, (.int .u8)),
  (262, .op),
  (263, .op),
  (264, (.int .i32)),
  (265, (.int .i32))]
theorem tys : ∀ t T, find theta t = some T → tyF Try.prog T (.t t) = true := tys_of (by kernel_rfl)
theorem mixed : Try.prog.follows .mixedOrders = true := by kernel_rfl
namespace impl_within
noncomputable def fs : FS := ⟨[(.val (.int .i64) .f), (.val (.int .i64) .f), (.val (.int .i64) .f)], [(.bool, .o)], fun _ => true, fun x => ((), ((impl_within x.1 x.2.1 x.2.2.1), ()))⟩
noncomputable def E : Env := ⟨theta, []⟩
noncomputable def H : List LC := []
noncomputable def code (i : Nat) : Code := (loopsOf (bodyOf Try.f71)).getD i .skip
theorem run (x0 : Int) (x1 : Int) (x2 : Int) : runFn E H Try.f71 fs.ps fs.rs (x0, (x1, (x2, ()))) = raw x0 x1 x2 := by kernel_rfl
theorem env : EnvOk Try.prog E := env_nil tys
theorem loops : ∀ c, Try.f71.body = some c → LoopsOk E H c := loops_none (by kernel_rfl)
theorem sound : Sound Try.prog 71 fs := fn_sound env mixed Try.func71 H loops fun ⟨x0, x1, x2, ()⟩ hw _ => (run x0 x1 x2).trans (eq x0 x1 x2 hw)
theorem known : Seen Try.prog 71 fs := ⟨sound, _, Try.func71, by kernel_rfl, by kernel_rfl⟩
end impl_within
namespace spec_l1In
noncomputable def fs : FS := ⟨[(.val (.int .i64) .f), (.val (.int .i64) .f), (.val (.int .i64) .f)], [(.bool, .o)], fun _ => true, fun x => ((), ((spec_l1In x.1 x.2.1 x.2.2.1), ()))⟩
noncomputable def E : Env := ⟨theta, []⟩
noncomputable def H : List LC := []
noncomputable def code (i : Nat) : Code := (loopsOf (bodyOf Try.f69)).getD i .skip
theorem run (x0 : Int) (x1 : Int) (x2 : Int) : runFn E H Try.f69 fs.ps fs.rs (x0, (x1, (x2, ()))) = raw x0 x1 x2 := by kernel_rfl
theorem env : EnvOk Try.prog E := env_nil tys
theorem loops : ∀ c, Try.f69.body = some c → LoopsOk E H c := loops_none (by kernel_rfl)
theorem sound : Sound Try.prog 69 fs := fn_sound env mixed Try.func69 H loops fun ⟨x0, x1, x2, ()⟩ hw _ => (run x0 x1 x2).trans (eq x0 x1 x2 hw)
theorem known : Seen Try.prog 69 fs := ⟨sound, _, Try.func69, by kernel_rfl, by kernel_rfl⟩
end spec_l1In
namespace impl_wordsOk
noncomputable def fs : FS := ⟨[(.val .str .f)], [(.bool, .o)], fun _ => true, fun x => ((), ((impl_wordsOk x.1), ()))⟩
noncomputable def E : Env := ⟨theta, []⟩
noncomputable def sh2 : ShSt := ⟨[(.one (.dat .str)), (.one .undef), (.one .undef), (.one (.dat (.int .i64))), (.one .undef), (.one .undef), (.one .undef), (.one .undef), (.one .undef), (.one .undef), (.one .undef), (.one .undef), (.one .undef), (.one .undef), (.one .undef), (.one .undef), (.one .undef), (.one .undef), (.one .undef), (.one .undef), (.one .undef), (.one .undef), (.one .undef), (.one .undef), (.one .undef), (.one .undef), (.one .undef), (.one .undef), (.one .undef), (.one .undef), (.one .undef), (.one .undef), (.one .undef), (.one .undef), (.one .undef)], []⟩
noncomputable def outs2 : List OutC := [⟨.ret, ⟨0, [2], []⟩, ⟨[(.one .undef), (.one .undef), (.one (.dat .bool)), (.one .undef), (.one .undef), (.one .undef), (.one .undef), (.one .undef), (.one .undef), (.one .undef), (.one .undef), (.one .undef), (.one .undef), (.one .undef), (.one .undef), (.one .undef), (.one .undef), (.one .undef), (.one .undef), (.one .undef), (.one .undef), (.one .undef), (.one .undef), (.one .undef), (.one .undef), (.one .undef), (.one .undef), (.one .undef), (.one .undef), (.one .undef), (.one .undef), (.one .undef), (.one .undef), (.one .undef), (.one .undef)], []⟩⟩, ⟨(.exit 0), ⟨0, [0], []⟩, ⟨[(.one (.dat .str)), (.one .undef), (.one .undef), (.one .undef), (.one .undef), (.one .undef), (.one .undef), (.one .undef), (.one .undef), (.one .undef), (.one .undef), (.one .undef), (.one .undef), (.one .undef), (.one .undef), (.one .undef), (.one .undef), (.one .undef), (.one .undef), (.one .undef), (.one .undef), (.one .undef), (.one .undef), (.one .undef), (.one .undef), (.one .undef), (.one .undef), (.one .undef), (.one .undef), (.one .undef), (.one .undef), (.one .undef), (.one .undef), (.one .undef), (.one .undef)], []⟩⟩]
noncomputable def L2 : LC := ⟨2, ⟨2, [0, 3], []⟩, sh2, outs2, pre2, fn2⟩
noncomputable def H : List LC := [L2]
noncomputable def code (i : Nat) : Code := (loopsOf (bodyOf Try.f111)).getD i .skip
theorem step2 (x1 : (List UInt8)) (x2 : Int) : L2.step E H (code 0) (x1, (x2, ())) = raw2 x1 x2 := by kernel_rfl
theorem lok2 : LoopOk E H (code 0) L2 := ⟨mu2, fun ⟨x1, x2, ()⟩ hp => rounds_ok (step2 x1 x2) (ok2 x1 x2 hp)⟩
theorem run (x0 : (List UInt8)) : runFn E H Try.f111 fs.ps fs.rs (x0, ()) = raw x0 := by kernel_rfl
theorem env : EnvOk Try.prog E := env_nil tys
theorem loops : ∀ c, Try.f111.body = some c → LoopsOk E H c := loops_of (by kernel_rfl) (by kernel_rfl) fun i l h => match i, h with
  | 0, h => Option.some.inj h ▸ lok2
  | n + 1, h => by cases h
theorem sound : Sound Try.prog 111 fs := fn_sound env mixed Try.func111 H loops fun ⟨x0, ()⟩ hw _ => (run x0).trans (eq x0 hw)
theorem known : Seen Try.prog 111 fs := ⟨sound, _, Try.func111, by kernel_rfl, by kernel_rfl⟩
end impl_wordsOk
namespace spec_l2Text
noncomputable def fs : FS := ⟨[(.val .str .f)], [(.bool, .o)], fun _ => true, fun x => ((), ((spec_l2Text x.1), ()))⟩
noncomputable def E : Env := ⟨theta, []⟩
noncomputable def sh2 : ShSt := ⟨[(.one (.dat .str)), (.one .undef), (.one .undef), (.one (.dat (.int .i64))), (.one .undef), (.one .undef), (.one .undef), (.one .undef), (.one .undef), (.one .undef), (.one .undef), (.one .undef), (.one .undef), (.one .undef), (.one .undef), (.one .undef), (.one .undef), (.one .undef), (.one .undef), (.one .undef), (.one .undef), (.one .undef), (.one .undef), (.one .undef), (.one .undef), (.one .undef), (.one .undef), (.one .undef), (.one .undef), (.one .undef), (.one .undef), (.one .undef), (.one .undef), (.one .undef), (.one .undef), (.one .undef)], []⟩
noncomputable def outs2 : List OutC := [⟨.ret, ⟨0, [2], []⟩, ⟨[(.one .undef), (.one .undef), (.one (.dat .bool)), (.one .undef), (.one .undef), (.one .undef), (.one .undef), (.one .undef), (.one .undef), (.one .undef), (.one .undef), (.one .undef), (.one .undef), (.one .undef), (.one .undef), (.one .undef), (.one .undef), (.one .undef), (.one .undef), (.one .undef), (.one .undef), (.one .undef), (.one .undef), (.one .undef), (.one .undef), (.one .undef), (.one .undef), (.one .undef), (.one .undef), (.one .undef), (.one .undef), (.one .undef), (.one .undef), (.one .undef), (.one .undef), (.one .undef)], []⟩⟩, ⟨(.exit 0), ⟨0, [0], []⟩, ⟨[(.one (.dat .str)), (.one .undef), (.one .undef), (.one .undef), (.one .undef), (.one .undef), (.one .undef), (.one .undef), (.one .undef), (.one .undef), (.one .undef), (.one .undef), (.one .undef), (.one .undef), (.one .undef), (.one .undef), (.one .undef), (.one .undef), (.one .undef), (.one .undef), (.one .undef), (.one .undef), (.one .undef), (.one .undef), (.one .undef), (.one .undef), (.one .undef), (.one .undef), (.one .undef), (.one .undef), (.one .undef), (.one .undef), (.one .undef), (.one .undef), (.one .undef), (.one .undef)], []⟩⟩]
noncomputable def L2 : LC := ⟨2, ⟨2, [0, 3], []⟩, sh2, outs2, pre2, fn2⟩
noncomputable def H : List LC := [L2]
noncomputable def code (i : Nat) : Code := (loopsOf (bodyOf Try.f110)).getD i .skip
theorem step2 (x1 : (List UInt8)) (x2 : Int) : L2.step E H (code 0) (x1, (x2, ())) = raw2 x1 x2 := by kernel_rfl
theorem lok2 : LoopOk E H (code 0) L2 := ⟨mu2, fun ⟨x1, x2, ()⟩ hp => rounds_ok (step2 x1 x2) (ok2 x1 x2 hp)⟩
theorem run (x0 : (List UInt8)) : runFn E H Try.f110 fs.ps fs.rs (x0, ()) = raw x0 := by kernel_rfl
theorem env : EnvOk Try.prog E := env_nil tys
theorem loops : ∀ c, Try.f110.body = some c → LoopsOk E H c := loops_of (by kernel_rfl) (by kernel_rfl) fun i l h => match i, h with
  | 0, h => Option.some.inj h ▸ lok2
  | n + 1, h => by cases h
theorem sound : Sound Try.prog 110 fs := fn_sound env mixed Try.func110 H loops fun ⟨x0, ()⟩ hw _ => (run x0).trans (eq x0 hw)
theorem known : Seen Try.prog 110 fs := ⟨sound, _, Try.func110, by kernel_rfl, by kernel_rfl⟩
end spec_l2Text
namespace impl_CmdOk
noncomputable def fs : FS := ⟨[(.val (.pair (.int .i64) (.pair (.int .i64) (.pair (.int .i64) (.pair (.int .i64) (.pair (.int .i64) (.pair (.int .i64) (.pair .str (.pair .str .unit)))))))) .f)], [(.bool, .o)], fun _ => true, fun x => ((), ((impl_CmdOk x.1), ()))⟩
noncomputable def E : Env := ⟨theta, [(71, impl_within.fs), (111, impl_wordsOk.fs)]⟩
noncomputable def H : List LC := []
noncomputable def code (i : Nat) : Code := (loopsOf (bodyOf Try.f72)).getD i .skip
theorem run (x0 : Cmd) : runFn E H Try.f72 fs.ps fs.rs (x0, ()) = raw x0 := by kernel_rfl
theorem env : EnvOk Try.prog E := env_cons impl_within.known (env_cons impl_wordsOk.known (env_nil tys))
theorem loops : ∀ c, Try.f72.body = some c → LoopsOk E H c := loops_none (by kernel_rfl)
theorem sound : Sound Try.prog 72 fs := fn_sound env mixed Try.func72 H loops fun ⟨x0, ()⟩ hw _ => (run x0).trans (eq x0 hw)
theorem known : Seen Try.prog 72 fs := ⟨sound, _, Try.func72, by kernel_rfl, by kernel_rfl⟩
end impl_CmdOk
namespace spec_CmdOk
noncomputable def fs : FS := ⟨[(.val (.pair (.int .i64) (.pair (.int .i64) (.pair (.int .i64) (.pair (.int .i64) (.pair (.int .i64) (.pair (.int .i64) (.pair .str (.pair .str .unit)))))))) .f)], [(.bool, .o)], fun _ => true, fun x => ((), ((spec_CmdOk x.1), ()))⟩
noncomputable def E : Env := ⟨theta, [(69, spec_l1In.fs), (110, spec_l2Text.fs)]⟩
noncomputable def H : List LC := []
noncomputable def code (i : Nat) : Code := (loopsOf (bodyOf Try.f70)).getD i .skip
theorem run (x0 : Cmd) : runFn E H Try.f70 fs.ps fs.rs (x0, ()) = raw x0 := by kernel_rfl
theorem env : EnvOk Try.prog E := env_cons spec_l1In.known (env_cons spec_l2Text.known (env_nil tys))
theorem loops : ∀ c, Try.f70.body = some c → LoopsOk E H c := loops_none (by kernel_rfl)
theorem sound : Sound Try.prog 70 fs := fn_sound env mixed Try.func70 H loops fun ⟨x0, ()⟩ hw _ => (run x0).trans (eq x0 hw)
theorem known : Seen Try.prog 70 fs := ⟨sound, _, Try.func70, by kernel_rfl, by kernel_rfl⟩
end spec_CmdOk
namespace laws_szCmd
noncomputable def fs : FS := ⟨[(.val (.pair (.int .i64) (.pair (.int .i64) (.pair (.int .i64) (.pair (.int .i64) (.pair (.int .i64) (.pair (.int .i64) (.pair .str (.pair .str .unit)))))))) .f), (.val (.int .i64) .f)], [((.int .i64), .o)], fun _ => true, fun x => ((), ((laws_szCmd x.1 x.2.1), ()))⟩
noncomputable def E : Env := ⟨theta, []⟩
noncomputable def H : List LC := []
noncomputable def code (i : Nat) : Code := (loopsOf (bodyOf Try.f113)).getD i .skip
theorem run (x0 : Cmd) (x1 : Int) : runFn E H Try.f113 fs.ps fs.rs (x0, (x1, ())) = raw x0 x1 := by kernel_rfl
theorem env : EnvOk Try.prog E := env_nil tys
theorem loops : ∀ c, Try.f113.body = some c → LoopsOk E H c := loops_none (by kernel_rfl)
theorem sound : Sound Try.prog 113 fs := fn_sound env mixed Try.func113 H loops fun ⟨x0, x1, ()⟩ hw _ => (run x0 x1).trans (eq x0 x1 hw)
theorem known : Seen Try.prog 113 fs := ⟨sound, _, Try.func113, by kernel_rfl, by kernel_rfl⟩
end laws_szCmd
namespace laws_szEntry
noncomputable def fs : FS := ⟨[(.val (.pair (.int .i64) (.pair (.pair (.int .i64) (.pair (.int .i64) (.pair (.int .i64) (.pair (.int .i64) (.pair (.int .i64) (.pair (.int .i64) (.pair .str (.pair .str .unit)))))))) .unit)) .f), (.val (.int .i64) .f)], [((.int .i64), .o)], fun _ => true, fun x => ((), ((laws_szEntry x.1 x.2.1), ()))⟩
noncomputable def E : Env := ⟨theta, [(113, laws_szCmd.fs)]⟩
noncomputable def H : List LC := []
noncomputable def code (i : Nat) : Code := (loopsOf (bodyOf Try.f81)).getD i .skip
theorem run (x0 : Entry) (x1 : Int) : runFn E H Try.f81 fs.ps fs.rs (x0, (x1, ())) = raw x0 x1 := by kernel_rfl
theorem env : EnvOk Try.prog E := env_cons laws_szCmd.known (env_nil tys)
theorem loops : ∀ c, Try.f81.body = some c → LoopsOk E H c := loops_none (by kernel_rfl)
theorem sound : Sound Try.prog 81 fs := fn_sound env mixed Try.func81 H loops fun ⟨x0, x1, ()⟩ hw _ => (run x0 x1).trans (eq x0 x1 hw)
theorem known : Seen Try.prog 81 fs := ⟨sound, _, Try.func81, by kernel_rfl, by kernel_rfl⟩
end laws_szEntry
namespace laws_szEntryS
noncomputable def fs : FS := ⟨[(.val (.sl 122 (.pair (.int .i64) (.pair (.pair (.int .i64) (.pair (.int .i64) (.pair (.int .i64) (.pair (.int .i64) (.pair (.int .i64) (.pair (.int .i64) (.pair .str (.pair .str .unit)))))))) .unit))) .f), (.val (.int .i64) .f)], [((.int .i64), .o)], fun _ => true, fun x => ((), ((laws_szEntryS x.1 x.2.1), ()))⟩
noncomputable def E : Env := ⟨theta, [(81, laws_szEntry.fs)]⟩
noncomputable def sh5 : ShSt := ⟨[(.one (.dat (.sl 122 (.pair (.int .i64) (.pair (.pair (.int .i64) (.pair (.int .i64) (.pair (.int .i64) (.pair (.int .i64) (.pair (.int .i64) (.pair (.int .i64) (.pair .str (.pair .str .unit)))))))) .unit))))), (.one (.dat (.int .i64))), (.one .undef), (.one .undef), (.one .undef), (.one (.dat (.int .i64))), (.one .undef), (.one .undef), (.one .undef), (.one .undef), (.one .undef), (.one .undef), (.one .undef), (.one .undef), (.one .undef), (.one .undef), (.one .undef), (.one .undef), (.one .undef), (.one .undef), (.one .undef), (.one .undef), (.one .undef), (.one .undef), (.one .undef), (.one .undef), (.one .undef)], []⟩
noncomputable def outs5 : List OutC := [⟨.ret, ⟨0, [4], []⟩, ⟨[(.one .undef), (.one .undef), (.one .undef), (.one .undef), (.one (.dat (.int .i64))), (.one .undef), (.one .undef), (.one .undef), (.one .undef), (.one .undef), (.one .undef), (.one .undef), (.one .undef), (.one .undef), (.one .undef), (.one .undef), (.one .undef), (.one .undef), (.one .undef), (.one .undef), (.one .undef), (.one .undef), (.one .undef), (.one .undef), (.one .undef), (.one .undef), (.one .undef)], []⟩⟩, ⟨(.exit 0), ⟨0, [1], []⟩, ⟨[(.one .undef), (.one (.dat (.int .i64))), (.one .undef), (.one .undef), (.one .undef), (.one .undef), (.one .undef), (.one .undef), (.one .undef), (.one .undef), (.one .undef), (.one .undef), (.one .undef), (.one .undef), (.one .undef), (.one .undef), (.one .undef), (.one .undef), (.one .undef), (.one .undef), (.one .undef), (.one .undef), (.one .undef), (.one .undef), (.one .undef), (.one .undef), (.one .undef)], []⟩⟩]
noncomputable def L5 : LC := ⟨5, ⟨5, [0, 5, 1], []⟩, sh5, outs5, pre5, fn5⟩
noncomputable def H : List LC := [L5]
noncomputable def code (i : Nat) : Code := (loopsOf (bodyOf Try.f38)).getD i .skip
theorem step5 (x1 : (List Entry)) (x2 : Int) (x3 : Int) : L5.step E H (code 0) (x1, (x2, (x3, ()))) = raw5 x1 x2 x3 := by kernel_rfl
theorem lok5 : LoopOk E H (code 0) L5 := ⟨mu5, fun ⟨x1, x2, x3, ()⟩ hp => rounds_ok (step5 x1 x2 x3) (ok5 x1 x2 x3 hp)⟩
theorem run (x0 : (List Entry)) (x1 : Int) : runFn E H Try.f38 fs.ps fs.rs (x0, (x1, ())) = raw x0 x1 := by kernel_rfl
theorem env : EnvOk Try.prog E := env_cons laws_szEntry.known (env_nil tys)
theorem loops : ∀ c, Try.f38.body = some c → LoopsOk E H c := loops_of (by kernel_rfl) (by kernel_rfl) fun i l h => match i, h with
  | 0, h => Option.some.inj h ▸ lok5
  | n + 1, h => by cases h
theorem sound : Sound Try.prog 38 fs := fn_sound env mixed Try.func38 H loops fun ⟨x0, x1, ()⟩ hw _ => (run x0 x1).trans (eq x0 x1 hw)
theorem known : Seen Try.prog 38 fs := ⟨sound, _, Try.func38, by kernel_rfl, by kernel_rfl⟩
end laws_szEntryS
namespace laws_szLog
noncomputable def fs : FS := ⟨[(.val (.pair (.int .i64) (.pair (.int .i64) (.pair (.sl 122 (.pair (.int .i64) (.pair (.pair (.int .i64) (.pair (.int .i64) (.pair (.int .i64) (.pair (.int .i64) (.pair (.int .i64) (.pair (.int .i64) (.pair .str (.pair .str .unit)))))))) .unit))) .unit))) .f), (.val (.int .i64) .f)], [((.int .i64), .o)], fun _ => true, fun x => ((), ((laws_szLog x.1 x.2.1), ()))⟩
noncomputable def E : Env := ⟨theta, [(38, laws_szEntryS.fs)]⟩
noncomputable def H : List LC := []
noncomputable def code (i : Nat) : Code := (loopsOf (bodyOf Try.f15)).getD i .skip
theorem run (x0 : Log) (x1 : Int) : runFn E H Try.f15 fs.ps fs.rs (x0, (x1, ())) = raw x0 x1 := by kernel_rfl
theorem env : EnvOk Try.prog E := env_cons laws_szEntryS.known (env_nil tys)
theorem loops : ∀ c, Try.f15.body = some c → LoopsOk E H c := loops_none (by kernel_rfl)
theorem sound : Sound Try.prog 15 fs := fn_sound env mixed Try.func15 H loops fun ⟨x0, x1, ()⟩ hw _ => (run x0 x1).trans (eq x0 x1 hw)
theorem known : Seen Try.prog 15 fs := ⟨sound, _, Try.func15, by kernel_rfl, by kernel_rfl⟩
end laws_szLog
namespace laws_toCmd
noncomputable def fs : FS := ⟨[(.val (.pair (.int .i64) (.pair (.int .i64) (.pair (.int .i64) (.pair (.int .i64) (.pair (.int .i64) (.pair (.int .i64) (.pair .str (.pair .str .unit)))))))) .f)], [((.pair (.int .i64) (.pair (.int .i64) (.pair (.int .i64) (.pair (.int .i64) (.pair (.int .i64) (.pair (.int .i64) (.pair .str (.pair .str .unit)))))))), .o)], fun _ => true, fun x => ((), ((laws_toCmd x.1), ()))⟩
noncomputable def E : Env := ⟨theta, []⟩
noncomputable def H : List LC := []
noncomputable def code (i : Nat) : Code := (loopsOf (bodyOf Try.f114)).getD i .skip
theorem run (x0 : Cmd) : runFn E H Try.f114 fs.ps fs.rs (x0, ()) = raw x0 := by kernel_rfl
theorem env : EnvOk Try.prog E := env_nil tys
theorem loops : ∀ c, Try.f114.body = some c → LoopsOk E H c := loops_none (by kernel_rfl)
theorem sound : Sound Try.prog 114 fs := fn_sound env mixed Try.func114 H loops fun ⟨x0, ()⟩ hw _ => (run x0).trans (eq x0 hw)
theorem known : Seen Try.prog 114 fs := ⟨sound, _, Try.func114, by kernel_rfl, by kernel_rfl⟩
end laws_toCmd
namespace laws_toEntry
noncomputable def fs : FS := ⟨[(.val (.pair (.int .i64) (.pair (.pair (.int .i64) (.pair (.int .i64) (.pair (.int .i64) (.pair (.int .i64) (.pair (.int .i64) (.pair (.int .i64) (.pair .str (.pair .str .unit)))))))) .unit)) .f)], [((.pair (.int .i64) (.pair (.pair (.int .i64) (.pair (.int .i64) (.pair (.int .i64) (.pair (.int .i64) (.pair (.int .i64) (.pair (.int .i64) (.pair .str (.pair .str .unit)))))))) .unit)), .o)], fun _ => true, fun x => ((), ((laws_toEntry x.1), ()))⟩
noncomputable def E : Env := ⟨theta, [(114, laws_toCmd.fs)]⟩
noncomputable def H : List LC := []
noncomputable def code (i : Nat) : Code := (loopsOf (bodyOf Try.f83)).getD i .skip
theorem run (x0 : Entry) : runFn E H Try.f83 fs.ps fs.rs (x0, ()) = raw x0 := by kernel_rfl
theorem env : EnvOk Try.prog E := env_cons laws_toCmd.known (env_nil tys)
theorem loops : ∀ c, Try.f83.body = some c → LoopsOk E H c := loops_none (by kernel_rfl)
theorem sound : Sound Try.prog 83 fs := fn_sound env mixed Try.func83 H loops fun ⟨x0, ()⟩ hw _ => (run x0).trans (eq x0 hw)
theorem known : Seen Try.prog 83 fs := ⟨sound, _, Try.func83, by kernel_rfl, by kernel_rfl⟩
end laws_toEntry
namespace laws_toEntryS
noncomputable def fs : FS := ⟨[(.val (.sl 122 (.pair (.int .i64) (.pair (.pair (.int .i64) (.pair (.int .i64) (.pair (.int .i64) (.pair (.int .i64) (.pair (.int .i64) (.pair (.int .i64) (.pair .str (.pair .str .unit)))))))) .unit))) .f)], [((.sl 112 (.pair (.int .i64) (.pair (.pair (.int .i64) (.pair (.int .i64) (.pair (.int .i64) (.pair (.int .i64) (.pair (.int .i64) (.pair (.int .i64) (.pair .str (.pair .str .unit)))))))) .unit))), .o)], fun x => laws_toEntryS.pre x.1, fun x => ((), ((laws_toEntryS x.1), ()))⟩
noncomputable def E : Env := ⟨theta, [(83, laws_toEntry.fs)]⟩
noncomputable def sh3 : ShSt := ⟨[(.one (.dat (.sl 122 (.pair (.int .i64) (.pair (.pair (.int .i64) (.pair (.int .i64) (.pair (.int .i64) (.pair (.int .i64) (.pair (.int .i64) (.pair (.int .i64) (.pair .str (.pair .str .unit)))))))) .unit))))), (.one .undef), (.one .undef), (.one (.arr 20000000)), (.one (.dat (.int .i64))), (.one .undef), (.one .undef), (.one .undef), (.one .undef), (.one .undef), (.one .undef), (.one .undef), (.one .undef), (.one .undef), (.one .undef), (.one .undef), (.one .undef), (.one .undef), (.one .undef), (.one .undef), (.one .undef), (.one .undef), (.one .undef)], [(20000000, (.arr 112 (.pair (.int .i64) (.pair (.pair (.int .i64) (.pair (.int .i64) (.pair (.int .i64) (.pair (.int .i64) (.pair (.int .i64) (.pair (.int .i64) (.pair .str (.pair .str .unit)))))))) .unit))))]⟩
noncomputable def outs3 : List OutC := [⟨(.exit 0), ⟨0, [3], []⟩, ⟨[(.one .undef), (.one .undef), (.one .undef), (.one (.arr 20000000)), (.one .undef), (.one .undef), (.one .undef), (.one .undef), (.one .undef), (.one .undef), (.one .undef), (.one .undef), (.one .undef), (.one .undef), (.one .undef), (.one .undef), (.one .undef), (.one .undef), (.one .undef), (.one .undef), (.one .undef), (.one .undef), (.one .undef)], [(20000000, (.arr 112 (.pair (.int .i64) (.pair (.pair (.int .i64) (.pair (.int .i64) (.pair (.int .i64) (.pair (.int .i64) (.pair (.int .i64) (.pair (.int .i64) (.pair .str (.pair .str .unit)))))))) .unit))))]⟩⟩]
noncomputable def L3 : LC := ⟨3, ⟨3, [0, 3, 4], []⟩, sh3, outs3, pre3, fn3⟩
noncomputable def H : List LC := [L3]
noncomputable def code (i : Nat) : Code := (loopsOf (bodyOf Try.f40)).getD i .skip
theorem step3 (x1 : (List Entry)) (x2 : Int) (x3 : (List Entry)) : L3.step E H (code 0) (x1, (x2, (x3, ()))) = raw3 x1 x2 x3 := by kernel_rfl
theorem lok3 : LoopOk E H (code 0) L3 := ⟨mu3, fun ⟨x1, x2, x3, ()⟩ hp => rounds_ok (step3 x1 x2 x3) (ok3 x1 x2 x3 hp)⟩
theorem run (x0 : (List Entry)) : runFn E H Try.f40 fs.ps fs.rs (x0, ()) = raw x0 := by kernel_rfl
theorem env : EnvOk Try.prog E := env_cons laws_toEntry.known (env_nil tys)
theorem loops : ∀ c, Try.f40.body = some c → LoopsOk E H c := loops_of (by kernel_rfl) (by kernel_rfl) fun i l h => match i, h with
  | 0, h => Option.some.inj h ▸ lok3
  | n + 1, h => by cases h
theorem sound : Sound Try.prog 40 fs := fn_sound env mixed Try.func40 H loops fun ⟨x0, ()⟩ hw hp => (run x0).trans (eq x0 hw hp)
theorem known : Seen Try.prog 40 fs := ⟨sound, _, Try.func40, by kernel_rfl, by kernel_rfl⟩
end laws_toEntryS
namespace laws_toLog
noncomputable def fs : FS := ⟨[(.val (.pair (.int .i64) (.pair (.int .i64) (.pair (.sl 122 (.pair (.int .i64) (.pair (.pair (.int .i64) (.pair (.int .i64) (.pair (.int .i64) (.pair (.int .i64) (.pair (.int .i64) (.pair (.int .i64) (.pair .str (.pair .str .unit)))))))) .unit))) .unit))) .f)], [((.pair (.int .i64) (.pair (.int .i64) (.pair (.sl 112 (.pair (.int .i64) (.pair (.pair (.int .i64) (.pair (.int .i64) (.pair (.int .i64) (.pair (.int .i64) (.pair (.int .i64) (.pair (.int .i64) (.pair .str (.pair .str .unit)))))))) .unit))) .unit))), .o)], fun x => laws_toLog.pre x.1, fun x => ((), ((laws_toLog x.1), ()))⟩
noncomputable def E : Env := ⟨theta, [(40, laws_toEntryS.fs)]⟩
noncomputable def H : List LC := []
noncomputable def code (i : Nat) : Code := (loopsOf (bodyOf Try.f17)).getD i .skip
theorem run (x0 : Log) : runFn E H Try.f17 fs.ps fs.rs (x0, ()) = raw x0 := by kernel_rfl
theorem env : EnvOk Try.prog E := env_cons laws_toEntryS.known (env_nil tys)
theorem loops : ∀ c, Try.f17.body = some c → LoopsOk E H c := loops_none (by kernel_rfl)
theorem sound : Sound Try.prog 17 fs := fn_sound env mixed Try.func17 H loops fun ⟨x0, ()⟩ hw hp => (run x0).trans (eq x0 hw hp)
theorem known : Seen Try.prog 17 fs := ⟨sound, _, Try.func17, by kernel_rfl, by kernel_rfl⟩
end laws_toLog
namespace laws_eqCmd
noncomputable def fs : FS := ⟨[(.val (.pair (.int .i64) (.pair (.int .i64) (.pair (.int .i64) (.pair (.int .i64) (.pair (.int .i64) (.pair (.int .i64) (.pair .str (.pair .str .unit)))))))) .f), (.val (.pair (.int .i64) (.pair (.int .i64) (.pair (.int .i64) (.pair (.int .i64) (.pair (.int .i64) (.pair (.int .i64) (.pair .str (.pair .str .unit)))))))) .f)], [(.bool, .o)], fun _ => true, fun x => ((), ((laws_eqCmd x.1 x.2.1), ()))⟩
noncomputable def E : Env := ⟨theta, []⟩
noncomputable def H : List LC := []
noncomputable def code (i : Nat) : Code := (loopsOf (bodyOf Try.f115)).getD i .skip
theorem run (x0 : Cmd) (x1 : Cmd) : runFn E H Try.f115 fs.ps fs.rs (x0, (x1, ())) = raw x0 x1 := by kernel_rfl
theorem env : EnvOk Try.prog E := env_nil tys
theorem loops : ∀ c, Try.f115.body = some c → LoopsOk E H c := loops_none (by kernel_rfl)
theorem sound : Sound Try.prog 115 fs := fn_sound env mixed Try.func115 H loops fun ⟨x0, x1, ()⟩ hw _ => (run x0 x1).trans (eq x0 x1 hw)
theorem known : Seen Try.prog 115 fs := ⟨sound, _, Try.func115, by kernel_rfl, by kernel_rfl⟩
end laws_eqCmd
namespace laws_eqEntry
noncomputable def fs : FS := ⟨[(.val (.pair (.int .i64) (.pair (.pair (.int .i64) (.pair (.int .i64) (.pair (.int .i64) (.pair (.int .i64) (.pair (.int .i64) (.pair (.int .i64) (.pair .str (.pair .str .unit)))))))) .unit)) .f), (.val (.pair (.int .i64) (.pair (.pair (.int .i64) (.pair (.int .i64) (.pair (.int .i64) (.pair (.int .i64) (.pair (.int .i64) (.pair (.int .i64) (.pair .str (.pair .str .unit)))))))) .unit)) .f)], [(.bool, .o)], fun _ => true, fun x => ((), ((laws_eqEntry x.1 x.2.1), ()))⟩
noncomputable def E : Env := ⟨theta, [(115, laws_eqCmd.fs)]⟩
noncomputable def H : List LC := []
noncomputable def code (i : Nat) : Code := (loopsOf (bodyOf Try.f85)).getD i .skip
theorem run (x0 : Entry) (x1 : Entry) : runFn E H Try.f85 fs.ps fs.rs (x0, (x1, ())) = raw x0 x1 := by kernel_rfl
theorem env : EnvOk Try.prog E := env_cons laws_eqCmd.known (env_nil tys)
theorem loops : ∀ c, Try.f85.body = some c → LoopsOk E H c := loops_none (by kernel_rfl)
theorem sound : Sound Try.prog 85 fs := fn_sound env mixed Try.func85 H loops fun ⟨x0, x1, ()⟩ hw _ => (run x0 x1).trans (eq x0 x1 hw)
theorem known : Seen Try.prog 85 fs := ⟨sound, _, Try.func85, by kernel_rfl, by kernel_rfl⟩
end laws_eqEntry
namespace laws_eqEntryS
noncomputable def fs : FS := ⟨[(.val (.sl 112 (.pair (.int .i64) (.pair (.pair (.int .i64) (.pair (.int .i64) (.pair (.int .i64) (.pair (.int .i64) (.pair (.int .i64) (.pair (.int .i64) (.pair .str (.pair .str .unit)))))))) .unit))) .f), (.val (.sl 112 (.pair (.int .i64) (.pair (.pair (.int .i64) (.pair (.int .i64) (.pair (.int .i64) (.pair (.int .i64) (.pair (.int .i64) (.pair (.int .i64) (.pair .str (.pair .str .unit)))))))) .unit))) .f)], [(.bool, .o)], fun _ => true, fun x => ((), ((laws_eqEntryS x.1 x.2.1), ()))⟩
noncomputable def E : Env := ⟨theta, [(85, laws_eqEntry.fs)]⟩
noncomputable def sh4 : ShSt := ⟨[(.one (.dat (.sl 112 (.pair (.int .i64) (.pair (.pair (.int .i64) (.pair (.int .i64) (.pair (.int .i64) (.pair (.int .i64) (.pair (.int .i64) (.pair (.int .i64) (.pair .str (.pair .str .unit)))))))) .unit))))), (.one (.dat (.sl 112 (.pair (.int .i64) (.pair (.pair (.int .i64) (.pair (.int .i64) (.pair (.int .i64) (.pair (.int .i64) (.pair (.int .i64) (.pair (.int .i64) (.pair .str (.pair .str .unit)))))))) .unit))))), (.one .undef), (.one .undef), (.one .undef), (.one (.dat (.int .i64))), (.one .undef), (.one .undef), (.one .undef), (.one .undef), (.one .undef), (.one .undef), (.one .undef), (.one .undef), (.one .undef), (.one .undef), (.one .undef), (.one .undef), (.one .undef), (.one .undef), (.one .undef), (.one .undef), (.one .undef), (.one .undef), (.one .undef), (.one .undef), (.one .undef)], []⟩
noncomputable def outs4 : List OutC := [⟨.ret, ⟨0, [4], []⟩, ⟨[(.one .undef), (.one .undef), (.one .undef), (.one .undef), (.one (.dat .bool)), (.one .undef), (.one .undef), (.one .undef), (.one .undef), (.one .undef), (.one .undef), (.one .undef), (.one .undef), (.one .undef), (.one .undef), (.one .undef), (.one .undef), (.one .undef), (.one .undef), (.one .undef), (.one .undef), (.one .undef), (.one .undef), (.one .undef), (.one .undef), (.one .undef), (.one .undef)], []⟩⟩, ⟨(.exit 0), ⟨0, [], []⟩, ⟨[(.one .undef), (.one .undef), (.one .undef), (.one .undef), (.one .undef), (.one .undef), (.one .undef), (.one .undef), (.one .undef), (.one .undef), (.one .undef), (.one .undef), (.one .undef), (.one .undef), (.one .undef), (.one .undef), (.one .undef), (.one .undef), (.one .undef), (.one .undef), (.one .undef), (.one .undef), (.one .undef), (.one .undef), (.one .undef), (.one .undef), (.one .undef)], []⟩⟩]
noncomputable def L4 : LC := ⟨4, ⟨4, [1, 0, 5], []⟩, sh4, outs4, pre4, fn4⟩
noncomputable def H : List LC := [L4]
noncomputable def code (i : Nat) : Code := (loopsOf (bodyOf Try.f42)).getD i .skip
theorem step4 (x1 : (List Entry)) (x2 : (List Entry)) (x3 : Int) : L4.step E H (code 0) (x1, (x2, (x3, ()))) = raw4 x1 x2 x3 := by kernel_rfl
theorem lok4 : LoopOk E H (code 0) L4 := ⟨mu4, fun ⟨x1, x2, x3, ()⟩ hp => rounds_ok (step4 x1 x2 x3) (ok4 x1 x2 x3 hp)⟩
theorem run (x0 : (List Entry)) (x1 : (List Entry)) : runFn E H Try.f42 fs.ps fs.rs (x0, (x1, ())) = raw x0 x1 := by kernel_rfl
theorem env : EnvOk Try.prog E := env_cons laws_eqEntry.known (env_nil tys)
theorem loops : ∀ c, Try.f42.body = some c → LoopsOk E H c := loops_of (by kernel_rfl) (by kernel_rfl) fun i l h => match i, h with
  | 0, h => Option.some.inj h ▸ lok4
  | n + 1, h => by cases h
theorem sound : Sound Try.prog 42 fs := fn_sound env mixed Try.func42 H loops fun ⟨x0, x1, ()⟩ hw _ => (run x0 x1).trans (eq x0 x1 hw)
theorem known : Seen Try.prog 42 fs := ⟨sound, _, Try.func42, by kernel_rfl, by kernel_rfl⟩
end laws_eqEntryS
namespace laws_eqLog
noncomputable def fs : FS := ⟨[(.val (.pair (.int .i64) (.pair (.int .i64) (.pair (.sl 112 (.pair (.int .i64) (.pair (.pair (.int .i64) (.pair (.int .i64) (.pair (.int .i64) (.pair (.int .i64) (.pair (.int .i64) (.pair (.int .i64) (.pair .str (.pair .str .unit)))))))) .unit))) .unit))) .f), (.val (.pair (.int .i64) (.pair (.int .i64) (.pair (.sl 112 (.pair (.int .i64) (.pair (.pair (.int .i64) (.pair (.int .i64) (.pair (.int .i64) (.pair (.int .i64) (.pair (.int .i64) (.pair (.int .i64) (.pair .str (.pair .str .unit)))))))) .unit))) .unit))) .f)], [(.bool, .o)], fun _ => true, fun x => ((), ((laws_eqLog x.1 x.2.1), ()))⟩
noncomputable def E : Env := ⟨theta, [(42, laws_eqEntryS.fs)]⟩
noncomputable def H : List LC := []
noncomputable def code (i : Nat) : Code := (loopsOf (bodyOf Try.f19)).getD i .skip
theorem run (x0 : Log) (x1 : Log) : runFn E H Try.f19 fs.ps fs.rs (x0, (x1, ())) = raw x0 x1 := by kernel_rfl
theorem env : EnvOk Try.prog E := env_cons laws_eqEntryS.known (env_nil tys)
theorem loops : ∀ c, Try.f19.body = some c → LoopsOk E H c := loops_none (by kernel_rfl)
theorem sound : Sound Try.prog 19 fs := fn_sound env mixed Try.func19 H loops fun ⟨x0, x1, ()⟩ hw _ => (run x0 x1).trans (eq x0 x1 hw)
theorem known : Seen Try.prog 19 fs := ⟨sound, _, Try.func19, by kernel_rfl, by kernel_rfl⟩
end laws_eqLog
namespace laws_markText
noncomputable def fs : FS := ⟨[(.val (.int .i64) .f)], [(.str, .o)], fun x => laws_markText.pre x.1, fun x => ((), ((laws_markText x.1), ()))⟩
noncomputable def E : Env := ⟨theta, []⟩
noncomputable def sh4 : ShSt := ⟨[(.one (.dat (.int .i64))), (.one .undef), (.one .undef), (.one (.dat .str)), (.one .undef), (.one .undef), (.one .undef), (.one .undef), (.one .undef), (.one .undef), (.one .undef), (.one .undef), (.one .undef), (.one .undef), (.one .undef), (.one .undef), (.one .undef), (.one .undef), (.one .undef), (.one .undef)], []⟩
noncomputable def outs4 : List OutC := [⟨(.exit 0), ⟨0, [3], []⟩, ⟨[(.one .undef), (.one .undef), (.one .undef), (.one (.dat .str)), (.one .undef), (.one .undef), (.one .undef), (.one .undef), (.one .undef), (.one .undef), (.one .undef), (.one .undef), (.one .undef), (.one .undef), (.one .undef), (.one .undef), (.one .undef), (.one .undef), (.one .undef), (.one .undef)], []⟩⟩]
noncomputable def L4 : LC := ⟨4, ⟨4, [0, 3], []⟩, sh4, outs4, pre4, fn4⟩
noncomputable def H : List LC := [L4]
noncomputable def code (i : Nat) : Code := (loopsOf (bodyOf Try.f86)).getD i .skip
theorem step4 (x1 : Int) (x2 : (List UInt8)) : L4.step E H (code 0) (x1, (x2, ())) = raw4 x1 x2 := by kernel_rfl
theorem lok4 : LoopOk E H (code 0) L4 := ⟨mu4, fun ⟨x1, x2, ()⟩ hp => rounds_ok (step4 x1 x2) (ok4 x1 x2 hp)⟩
theorem run (x0 : Int) : runFn E H Try.f86 fs.ps fs.rs (x0, ()) = raw x0 := by kernel_rfl
theorem env : EnvOk Try.prog E := env_nil tys
theorem loops : ∀ c, Try.f86.body = some c → LoopsOk E H c := loops_of (by kernel_rfl) (by kernel_rfl) fun i l h => match i, h with
  | 0, h => Option.some.inj h ▸ lok4
  | n + 1, h => by cases h
theorem sound : Sound Try.prog 86 fs := fn_sound env mixed Try.func86 H loops fun ⟨x0, ()⟩ hw hp => (run x0).trans (eq x0 hw hp)
theorem known : Seen Try.prog 86 fs := ⟨sound, _, Try.func86, by kernel_rfl, by kernel_rfl⟩
end laws_markText
namespace laws_markEntryS
noncomputable def fs : FS := ⟨[(.mut (.sl 112 (.pair (.int .i64) (.pair (.pair (.int .i64) (.pair (.int .i64) (.pair (.int .i64) (.pair (.int .i64) (.pair (.int .i64) (.pair (.int .i64) (.pair .str (.pair .str .unit)))))))) .unit)))), (.val (.int .i64) .f)], [((.int .i64), .o)], fun x => laws_markEntryS.pre x.1 x.2.1, fun x => (((laws_markEntryS x.1 x.2.1).1, ()), ((laws_markEntryS x.1 x.2.1).2, ()))⟩
noncomputable def E : Env := ⟨theta, [(86, laws_markText.fs)]⟩
noncomputable def sh2 : ShSt := ⟨[(.one (.arr 40000001)), (.one (.dat (.int .i64))), (.one .undef), (.one .undef), (.one .undef), (.one (.dat (.int .i64))), (.one .undef), (.one .undef), (.one .undef), (.one .undef), (.one .undef), (.one .undef), (.one .undef), (.one .undef), (.one .undef), (.one .undef), (.one .undef), (.one .undef), (.one .undef), (.one .undef), (.one .undef), (.one .undef), (.one .undef), (.one .undef), (.one .undef), (.one .undef), (.one .undef), (.one .undef), (.one .undef), (.one .undef), (.one .undef), (.one .undef), (.one .undef), (.one .undef), (.one .undef), (.one .undef), (.one .undef), (.one .undef), (.one .undef), (.one .undef), (.one .undef), (.one .undef), (.one .undef), (.one .undef), (.one .undef), (.one .undef), (.one .undef), (.one .undef), (.one .undef), (.one .undef), (.one .undef), (.one .undef), (.one .undef), (.one .undef), (.one .undef), (.one .undef), (.one .undef), (.one .undef), (.one .undef), (.one .undef), (.one .undef), (.one .undef), (.one .undef), (.one .undef), (.one .undef), (.one .undef), (.one .undef), (.one .undef), (.one .undef), (.one .undef), (.one .undef), (.one .undef), (.one .undef), (.one .undef), (.one .undef), (.one .undef), (.one .undef), (.one .undef), (.one .undef), (.one .undef), (.one .undef), (.one .undef), (.one .undef), (.one .undef), (.one .undef), (.one .undef)], [(40000001, (.arr 112 (.pair (.int .i64) (.pair (.pair (.int .i64) (.pair (.int .i64) (.pair (.int .i64) (.pair (.int .i64) (.pair (.int .i64) (.pair (.int .i64) (.pair .str (.pair .str .unit)))))))) .unit))))]⟩
noncomputable def outs2 : List OutC := [⟨(.exit 0), ⟨0, [1, 0], []⟩, ⟨[(.one (.arr 40000001)), (.one (.dat (.int .i64))), (.one .undef), (.one .undef), (.one .undef), (.one .undef), (.one .undef), (.one .undef), (.one .undef), (.one .undef), (.one .undef), (.one .undef), (.one .undef), (.one .undef), (.one .undef), (.one .undef), (.one .undef), (.one .undef), (.one .undef), (.one .undef), (.one .undef), (.one .undef), (.one .undef), (.one .undef), (.one .undef), (.one .undef), (.one .undef), (.one .undef), (.one .undef), (.one .undef), (.one .undef), (.one .undef), (.one .undef), (.one .undef), (.one .undef), (.one .undef), (.one .undef), (.one .undef), (.one .undef), (.one .undef), (.one .undef), (.one .undef), (.one .undef), (.one .undef), (.one .undef), (.one .undef), (.one .undef), (.one .undef), (.one .undef), (.one .undef), (.one .undef), (.one .undef), (.one .undef), (.one .undef), (.one .undef), (.one .undef), (.one .undef), (.one .undef), (.one .undef), (.one .undef), (.one .undef), (.one .undef), (.one .undef), (.one .undef), (.one .undef), (.one .undef), (.one .undef), (.one .undef), (.one .undef), (.one .undef), (.one .undef), (.one .undef), (.one .undef), (.one .undef), (.one .undef), (.one .undef), (.one .undef), (.one .undef), (.one .undef), (.one .undef), (.one .undef), (.one .undef), (.one .undef), (.one .undef), (.one .undef), (.one .undef)], [(40000001, (.arr 112 (.pair (.int .i64) (.pair (.pair (.int .i64) (.pair (.int .i64) (.pair (.int .i64) (.pair (.int .i64) (.pair (.int .i64) (.pair (.int .i64) (.pair .str (.pair .str .unit)))))))) .unit))))]⟩⟩]
noncomputable def L2 : LC := ⟨2, ⟨2, [0, 5, 1], []⟩, sh2, outs2, pre2, fn2⟩
noncomputable def H : List LC := [L2]
noncomputable def code (i : Nat) : Code := (loopsOf (bodyOf Try.f43)).getD i .skip
theorem step2 (x1 : Int) (x2 : Int) (x3 : (List Entry)) : L2.step E H (code 0) (x1, (x2, (x3, ()))) = raw2 x1 x2 x3 := by kernel_rfl
theorem lok2 : LoopOk E H (code 0) L2 := ⟨mu2, fun ⟨x1, x2, x3, ()⟩ hp => rounds_ok (step2 x1 x2 x3) (ok2 x1 x2 x3 hp)⟩
theorem run (x0 : (List Entry)) (x1 : Int) : runFn E H Try.f43 fs.ps fs.rs (x0, (x1, ())) = raw x0 x1 := by kernel_rfl
theorem env : EnvOk Try.prog E := env_cons laws_markText.known (env_nil tys)
theorem loops : ∀ c, Try.f43.body = some c → LoopsOk E H c := loops_of (by kernel_rfl) (by kernel_rfl) fun i l h => match i, h with
  | 0, h => Option.some.inj h ▸ lok2
  | n + 1, h => by cases h
theorem sound : Sound Try.prog 43 fs := fn_sound env mixed Try.func43 H loops fun ⟨x0, x1, ()⟩ hw hp => (run x0 x1).trans (eq x0 x1 hw hp)
theorem known : Seen Try.prog 43 fs := ⟨sound, _, Try.func43, by kernel_rfl, by kernel_rfl⟩
end laws_markEntryS
namespace laws_markLog
noncomputable def fs : FS := ⟨[(.mut (.pair (.int .i64) (.pair (.int .i64) (.pair (.sl 112 (.pair (.int .i64) (.pair (.pair (.int .i64) (.pair (.int .i64) (.pair (.int .i64) (.pair (.int .i64) (.pair (.int .i64) (.pair (.int .i64) (.pair .str (.pair .str .unit)))))))) .unit))) .unit)))), (.val (.int .i64) .f)], [((.int .i64), .o)], fun x => laws_markLog.pre x.1 x.2.1, fun x => (((laws_markLog x.1 x.2.1).1, ()), ((laws_markLog x.1 x.2.1).2, ()))⟩
noncomputable def E : Env := ⟨theta, [(43, laws_markEntryS.fs)]⟩
noncomputable def H : List LC := []
noncomputable def code (i : Nat) : Code := (loopsOf (bodyOf Try.f36)).getD i .skip
theorem run (x0 : Log) (x1 : Int) : runFn E H Try.f36 fs.ps fs.rs (x0, (x1, ())) = raw x0 x1 := by kernel_rfl
theorem env : EnvOk Try.prog E := env_cons laws_markEntryS.known (env_nil tys)
theorem loops : ∀ c, Try.f36.body = some c → LoopsOk E H c := loops_none (by kernel_rfl)
theorem sound : Sound Try.prog 36 fs := fn_sound env mixed Try.func36 H loops fun ⟨x0, x1, ()⟩ hw hp => (run x0 x1).trans (eq x0 x1 hw hp)
theorem known : Seen Try.prog 36 fs := ⟨sound, _, Try.func36, by kernel_rfl, by kernel_rfl⟩
end laws_markLog
namespace laws_heldEntryS
noncomputable def fs : FS := ⟨[(.val (.sl 112 (.pair (.int .i64) (.pair (.pair (.int .i64) (.pair (.int .i64) (.pair (.int .i64) (.pair (.int .i64) (.pair (.int .i64) (.pair (.int .i64) (.pair .str (.pair .str .unit)))))))) .unit))) .f), (.val (.int .i64) .f)], [((.int .i64), .o)], fun x => laws_heldEntryS.pre x.1 x.2.1, fun x => ((), ((laws_heldEntryS x.1 x.2.1), ()))⟩
noncomputable def E : Env := ⟨theta, [(86, laws_markText.fs)]⟩
noncomputable def sh2 : ShSt := ⟨[(.one (.dat (.sl 112 (.pair (.int .i64) (.pair (.pair (.int .i64) (.pair (.int .i64) (.pair (.int .i64) (.pair (.int .i64) (.pair (.int .i64) (.pair (.int .i64) (.pair .str (.pair .str .unit)))))))) .unit))))), (.one (.dat (.int .i64))), (.one .undef), (.one .undef), (.one .undef), (.one (.dat (.int .i64))), (.one .undef), (.one .undef), (.one .undef), (.one .undef), (.one .undef), (.one .undef), (.one .undef), (.one .undef), (.one .undef), (.one .undef), (.one .undef), (.one .undef), (.one .undef), (.one .undef), (.one .undef), (.one .undef), (.one .undef), (.one .undef), (.one .undef), (.one .undef), (.one .undef), (.one .undef), (.one .undef), (.one .undef), (.one .undef), (.one .undef), (.one .undef), (.one .undef), (.one .undef), (.one .undef), (.one .undef), (.one .undef), (.one .undef), (.one .undef), (.one .undef), (.one .undef), (.one .undef), (.one .undef), (.one .undef), (.one .undef), (.one .undef), (.one .undef), (.one .undef), (.one .undef), (.one .undef), (.one .undef), (.one .undef), (.one .undef), (.one .undef), (.one .undef), (.one .undef), (.one .undef), (.one .undef), (.one .undef), (.one .undef), (.one .undef), (.one .undef), (.one .undef), (.one .undef), (.one .undef), (.one .undef), (.one .undef), (.one .undef), (.one .undef), (.one .undef), (.one .undef), (.one .undef), (.one .undef), (.one .undef), (.one .undef), (.one .undef), (.one .undef), (.one .undef), (.one .undef), (.one .undef), (.one .undef), (.one .undef), (.one .undef), (.one .undef), (.one .undef), (.one .undef), (.one .undef), (.one .undef), (.one .undef), (.one .undef), (.one .undef), (.one .undef), (.one .undef), (.one .undef), (.one .undef), (.one .undef), (.one .undef), (.one .undef), (.one .undef), (.one .undef), (.one .undef), (.one .undef), (.one .undef)], []⟩
noncomputable def outs2 : List OutC := [⟨.ret, ⟨0, [4], []⟩, ⟨[(.one .undef), (.one .undef), (.one .undef), (.one .undef), (.one (.dat (.int .i64))), (.one .undef), (.one .undef), (.one .undef), (.one .undef), (.one .undef), (.one .undef), (.one .undef), (.one .undef), (.one .undef), (.one .undef), (.one .undef), (.one .undef), (.one .undef), (.one .undef), (.one .undef), (.one .undef), (.one .undef), (.one .undef), (.one .undef), (.one .undef), (.one .undef), (.one .undef), (.one .undef), (.one .undef), (.one .undef), (.one .undef), (.one .undef), (.one .undef), (.one .undef), (.one .undef), (.one .undef), (.one .undef), (.one .undef), (.one .undef), (.one .undef), (.one .undef), (.one .undef), (.one .undef), (.one .undef), (.one .undef), (.one .undef), (.one .undef), (.one .undef), (.one .undef), (.one .undef), (.one .undef), (.one .undef), (.one .undef), (.one .undef), (.one .undef), (.one .undef), (.one .undef), (.one .undef), (.one .undef), (.one .undef), (.one .undef), (.one .undef), (.one .undef), (.one .undef), (.one .undef), (.one .undef), (.one .undef), (.one .undef), (.one .undef), (.one .undef), (.one .undef), (.one .undef), (.one .undef), (.one .undef), (.one .undef), (.one .undef), (.one .undef), (.one .undef), (.one .undef), (.one .undef), (.one .undef), (.one .undef), (.one .undef), (.one .undef), (.one .undef), (.one .undef), (.one .undef), (.one .undef), (.one .undef), (.one .undef), (.one .undef), (.one .undef), (.one .undef), (.one .undef), (.one .undef), (.one .undef), (.one .undef), (.one .undef), (.one .undef), (.one .undef), (.one .undef), (.one .undef), (.one .undef), (.one .undef)], []⟩⟩, ⟨(.exit 0), ⟨0, [1], []⟩, ⟨[(.one .undef), (.one (.dat (.int .i64))), (.one .undef), (.one .undef), (.one .undef), (.one .undef), (.one .undef), (.one .undef), (.one .undef), (.one .undef), (.one .undef), (.one .undef), (.one .undef), (.one .undef), (.one .undef), (.one .undef), (.one .undef), (.one .undef), (.one .undef), (.one .undef), (.one .undef), (.one .undef), (.one .undef), (.one .undef), (.one .undef), (.one .undef), (.one .undef), (.one .undef), (.one .undef), (.one .undef), (.one .undef), (.one .undef), (.one .undef), (.one .undef), (.one .undef), (.one .undef), (.one .undef), (.one .undef), (.one .undef), (.one .undef), (.one .undef), (.one .undef), (.one .undef), (.one .undef), (.one .undef), (.one .undef), (.one .undef), (.one .undef), (.one .undef), (.one .undef), (.one .undef), (.one .undef), (.one .undef), (.one .undef), (.one .undef), (.one .undef), (.one .undef), (.one .undef), (.one .undef), (.one .undef), (.one .undef), (.one .undef), (.one .undef), (.one .undef), (.one .undef), (.one .undef), (.one .undef), (.one .undef), (.one .undef), (.one .undef), (.one .undef), (.one .undef), (.one .undef), (.one .undef), (.one .undef), (.one .undef), (.one .undef), (.one .undef), (.one .undef), (.one .undef), (.one .undef), (.one .undef), (.one .undef), (.one .undef), (.one .undef), (.one .undef), (.one .undef), (.one .undef), (.one .undef), (.one .undef), (.one .undef), (.one .undef), (.one .undef), (.one .undef), (.one .undef), (.one .undef), (.one .undef), (.one .undef), (.one .undef), (.one .undef), (.one .undef), (.one .undef), (.one .undef), (.one .undef)], []⟩⟩]
noncomputable def L2 : LC := ⟨2, ⟨2, [0, 5, 1], []⟩, sh2, outs2, pre2, fn2⟩
noncomputable def H : List LC := [L2]
noncomputable def code (i : Nat) : Code := (loopsOf (bodyOf Try.f80)).getD i .skip
theorem step2 (x1 : (List Entry)) (x2 : Int) (x3 : Int) : L2.step E H (code 0) (x1, (x2, (x3, ()))) = raw2 x1 x2 x3 := by kernel_rfl
theorem lok2 : LoopOk E H (code 0) L2 := ⟨mu2, fun ⟨x1, x2, x3, ()⟩ hp => rounds_ok (step2 x1 x2 x3) (ok2 x1 x2 x3 hp)⟩
theorem run (x0 : (List Entry)) (x1 : Int) : runFn E H Try.f80 fs.ps fs.rs (x0, (x1, ())) = raw x0 x1 := by kernel_rfl
theorem env : EnvOk Try.prog E := env_cons laws_markText.known (env_nil tys)
theorem loops : ∀ c, Try.f80.body = some c → LoopsOk E H c := loops_of (by kernel_rfl) (by kernel_rfl) fun i l h => match i, h with
  | 0, h => Option.some.inj h ▸ lok2
  | n + 1, h => by cases h
theorem sound : Sound Try.prog 80 fs := fn_sound env mixed Try.func80 H loops fun ⟨x0, x1, ()⟩ hw hp => (run x0 x1).trans (eq x0 x1 hw hp)
theorem known : Seen Try.prog 80 fs := ⟨sound, _, Try.func80, by kernel_rfl, by kernel_rfl⟩
end laws_heldEntryS
namespace laws_heldLog
noncomputable def fs : FS := ⟨[(.val (.pair (.int .i64) (.pair (.int .i64) (.pair (.sl 112 (.pair (.int .i64) (.pair (.pair (.int .i64) (.pair (.int .i64) (.pair (.int .i64) (.pair (.int .i64) (.pair (.int .i64) (.pair (.int .i64) (.pair .str (.pair .str .unit)))))))) .unit))) .unit))) .f), (.val (.int .i64) .f)], [((.int .i64), .o)], fun x => laws_heldLog.pre x.1 x.2.1, fun x => ((), ((laws_heldLog x.1 x.2.1), ()))⟩
noncomputable def E : Env := ⟨theta, [(80, laws_heldEntryS.fs)]⟩
noncomputable def H : List LC := []
noncomputable def code (i : Nat) : Code := (loopsOf (bodyOf Try.f37)).getD i .skip
theorem run (x0 : Log) (x1 : Int) : runFn E H Try.f37 fs.ps fs.rs (x0, (x1, ())) = raw x0 x1 := by kernel_rfl
theorem env : EnvOk Try.prog E := env_cons laws_heldEntryS.known (env_nil tys)
theorem loops : ∀ c, Try.f37.body = some c → LoopsOk E H c := loops_none (by kernel_rfl)
theorem sound : Sound Try.prog 37 fs := fn_sound env mixed Try.func37 H loops fun ⟨x0, x1, ()⟩ hw hp => (run x0 x1).trans (eq x0 x1 hw hp)
theorem known : Seen Try.prog 37 fs := ⟨sound, _, Try.func37, by kernel_rfl, by kernel_rfl⟩
end laws_heldLog
namespace spec_LogOk
noncomputable def fs : FS := ⟨[(.val (.pair (.int .i64) (.pair (.int .i64) (.pair (.sl 112 (.pair (.int .i64) (.pair (.pair (.int .i64) (.pair (.int .i64) (.pair (.int .i64) (.pair (.int .i64) (.pair (.int .i64) (.pair (.int .i64) (.pair .str (.pair .str .unit)))))))) .unit))) .unit))) .f)], [(.bool, .o)], fun _ => true, fun x => ((), ((spec_LogOk x.1), ()))⟩
noncomputable def E : Env := ⟨theta, [(69, spec_l1In.fs), (70, spec_CmdOk.fs)]⟩
noncomputable def sh5 : ShSt := ⟨[(.one .undef), (.one (.bptr 0 [] (.pair (.int .i64) (.pair (.int .i64) (.pair (.sl 112 (.pair (.int .i64) (.pair (.pair (.int .i64) (.pair (.int .i64) (.pair (.int .i64) (.pair (.int .i64) (.pair (.int .i64) (.pair (.int .i64) (.pair .str (.pair .str .unit)))))))) .unit))) .unit))))), (.one .undef), (.one (.dat (.int .i64))), (.one (.dat (.int .i64))), (.one .undef), (.one .undef), (.one .undef), (.one .undef), (.one .undef), (.one .undef), (.one .undef), (.one .undef), (.one .undef), (.one .undef), (.one .undef), (.one .undef), (.one .undef), (.one .undef), (.one .undef), (.one .undef), (.one .undef), (.one .undef), (.one .undef), (.one .undef), (.one .undef), (.one .undef), (.one .undef), (.one .undef), (.one .undef), (.one .undef), (.one .undef), (.one .undef), (.one .undef), (.one .undef), (.one .undef), (.one .undef), (.one .undef), (.one .undef), (.one .undef), (.one .undef), (.one .undef), (.one .undef), (.one .undef), (.one .undef), (.one .undef), (.one .undef), (.one .undef), (.one .undef), (.one .undef), (.one .undef), (.one .undef), (.one .undef), (.one .undef), (.one .undef), (.one .undef), (.one .undef), (.one .undef)], [(0, (.box (.pair (.int .i64) (.pair (.int .i64) (.pair (.sl 112 (.pair (.int .i64) (.pair (.pair (.int .i64) (.pair (.int .i64) (.pair (.int .i64) (.pair (.int .i64) (.pair (.int .i64) (.pair (.int .i64) (.pair .str (.pair .str .unit)))))))) .unit))) .unit))) (.dat (.pair (.int .i64) (.pair (.int .i64) (.pair (.sl 112 (.pair (.int .i64) (.pair (.pair (.int .i64) (.pair (.int .i64) (.pair (.int .i64) (.pair (.int .i64) (.pair (.int .i64) (.pair (.int .i64) (.pair .str (.pair .str .unit)))))))) .unit))) .unit))))))]⟩
noncomputable def outs5 : List OutC := [⟨.ret, ⟨0, [2], []⟩, ⟨[(.one .undef), (.one .undef), (.one (.dat .bool)), (.one .undef), (.one .undef), (.one .undef), (.one .undef), (.one .undef), (.one .undef), (.one .undef), (.one .undef), (.one .undef), (.one .undef), (.one .undef), (.one .undef), (.one .undef), (.one .undef), (.one .undef), (.one .undef), (.one .undef), (.one .undef), (.one .undef), (.one .undef), (.one .undef), (.one .undef), (.one .undef), (.one .undef), (.one .undef), (.one .undef), (.one .undef), (.one .undef), (.one .undef), (.one .undef), (.one .undef), (.one .undef), (.one .undef), (.one .undef), (.one .undef), (.one .undef), (.one .undef), (.one .undef), (.one .undef), (.one .undef), (.one .undef), (.one .undef), (.one .undef), (.one .undef), (.one .undef), (.one .undef), (.one .undef), (.one .undef), (.one .undef), (.one .undef), (.one .undef), (.one .undef), (.one .undef), (.one .undef), (.one .undef)], []⟩⟩, ⟨(.exit 0), ⟨0, [], []⟩, ⟨[(.one .undef), (.one .undef), (.one .undef), (.one .undef), (.one .undef), (.one .undef), (.one .undef), (.one .undef), (.one .undef), (.one .undef), (.one .undef), (.one .undef), (.one .undef), (.one .undef), (.one .undef), (.one .undef), (.one .undef), (.one .undef), (.one .undef), (.one .undef), (.one .undef), (.one .undef), (.one .undef), (.one .undef), (.one .undef), (.one .undef), (.one .undef), (.one .undef), (.one .undef), (.one .undef), (.one .undef), (.one .undef), (.one .undef), (.one .undef), (.one .undef), (.one .undef), (.one .undef), (.one .undef), (.one .undef), (.one .undef), (.one .undef), (.one .undef), (.one .undef), (.one .undef), (.one .undef), (.one .undef), (.one .undef), (.one .undef), (.one .undef), (.one .undef), (.one .undef), (.one .undef), (.one .undef), (.one .undef), (.one .undef), (.one .undef), (.one .undef), (.one .undef)], []⟩⟩]
noncomputable def L5 : LC := ⟨5, ⟨5, [1, 4, 3], []⟩, sh5, outs5, pre5, fn5⟩
noncomputable def H : List LC := [L5]
noncomputable def code (i : Nat) : Code := (loopsOf (bodyOf Try.f22)).getD i .skip
theorem step5 (x1 : Int) (x2 : Int) (x3 : Log) : L5.step E H (code 0) (x1, (x2, (x3, ()))) = raw5 x1 x2 x3 := by kernel_rfl
theorem lok5 : LoopOk E H (code 0) L5 := ⟨mu5, fun ⟨x1, x2, x3, ()⟩ hp => rounds_ok (step5 x1 x2 x3) (ok5 x1 x2 x3 hp)⟩
theorem run (x0 : Log) : runFn E H Try.f22 fs.ps fs.rs (x0, ()) = raw x0 := by kernel_rfl
theorem env : EnvOk Try.prog E := env_cons spec_l1In.known (env_cons spec_CmdOk.known (env_nil tys))
theorem loops : ∀ c, Try.f22.body = some c → LoopsOk E H c := loops_of (by kernel_rfl) (by kernel_rfl) fun i l h => match i, h with
  | 0, h => Option.some.inj h ▸ lok5
  | n + 1, h => by cases h
theorem sound : Sound Try.prog 22 fs := fn_sound env mixed Try.func22 H loops fun ⟨x0, ()⟩ hw _ => (run x0).trans (eq x0 hw)
theorem known : Seen Try.prog 22 fs := ⟨sound, _, Try.func22, by kernel_rfl, by kernel_rfl⟩
end spec_LogOk
namespace impl_LogOk
noncomputable def fs : FS := ⟨[(.val (.pair (.int .i64) (.pair (.int .i64) (.pair (.sl 112 (.pair (.int .i64) (.pair (.pair (.int .i64) (.pair (.int .i64) (.pair (.int .i64) (.pair (.int .i64) (.pair (.int .i64) (.pair (.int .i64) (.pair .str (.pair .str .unit)))))))) .unit))) .unit))) .f)], [(.bool, .o)], fun _ => true, fun x => ((), ((impl_LogOk x.1), ()))⟩
noncomputable def E : Env := ⟨theta, [(71, impl_within.fs), (72, impl_CmdOk.fs)]⟩
noncomputable def sh5 : ShSt := ⟨[(.one .undef), (.one .undef), (.one .undef), (.one (.dat (.int .i64))), (.one .undef), (.one .undef), (.one .undef), (.one .undef), (.one .undef), (.one .undef), (.one .undef), (.one .undef), (.one .undef), (.one .undef), (.one .undef), (.one .undef), (.one .undef), (.one .undef), (.one .undef), (.one .undef), (.one .undef), (.one .undef), (.one .undef), (.one .undef), (.one .undef), (.one .undef), (.one .undef), (.one .undef), (.one (.dat (.sl 112 (.pair (.int .i64) (.pair (.pair (.int .i64) (.pair (.int .i64) (.pair (.int .i64) (.pair (.int .i64) (.pair (.int .i64) (.pair (.int .i64) (.pair .str (.pair .str .unit)))))))) .unit))))), (.one (.dat (.int .i64))), (.one (.dat (.int .i64))), (.one .undef), (.one .undef), (.one .undef), (.one .undef), (.one .undef), (.one .undef), (.one .undef), (.one .undef), (.one .undef), (.one .undef), (.one .undef), (.one .undef), (.one .undef), (.one .undef), (.one .undef), (.one .undef), (.one .undef)], []⟩
noncomputable def outs5 : List OutC := [⟨.ret, ⟨0, [2], []⟩, ⟨[(.one .undef), (.one .undef), (.one (.dat .bool)), (.one .undef), (.one .undef), (.one .undef), (.one .undef), (.one .undef), (.one .undef), (.one .undef), (.one .undef), (.one .undef), (.one .undef), (.one .undef), (.one .undef), (.one .undef), (.one .undef), (.one .undef), (.one .undef), (.one .undef), (.one .undef), (.one .undef), (.one .undef), (.one .undef), (.one .undef), (.one .undef), (.one .undef), (.one .undef), (.one .undef), (.one .undef), (.one .undef), (.one .undef), (.one .undef), (.one .undef), (.one .undef), (.one .undef), (.one .undef), (.one .undef), (.one .undef), (.one .undef), (.one .undef), (.one .undef), (.one .undef), (.one .undef), (.one .undef), (.one .undef), (.one .undef), (.one .undef)], []⟩⟩, ⟨(.exit 0), ⟨0, [], []⟩, ⟨[(.one .undef), (.one .undef), (.one .undef), (.one .undef), (.one .undef), (.one .undef), (.one .undef), (.one .undef), (.one .undef), (.one .undef), (.one .undef), (.one .undef), (.one .undef), (.one .undef), (.one .undef), (.one .undef), (.one .undef), (.one .undef), (.one .undef), (.one .undef), (.one .undef), (.one .undef), (.one .undef), (.one .undef), (.one .undef), (.one .undef), (.one .undef), (.one .undef), (.one .undef), (.one .undef), (.one .undef), (.one .undef), (.one .undef), (.one .undef), (.one .undef), (.one .undef), (.one .undef), (.one .undef), (.one .undef), (.one .undef), (.one .undef), (.one .undef), (.one .undef), (.one .undef), (.one .undef), (.one .undef), (.one .undef), (.one .undef)], []⟩⟩]
noncomputable def L5 : LC := ⟨5, ⟨5, [28, 29, 30, 3], []⟩, sh5, outs5, pre5, fn5⟩
noncomputable def H : List LC := [L5]
noncomputable def code (i : Nat) : Code := (loopsOf (bodyOf Try.f23)).getD i .skip
theorem step5 (x1 : Int) (x2 : (List Entry)) (x3 : Int) (x4 : Int) : L5.step E H (code 0) (x1, (x2, (x3, (x4, ())))) = raw5 x1 x2 x3 x4 := by kernel_rfl
theorem lok5 : LoopOk E H (code 0) L5 := ⟨mu5, fun ⟨x1, x2, x3, x4, ()⟩ hp => rounds_ok (step5 x1 x2 x3 x4) (ok5 x1 x2 x3 x4 hp)⟩
theorem run (x0 : Log) : runFn E H Try.f23 fs.ps fs.rs (x0, ()) = raw x0 := by kernel_rfl
theorem env : EnvOk Try.prog E := env_cons impl_within.known (env_cons impl_CmdOk.known (env_nil tys))
theorem loops : ∀ c, Try.f23.body = some c → LoopsOk E H c := loops_of (by kernel_rfl) (by kernel_rfl) fun i l h => match i, h with
  | 0, h => Option.some.inj h ▸ lok5
  | n + 1, h => by cases h
theorem sound : Sound Try.prog 23 fs := fn_sound env mixed Try.func23 H loops fun ⟨x0, ()⟩ hw _ => (run x0).trans (eq x0 hw)
theorem known : Seen Try.prog 23 fs := ⟨sound, _, Try.func23, by kernel_rfl, by kernel_rfl⟩
end impl_LogOk
namespace spec_l8Copy
noncomputable def fs : FS := ⟨[(.val (.pair (.int .i64) (.pair (.int .i64) (.pair (.sl 112 (.pair (.int .i64) (.pair (.pair (.int .i64) (.pair (.int .i64) (.pair (.int .i64) (.pair (.int .i64) (.pair (.int .i64) (.pair (.int .i64) (.pair .str (.pair .str .unit)))))))) .unit))) .unit))) .f)], [((.pair (.int .i64) (.pair (.int .i64) (.pair (.sl 112 (.pair (.int .i64) (.pair (.pair (.int .i64) (.pair (.int .i64) (.pair (.int .i64) (.pair (.int .i64) (.pair (.int .i64) (.pair (.int .i64) (.pair .str (.pair .str .unit)))))))) .unit))) .unit))), .o)], fun x => spec_l8Copy.pre x.1, fun x => ((), ((spec_l8Copy x.1), ()))⟩
noncomputable def E : Env := ⟨theta, []⟩
noncomputable def H : List LC := []
noncomputable def code (i : Nat) : Code := (loopsOf (bodyOf Try.f77)).getD i .skip
theorem run (x0 : Log) : runFn E H Try.f77 fs.ps fs.rs (x0, ()) = raw x0 := by kernel_rfl
theorem env : EnvOk Try.prog E := env_nil tys
theorem loops : ∀ c, Try.f77.body = some c → LoopsOk E H c := loops_none (by kernel_rfl)
theorem sound : Sound Try.prog 77 fs := fn_sound env mixed Try.func77 H loops fun ⟨x0, ()⟩ hw hp => (run x0).trans (eq x0 hw hp)
theorem known : Seen Try.prog 77 fs := ⟨sound, _, Try.func77, by kernel_rfl, by kernel_rfl⟩
end spec_l8Copy
namespace spec_l8At
noncomputable def fs : FS := ⟨[(.val (.pair (.int .i64) (.pair (.int .i64) (.pair (.sl 112 (.pair (.int .i64) (.pair (.pair (.int .i64) (.pair (.int .i64) (.pair (.int .i64) (.pair (.int .i64) (.pair (.int .i64) (.pair (.int .i64) (.pair .str (.pair .str .unit)))))))) .unit))) .unit))) .f), (.val (.int .i64) .f)], [((.int .i64), .o)], fun _ => true, fun x => ((), ((spec_l8At x.1 x.2.1), ()))⟩
noncomputable def E : Env := ⟨theta, []⟩
noncomputable def H : List LC := []
noncomputable def code (i : Nat) : Code := (loopsOf (bodyOf Try.f78)).getD i .skip
theorem run (x0 : Log) (x1 : Int) : runFn E H Try.f78 fs.ps fs.rs (x0, (x1, ())) = raw x0 x1 := by kernel_rfl
theorem env : EnvOk Try.prog E := env_nil tys
theorem loops : ∀ c, Try.f78.body = some c → LoopsOk E H c := loops_none (by kernel_rfl)
theorem sound : Sound Try.prog 78 fs := fn_sound env mixed Try.func78 H loops fun ⟨x0, x1, ()⟩ hw _ => (run x0 x1).trans (eq x0 x1 hw)
theorem known : Seen Try.prog 78 fs := ⟨sound, _, Try.func78, by kernel_rfl, by kernel_rfl⟩
end spec_l8At
namespace impl_copyLog
noncomputable def fs : FS := ⟨[(.val (.pair (.int .i64) (.pair (.int .i64) (.pair (.sl 112 (.pair (.int .i64) (.pair (.pair (.int .i64) (.pair (.int .i64) (.pair (.int .i64) (.pair (.int .i64) (.pair (.int .i64) (.pair (.int .i64) (.pair .str (.pair .str .unit)))))))) .unit))) .unit))) .f)], [((.pair (.int .i64) (.pair (.int .i64) (.pair (.sl 112 (.pair (.int .i64) (.pair (.pair (.int .i64) (.pair (.int .i64) (.pair (.int .i64) (.pair (.int .i64) (.pair (.int .i64) (.pair (.int .i64) (.pair .str (.pair .str .unit)))))))) .unit))) .unit))), .o)], fun x => impl_copyLog.pre x.1, fun x => ((), ((impl_copyLog x.1), ()))⟩
noncomputable def E : Env := ⟨theta, []⟩
noncomputable def H : List LC := []
noncomputable def code (i : Nat) : Code := (loopsOf (bodyOf Try.f79)).getD i .skip
theorem run (x0 : Log) : runFn E H Try.f79 fs.ps fs.rs (x0, ()) = raw x0 := by kernel_rfl
theorem env : EnvOk Try.prog E := env_nil tys
theorem loops : ∀ c, Try.f79.body = some c → LoopsOk E H c := loops_none (by kernel_rfl)
theorem sound : Sound Try.prog 79 fs := fn_sound env mixed Try.func79 H loops fun ⟨x0, ()⟩ hw hp => (run x0).trans (eq x0 hw hp)
theorem known : Seen Try.prog 79 fs := ⟨sound, _, Try.func79, by kernel_rfl, by kernel_rfl⟩
end impl_copyLog
namespace impl_TermAt
noncomputable def fs : FS := ⟨[(.val (.pair (.int .i64) (.pair (.int .i64) (.pair (.sl 112 (.pair (.int .i64) (.pair (.pair (.int .i64) (.pair (.int .i64) (.pair (.int .i64) (.pair (.int .i64) (.pair (.int .i64) (.pair (.int .i64) (.pair .str (.pair .str .unit)))))))) .unit))) .unit))) .f), (.val (.int .i64) .f)], [((.int .i64), .o)], fun _ => true, fun x => ((), ((impl_TermAt x.1 x.2.1), ()))⟩
noncomputable def E : Env := ⟨theta, [(71, impl_within.fs)]⟩
noncomputable def H : List LC := []
noncomputable def code (i : Nat) : Code := (loopsOf (bodyOf Try.f84)).getD i .skip
theorem run (x0 : Log) (x1 : Int) : runFn E H Try.f84 fs.ps fs.rs (x0, (x1, ())) = raw x0 x1 := by kernel_rfl
theorem env : EnvOk Try.prog E := env_cons impl_within.known (env_nil tys)
theorem loops : ∀ c, Try.f84.body = some c → LoopsOk E H c := loops_none (by kernel_rfl)
theorem sound : Sound Try.prog 84 fs := fn_sound env mixed Try.func84 H loops fun ⟨x0, x1, ()⟩ hw _ => (run x0 x1).trans (eq x0 x1 hw)
theorem known : Seen Try.prog 84 fs := ⟨sound, _, Try.func84, by kernel_rfl, by kernel_rfl⟩
end impl_TermAt
namespace spec_TermAt
noncomputable def fs : FS := ⟨[(.val (.pair (.int .i64) (.pair (.int .i64) (.pair (.sl 112 (.pair (.int .i64) (.pair (.pair (.int .i64) (.pair (.int .i64) (.pair (.int .i64) (.pair (.int .i64) (.pair (.int .i64) (.pair (.int .i64) (.pair .str (.pair .str .unit)))))))) .unit))) .unit))) .f), (.val (.int .i64) .f)], [((.int .i64), .o)], fun _ => true, fun x => ((), ((spec_TermAt x.1 x.2.1), ()))⟩
noncomputable def E : Env := ⟨theta, [(78, spec_l8At.fs)]⟩
noncomputable def H : List LC := []
noncomputable def code (i : Nat) : Code := (loopsOf (bodyOf Try.f82)).getD i .skip
theorem run (x0 : Log) (x1 : Int) : runFn E H Try.f82 fs.ps fs.rs (x0, (x1, ())) = raw x0 x1 := by kernel_rfl
theorem env : EnvOk Try.prog E := env_cons spec_l8At.known (env_nil tys)
theorem loops : ∀ c, Try.f82.body = some c → LoopsOk E H c := loops_none (by kernel_rfl)
theorem sound : Sound Try.prog 82 fs := fn_sound env mixed Try.func82 H loops fun ⟨x0, x1, ()⟩ hw _ => (run x0 x1).trans (eq x0 x1 hw)
theorem known : Seen Try.prog 82 fs := ⟨sound, _, Try.func82, by kernel_rfl, by kernel_rfl⟩
end spec_TermAt
namespace impl_LogPut
noncomputable def fs : FS := ⟨[(.val (.pair (.int .i64) (.pair (.int .i64) (.pair (.sl 112 (.pair (.int .i64) (.pair (.pair (.int .i64) (.pair (.int .i64) (.pair (.int .i64) (.pair (.int .i64) (.pair (.int .i64) (.pair (.int .i64) (.pair .str (.pair .str .unit)))))))) .unit))) .unit))) .f), (.val (.int .i64) .f), (.val (.int .i64) .f), (.val (.sl 112 (.pair (.int .i64) (.pair (.pair (.int .i64) (.pair (.int .i64) (.pair (.int .i64) (.pair (.int .i64) (.pair (.int .i64) (.pair (.int .i64) (.pair .str (.pair .str .unit)))))))) .unit))) .f)], [((.pair (.int .i64) (.pair (.int .i64) (.pair (.sl 112 (.pair (.int .i64) (.pair (.pair (.int .i64) (.pair (.int .i64) (.pair (.int .i64) (.pair (.int .i64) (.pair (.int .i64) (.pair (.int .i64) (.pair .str (.pair .str .unit)))))))) .unit))) .unit))), .o), (.bool, .o)], fun x => impl_LogPut.pre x.1 x.2.1 x.2.2.1 x.2.2.2.1, fun x => ((), ((impl_LogPut x.1 x.2.1 x.2.2.1 x.2.2.2.1).1, ((impl_LogPut x.1 x.2.1 x.2.2.1 x.2.2.2.1).2, ())))⟩
noncomputable def E : Env := ⟨theta, [(23, impl_LogOk.fs), (79, impl_copyLog.fs), (84, impl_TermAt.fs)]⟩
noncomputable def sh7 : ShSt := ⟨[(.one .undef), (.one (.dat (.int .i64))), (.one .undef), (.one .undef), (.one (.bptr 0 [] (.pair (.int .i64) (.pair (.int .i64) (.pair (.sl 112 (.pair (.int .i64) (.pair (.pair (.int .i64) (.pair (.int .i64) (.pair (.int .i64) (.pair (.int .i64) (.pair (.int .i64) (.pair (.int .i64) (.pair .str (.pair .str .unit)))))))) .unit))) .unit))))), (.one .undef), (.one .undef), (.one .undef), (.one (.bptr 32 [] (.pair (.int .i64) (.pair (.int .i64) (.pair (.sl 112 (.pair (.int .i64) (.pair (.pair (.int .i64) (.pair (.int .i64) (.pair (.int .i64) (.pair (.int .i64) (.pair (.int .i64) (.pair (.int .i64) (.pair .str (.pair .str .unit)))))))) .unit))) .unit))))), (.one .undef), (.one (.bptr 24640 [] (.pair (.int .i64) (.pair (.int .i64) (.pair (.sl 112 (.pair (.int .i64) (.pair (.pair (.int .i64) (.pair (.int .i64) (.pair (.int .i64) (.pair (.int .i64) (.pair (.int .i64) (.pair (.int .i64) (.pair .str (.pair .str .unit)))))))) .unit))) .unit))))), (.one .undef), (.one .undef), (.one .undef), (.one .undef), (.one .undef), (.one .undef), (.one .undef), (.one .undef), (.one .undef), (.one .undef), (.one .undef), (.one .undef), (.one .undef), (.one .undef), (.one .undef), (.one .undef), (.one .undef), (.one .undef), (.one .undef), (.one (.dat (.sl 112 (.pair (.int .i64) (.pair (.pair (.int .i64) (.pair (.int .i64) (.pair (.int .i64) (.pair (.int .i64) (.pair (.int .i64) (.pair (.int .i64) (.pair .str (.pair .str .unit)))))))) .unit))))), (.one (.dat (.int .i64))), (.one (.dat (.int .i64))), (.one .undef), (.one .undef), (.one .undef), (.one .undef), (.one .undef), (.one .undef), (.one .undef), (.one .undef), (.one .undef), (.one .undef), (.one .undef), (.one .undef), (.one .undef), (.one .undef), (.one .undef), (.one .undef), (.one .undef), (.one .undef), (.one .undef), (.one .undef), (.one .undef), (.one .undef), (.one .undef), (.one .undef), (.one .undef), (.one .undef), (.one .undef), (.one .undef), (.one .undef), (.one .undef), (.one .undef), (.one .undef), (.one .undef), (.one .undef), (.one .undef), (.one .undef), (.one .undef), (.one .undef), (.one .undef), (.one .undef), (.one .undef), (.one .undef)], [(0, (.box (.pair (.int .i64) (.pair (.int .i64) (.pair (.sl 112 (.pair (.int .i64) (.pair (.pair (.int .i64) (.pair (.int .i64) (.pair (.int .i64) (.pair (.int .i64) (.pair (.int .i64) (.pair (.int .i64) (.pair .str (.pair .str .unit)))))))) .unit))) .unit))) (.dat (.pair (.int .i64) (.pair (.int .i64) (.pair (.sl 112 (.pair (.int .i64) (.pair (.pair (.int .i64) (.pair (.int .i64) (.pair (.int .i64) (.pair (.int .i64) (.pair (.int .i64) (.pair (.int .i64) (.pair .str (.pair .str .unit)))))))) .unit))) .unit)))))), (32, (.box (.pair (.int .i64) (.pair (.int .i64) (.pair (.sl 112 (.pair (.int .i64) (.pair (.pair (.int .i64) (.pair (.int .i64) (.pair (.int .i64) (.pair (.int .i64) (.pair (.int .i64) (.pair (.int .i64) (.pair .str (.pair .str .unit)))))))) .unit))) .unit))) (.pair (.dat (.int .i64)) (.pair (.dat (.int .i64)) (.pair (.arr 20000000) (.dat .unit)))))), (20000000, (.arr 112 (.pair (.int .i64) (.pair (.pair (.int .i64) (.pair (.int .i64) (.pair (.int .i64) (.pair (.int .i64) (.pair (.int .i64) (.pair (.int .i64) (.pair .str (.pair .str .unit)))))))) .unit)))), (24640, (.box (.pair (.int .i64) (.pair (.int .i64) (.pair (.sl 112 (.pair (.int .i64) (.pair (.pair (.int .i64) (.pair (.int .i64) (.pair (.int .i64) (.pair (.int .i64) (.pair (.int .i64) (.pair (.int .i64) (.pair .str (.pair .str .unit)))))))) .unit))) .unit))) (.pair (.dat (.int .i64)) (.pair (.dat (.int .i64)) (.pair (.arr 20000001) (.dat .unit)))))), (20000001, (.arr 112 (.pair (.int .i64) (.pair (.pair (.int .i64) (.pair (.int .i64) (.pair (.int .i64) (.pair (.int .i64) (.pair (.int .i64) (.pair (.int .i64) (.pair .str (.pair .str .unit)))))))) .unit))))]⟩
noncomputable def outs7 : List OutC := [⟨(.exit 0), ⟨0, [8, 4, 10], []⟩, ⟨[(.one .undef), (.one .undef), (.one .undef), (.one .undef), (.one (.bptr 0 [] (.pair (.int .i64) (.pair (.int .i64) (.pair (.sl 112 (.pair (.int .i64) (.pair (.pair (.int .i64) (.pair (.int .i64) (.pair (.int .i64) (.pair (.int .i64) (.pair (.int .i64) (.pair (.int .i64) (.pair .str (.pair .str .unit)))))))) .unit))) .unit))))), (.one .undef), (.one .undef), (.one .undef), (.one (.bptr 32 [] (.pair (.int .i64) (.pair (.int .i64) (.pair (.sl 112 (.pair (.int .i64) (.pair (.pair (.int .i64) (.pair (.int .i64) (.pair (.int .i64) (.pair (.int .i64) (.pair (.int .i64) (.pair (.int .i64) (.pair .str (.pair .str .unit)))))))) .unit))) .unit))))), (.one .undef), (.one (.bptr 24640 [] (.pair (.int .i64) (.pair (.int .i64) (.pair (.sl 112 (.pair (.int .i64) (.pair (.pair (.int .i64) (.pair (.int .i64) (.pair (.int .i64) (.pair (.int .i64) (.pair (.int .i64) (.pair (.int .i64) (.pair .str (.pair .str .unit)))))))) .unit))) .unit))))), (.one .undef), (.one .undef), (.one .undef), (.one .undef), (.one .undef), (.one .undef), (.one .undef), (.one .undef), (.one .undef), (.one .undef), (.one .undef), (.one .undef), (.one .undef), (.one .undef), (.one .undef), (.one .undef), (.one .undef), (.one .undef), (.one .undef), (.one .undef), (.one .undef), (.one .undef), (.one .undef), (.one .undef), (.one .undef), (.one .undef), (.one .undef), (.one .undef), (.one .undef), (.one .undef), (.one .undef), (.one .undef), (.one .undef), (.one .undef), (.one .undef), (.one .undef), (.one .undef), (.one .undef), (.one .undef), (.one .undef), (.one .undef), (.one .undef), (.one .undef), (.one .undef), (.one .undef), (.one .undef), (.one .undef), (.one .undef), (.one .undef), (.one .undef), (.one .undef), (.one .undef), (.one .undef), (.one .undef), (.one .undef), (.one .undef), (.one .undef), (.one .undef), (.one .undef), (.one .undef), (.one .undef), (.one .undef), (.one .undef), (.one .undef)], [(0, (.box (.pair (.int .i64) (.pair (.int .i64) (.pair (.sl 112 (.pair (.int .i64) (.pair (.pair (.int .i64) (.pair (.int .i64) (.pair (.int .i64) (.pair (.int .i64) (.pair (.int .i64) (.pair (.int .i64) (.pair .str (.pair .str .unit)))))))) .unit))) .unit))) (.dat (.pair (.int .i64) (.pair (.int .i64) (.pair (.sl 112 (.pair (.int .i64) (.pair (.pair (.int .i64) (.pair (.int .i64) (.pair (.int .i64) (.pair (.int .i64) (.pair (.int .i64) (.pair (.int .i64) (.pair .str (.pair .str .unit)))))))) .unit))) .unit)))))), (32, (.box (.pair (.int .i64) (.pair (.int .i64) (.pair (.sl 112 (.pair (.int .i64) (.pair (.pair (.int .i64) (.pair (.int .i64) (.pair (.int .i64) (.pair (.int .i64) (.pair (.int .i64) (.pair (.int .i64) (.pair .str (.pair .str .unit)))))))) .unit))) .unit))) (.pair (.dat (.int .i64)) (.pair (.dat (.int .i64)) (.pair (.arr 20000000) (.dat .unit)))))), (20000000, (.arr 112 (.pair (.int .i64) (.pair (.pair (.int .i64) (.pair (.int .i64) (.pair (.int .i64) (.pair (.int .i64) (.pair (.int .i64) (.pair (.int .i64) (.pair .str (.pair .str .unit)))))))) .unit)))), (24640, (.box (.pair (.int .i64) (.pair (.int .i64) (.pair (.sl 112 (.pair (.int .i64) (.pair (.pair (.int .i64) (.pair (.int .i64) (.pair (.int .i64) (.pair (.int .i64) (.pair (.int .i64) (.pair (.int .i64) (.pair .str (.pair .str .unit)))))))) .unit))) .unit))) (.pair (.dat (.int .i64)) (.pair (.dat (.int .i64)) (.pair (.arr 20000001) (.dat .unit)))))), (20000001, (.arr 112 (.pair (.int .i64) (.pair (.pair (.int .i64) (.pair (.int .i64) (.pair (.int .i64) (.pair (.int .i64) (.pair (.int .i64) (.pair (.int .i64) (.pair .str (.pair .str .unit)))))))) .unit))))]⟩⟩]
noncomputable def L7 : LC := ⟨7, ⟨7, [10, 4, 1, 30, 8, 31, 32], []⟩, sh7, outs7, pre7, fn7⟩
noncomputable def H : List LC := [L7]
noncomputable def code (i : Nat) : Code := (loopsOf (bodyOf Try.f41)).getD i .skip
theorem step7 (x1 : Int) (x2 : (List Entry)) (x3 : Int) (x4 : Int) (x5 : Log) (x6 : Int) (x7 : Int) (x8 : Unit) (x9 : (List Entry)) (x10 : Int) (x11 : Int) (x12 : Unit) (x13 : (List Entry)) : L7.step E H (code 0) (x1, (x2, (x3, (x4, (x5, (x6, (x7, (x8, (x9, (x10, (x11, (x12, (x13, ()))))))))))))) = raw7 x1 x2 x3 x4 x5 x6 x7 x8 x9 x10 x11 x12 x13 := by kernel_rfl
theorem lok7 : LoopOk E H (code 0) L7 := ⟨mu7, fun ⟨x1, x2, x3, x4, x5, x6, x7, x8, x9, x10, x11, x12, x13, ()⟩ hp => rounds_ok (step7 x1 x2 x3 x4 x5 x6 x7 x8 x9 x10 x11 x12 x13) (ok7 x1 x2 x3 x4 x5 x6 x7 x8 x9 x10 x11 x12 x13 hp)⟩
theorem run (x0 : Log) (x1 : Int) (x2 : Int) (x3 : (List Entry)) : runFn E H Try.f41 fs.ps fs.rs (x0, (x1, (x2, (x3, ())))) = raw x0 x1 x2 x3 := by kernel_rfl
theorem env : EnvOk Try.prog E := env_cons impl_LogOk.known (env_cons impl_copyLog.known (env_cons impl_TermAt.known (env_nil tys)))
theorem loops : ∀ c, Try.f41.body = some c → LoopsOk E H c := loops_of (by kernel_rfl) (by kernel_rfl) fun i l h => match i, h with
  | 0, h => Option.some.inj h ▸ lok7
  | n + 1, h => by cases h
theorem sound : Sound Try.prog 41 fs := fn_sound env mixed Try.func41 H loops fun ⟨x0, x1, x2, x3, ()⟩ hw hp => (run x0 x1 x2 x3).trans (eq x0 x1 x2 x3 hw hp)
theorem known : Seen Try.prog 41 fs := ⟨sound, _, Try.func41, by kernel_rfl, by kernel_rfl⟩
end impl_LogPut
namespace spec_LogPut
noncomputable def fs : FS := ⟨[(.val (.pair (.int .i64) (.pair (.int .i64) (.pair (.sl 112 (.pair (.int .i64) (.pair (.pair (.int .i64) (.pair (.int .i64) (.pair (.int .i64) (.pair (.int .i64) (.pair (.int .i64) (.pair (.int .i64) (.pair .str (.pair .str .unit)))))))) .unit))) .unit))) .f), (.val (.int .i64) .f), (.val (.int .i64) .f), (.val (.sl 112 (.pair (.int .i64) (.pair (.pair (.int .i64) (.pair (.int .i64) (.pair (.int .i64) (.pair (.int .i64) (.pair (.int .i64) (.pair (.int .i64) (.pair .str (.pair .str .unit)))))))) .unit))) .f)], [((.pair (.int .i64) (.pair (.int .i64) (.pair (.sl 112 (.pair (.int .i64) (.pair (.pair (.int .i64) (.pair (.int .i64) (.pair (.int .i64) (.pair (.int .i64) (.pair (.int .i64) (.pair (.int .i64) (.pair .str (.pair .str .unit)))))))) .unit))) .unit))), .o), (.bool, .o)], fun x => spec_LogPut.pre x.1 x.2.1 x.2.2.1 x.2.2.2.1, fun x => ((), ((spec_LogPut x.1 x.2.1 x.2.2.1 x.2.2.2.1).1, ((spec_LogPut x.1 x.2.1 x.2.2.1 x.2.2.2.1).2, ())))⟩
noncomputable def E : Env := ⟨theta, [(22, spec_LogOk.fs), (77, spec_l8Copy.fs), (82, spec_TermAt.fs)]⟩
noncomputable def sh7 : ShSt := ⟨[(.one .undef), (.one (.dat (.int .i64))), (.one .undef), (.one (.dat (.sl 112 (.pair (.int .i64) (.pair (.pair (.int .i64) (.pair (.int .i64) (.pair (.int .i64) (.pair (.int .i64) (.pair (.int .i64) (.pair (.int .i64) (.pair .str (.pair .str .unit)))))))) .unit))))), (.one (.bptr 0 [] (.pair (.int .i64) (.pair (.int .i64) (.pair (.sl 112 (.pair (.int .i64) (.pair (.pair (.int .i64) (.pair (.int .i64) (.pair (.int .i64) (.pair (.int .i64) (.pair (.int .i64) (.pair (.int .i64) (.pair .str (.pair .str .unit)))))))) .unit))) .unit))))), (.one .undef), (.one .undef), (.one .undef), (.one (.bptr 32 [] (.pair (.int .i64) (.pair (.int .i64) (.pair (.sl 112 (.pair (.int .i64) (.pair (.pair (.int .i64) (.pair (.int .i64) (.pair (.int .i64) (.pair (.int .i64) (.pair (.int .i64) (.pair (.int .i64) (.pair .str (.pair .str .unit)))))))) .unit))) .unit))))), (.one .undef), (.one (.bptr 24640 [] (.pair (.int .i64) (.pair (.int .i64) (.pair (.sl 112 (.pair (.int .i64) (.pair (.pair (.int .i64) (.pair (.int .i64) (.pair (.int .i64) (.pair (.int .i64) (.pair (.int .i64) (.pair (.int .i64) (.pair .str (.pair .str .unit)))))))) .unit))) .unit))))), (.one (.dat (.int .i64))), (.one .undef), (.one .undef), (.one .undef), (.one .undef), (.one .undef), (.one .undef), (.one .undef), (.one .undef), (.one .undef), (.one .undef), (.one .undef), (.one .undef), (.one .undef), (.one .undef), (.one .undef), (.one .undef), (.one .undef), (.one .undef), (.one .undef), (.one .undef), (.one .undef), (.one .undef), (.one .undef), (.one .undef), (.one .undef), (.one .undef), (.one .undef), (.one .undef), (.one .undef), (.one .undef), (.one .undef), (.one .undef), (.one .undef), (.one .undef), (.one .undef), (.one .undef), (.one .undef), (.one .undef), (.one .undef), (.one .undef), (.one .undef), (.one .undef), (.one .undef), (.one .undef), (.one .undef), (.one .undef), (.one .undef), (.one .undef), (.one .undef), (.one .undef), (.one .undef), (.one .undef), (.one .undef), (.one .undef), (.one .undef), (.one .undef), (.one .undef), (.one .undef), (.one .undef), (.one .undef), (.one .undef), (.one .undef), (.one .undef), (.one .undef), (.one .undef), (.one .undef), (.one .undef), (.one .undef)], [(0, (.box (.pair (.int .i64) (.pair (.int .i64) (.pair (.sl 112 (.pair (.int .i64) (.pair (.pair (.int .i64) (.pair (.int .i64) (.pair (.int .i64) (.pair (.int .i64) (.pair (.int .i64) (.pair (.int .i64) (.pair .str (.pair .str .unit)))))))) .unit))) .unit))) (.dat (.pair (.int .i64) (.pair (.int .i64) (.pair (.sl 112 (.pair (.int .i64) (.pair (.pair (.int .i64) (.pair (.int .i64) (.pair (.int .i64) (.pair (.int .i64) (.pair (.int .i64) (.pair (.int .i64) (.pair .str (.pair .str .unit)))))))) .unit))) .unit)))))), (32, (.box (.pair (.int .i64) (.pair (.int .i64) (.pair (.sl 112 (.pair (.int .i64) (.pair (.pair (.int .i64) (.pair (.int .i64) (.pair (.int .i64) (.pair (.int .i64) (.pair (.int .i64) (.pair (.int .i64) (.pair .str (.pair .str .unit)))))))) .unit))) .unit))) (.pair (.dat (.int .i64)) (.pair (.dat (.int .i64)) (.pair (.arr 20000000) (.dat .unit)))))), (20000000, (.arr 112 (.pair (.int .i64) (.pair (.pair (.int .i64) (.pair (.int .i64) (.pair (.int .i64) (.pair (.int .i64) (.pair (.int .i64) (.pair (.int .i64) (.pair .str (.pair .str .unit)))))))) .unit)))), (24640, (.box (.pair (.int .i64) (.pair (.int .i64) (.pair (.sl 112 (.pair (.int .i64) (.pair (.pair (.int .i64) (.pair (.int .i64) (.pair (.int .i64) (.pair (.int .i64) (.pair (.int .i64) (.pair (.int .i64) (.pair .str (.pair .str .unit)))))))) .unit))) .unit))) (.pair (.dat (.int .i64)) (.pair (.dat (.int .i64)) (.pair (.arr 20000001) (.dat .unit)))))), (20000001, (.arr 112 (.pair (.int .i64) (.pair (.pair (.int .i64) (.pair (.int .i64) (.pair (.int .i64) (.pair (.int .i64) (.pair (.int .i64) (.pair (.int .i64) (.pair .str (.pair .str .unit)))))))) .unit))))]⟩
noncomputable def outs7 : List OutC := [⟨(.exit 0), ⟨0, [8, 4, 10], []⟩, ⟨[(.one .undef), (.one .undef), (.one .undef), (.one .undef), (.one (.bptr 0 [] (.pair (.int .i64) (.pair (.int .i64) (.pair (.sl 112 (.pair (.int .i64) (.pair (.pair (.int .i64) (.pair (.int .i64) (.pair (.int .i64) (.pair (.int .i64) (.pair (.int .i64) (.pair (.int .i64) (.pair .str (.pair .str .unit)))))))) .unit))) .unit))))), (.one .undef), (.one .undef), (.one .undef), (.one (.bptr 32 [] (.pair (.int .i64) (.pair (.int .i64) (.pair (.sl 112 (.pair (.int .i64) (.pair (.pair (.int .i64) (.pair (.int .i64) (.pair (.int .i64) (.pair (.int .i64) (.pair (.int .i64) (.pair (.int .i64) (.pair .str (.pair .str .unit)))))))) .unit))) .unit))))), (.one .undef), (.one (.bptr 24640 [] (.pair (.int .i64) (.pair (.int .i64) (.pair (.sl 112 (.pair (.int .i64) (.pair (.pair (.int .i64) (.pair (.int .i64) (.pair (.int .i64) (.pair (.int .i64) (.pair (.int .i64) (.pair (.int .i64) (.pair .str (.pair .str .unit)))))))) .unit))) .unit))))), (.one .undef), (.one .undef), (.one .undef), (.one .undef), (.one .undef), (.one .undef), (.one .undef), (.one .undef), (.one .undef), (.one .undef), (.one .undef), (.one .undef), (.one .undef), (.one .undef), (.one .undef), (.one .undef), (.one .undef), (.one .undef), (.one .undef), (.one .undef), (.one .undef), (.one .undef), (.one .undef), (.one .undef), (.one .undef), (.one .undef), (.one .undef), (.one .undef), (.one .undef), (.one .undef), (.one .undef), (.one .undef), (.one .undef), (.one .undef), (.one .undef), (.one .undef), (.one .undef), (.one .undef), (.one .undef), (.one .undef), (.one .undef), (.one .undef), (.one .undef), (.one .undef), (.one .undef), (.one .undef), (.one .undef), (.one .undef), (.one .undef), (.one .undef), (.one .undef), (.one .undef), (.one .undef), (.one .undef), (.one .undef), (.one .undef), (.one .undef), (.one .undef), (.one .undef), (.one .undef), (.one .undef), (.one .undef), (.one .undef), (.one .undef), (.one .undef), (.one .undef), (.one .undef), (.one .undef), (.one .undef)], [(0, (.box (.pair (.int .i64) (.pair (.int .i64) (.pair (.sl 112 (.pair (.int .i64) (.pair (.pair (.int .i64) (.pair (.int .i64) (.pair (.int .i64) (.pair (.int .i64) (.pair (.int .i64) (.pair (.int .i64) (.pair .str (.pair .str .unit)))))))) .unit))) .unit))) (.dat (.pair (.int .i64) (.pair (.int .i64) (.pair (.sl 112 (.pair (.int .i64) (.pair (.pair (.int .i64) (.pair (.int .i64) (.pair (.int .i64) (.pair (.int .i64) (.pair (.int .i64) (.pair (.int .i64) (.pair .str (.pair .str .unit)))))))) .unit))) .unit)))))), (32, (.box (.pair (.int .i64) (.pair (.int .i64) (.pair (.sl 112 (.pair (.int .i64) (.pair (.pair (.int .i64) (.pair (.int .i64) (.pair (.int .i64) (.pair (.int .i64) (.pair (.int .i64) (.pair (.int .i64) (.pair .str (.pair .str .unit)))))))) .unit))) .unit))) (.pair (.dat (.int .i64)) (.pair (.dat (.int .i64)) (.pair (.arr 20000000) (.dat .unit)))))), (20000000, (.arr 112 (.pair (.int .i64) (.pair (.pair (.int .i64) (.pair (.int .i64) (.pair (.int .i64) (.pair (.int .i64) (.pair (.int .i64) (.pair (.int .i64) (.pair .str (.pair .str .unit)))))))) .unit)))), (24640, (.box (.pair (.int .i64) (.pair (.int .i64) (.pair (.sl 112 (.pair (.int .i64) (.pair (.pair (.int .i64) (.pair (.int .i64) (.pair (.int .i64) (.pair (.int .i64) (.pair (.int .i64) (.pair (.int .i64) (.pair .str (.pair .str .unit)))))))) .unit))) .unit))) (.pair (.dat (.int .i64)) (.pair (.dat (.int .i64)) (.pair (.arr 20000001) (.dat .unit)))))), (20000001, (.arr 112 (.pair (.int .i64) (.pair (.pair (.int .i64) (.pair (.int .i64) (.pair (.int .i64) (.pair (.int .i64) (.pair (.int .i64) (.pair (.int .i64) (.pair .str (.pair .str .unit)))))))) .unit))))]⟩⟩]
noncomputable def L7 : LC := ⟨7, ⟨7, [10, 3, 4, 1, 8, 11], []⟩, sh7, outs7, pre7, fn7⟩
noncomputable def H : List LC := [L7]
noncomputable def code (i : Nat) : Code := (loopsOf (bodyOf Try.f39)).getD i .skip
theorem step7 (x1 : Int) (x2 : (List Entry)) (x3 : Int) (x4 : Log) (x5 : Int) (x6 : Int) (x7 : Unit) (x8 : (List Entry)) (x9 : Int) (x10 : Int) (x11 : Unit) (x12 : (List Entry)) : L7.step E H (code 0) (x1, (x2, (x3, (x4, (x5, (x6, (x7, (x8, (x9, (x10, (x11, (x12, ())))))))))))) = raw7 x1 x2 x3 x4 x5 x6 x7 x8 x9 x10 x11 x12 := by kernel_rfl
theorem lok7 : LoopOk E H (code 0) L7 := ⟨mu7, fun ⟨x1, x2, x3, x4, x5, x6, x7, x8, x9, x10, x11, x12, ()⟩ hp => rounds_ok (step7 x1 x2 x3 x4 x5 x6 x7 x8 x9 x10 x11 x12) (ok7 x1 x2 x3 x4 x5 x6 x7 x8 x9 x10 x11 x12 hp)⟩
theorem run (x0 : Log) (x1 : Int) (x2 : Int) (x3 : (List Entry)) : runFn E H Try.f39 fs.ps fs.rs (x0, (x1, (x2, (x3, ())))) = raw x0 x1 x2 x3 := by kernel_rfl
theorem env : EnvOk Try.prog E := env_cons spec_LogOk.known (env_cons spec_l8Copy.known (env_cons spec_TermAt.known (env_nil tys)))
theorem loops : ∀ c, Try.f39.body = some c → LoopsOk E H c := loops_of (by kernel_rfl) (by kernel_rfl) fun i l h => match i, h with
  | 0, h => Option.some.inj h ▸ lok7
  | n + 1, h => by cases h
theorem sound : Sound Try.prog 39 fs := fn_sound env mixed Try.func39 H loops fun ⟨x0, x1, x2, x3, ()⟩ hw hp => (run x0 x1 x2 x3).trans (eq x0 x1 x2 x3 hw hp)
theorem known : Seen Try.prog 39 fs := ⟨sound, _, Try.func39, by kernel_rfl, by kernel_rfl⟩
end spec_LogPut
namespace laws_FnExactLogPut
noncomputable def fs : FS := ⟨[(.val (.pair (.int .i64) (.pair (.int .i64) (.pair (.sl 122 (.pair (.int .i64) (.pair (.pair (.int .i64) (.pair (.int .i64) (.pair (.int .i64) (.pair (.int .i64) (.pair (.int .i64) (.pair (.int .i64) (.pair .str (.pair .str .unit)))))))) .unit))) .unit))) .f), (.val (.int .i64) .f), (.val (.int .i64) .f), (.val (.sl 122 (.pair (.int .i64) (.pair (.pair (.int .i64) (.pair (.int .i64) (.pair (.int .i64) (.pair (.int .i64) (.pair (.int .i64) (.pair (.int .i64) (.pair .str (.pair .str .unit)))))))) .unit))) .f)], [(.bool, .o)], fun _ => true, fun x => ((), ((laws_FnExactLogPut x.1 x.2.1 x.2.2.1 x.2.2.2.1), ()))⟩
noncomputable def E : Env := ⟨theta, [(38, laws_szEntryS.fs), (15, laws_szLog.fs), (40, laws_toEntryS.fs), (17, laws_toLog.fs), (42, laws_eqEntryS.fs), (19, laws_eqLog.fs), (43, laws_markEntryS.fs), (36, laws_markLog.fs), (37, laws_heldLog.fs), (41, impl_LogPut.fs), (39, spec_LogPut.fs)]⟩
noncomputable def H : List LC := []
noncomputable def code (i : Nat) : Code := (loopsOf (bodyOf Try.f9)).getD i .skip
theorem run (x0 : Log) (x1 : Int) (x2 : Int) (x3 : (List Entry)) : runFn E H Try.f9 fs.ps fs.rs (x0, (x1, (x2, (x3, ())))) = raw x0 x1 x2 x3 := by kernel_rfl
theorem env : EnvOk Try.prog E := env_cons laws_szEntryS.known (env_cons laws_szLog.known (env_cons laws_toEntryS.known (env_cons laws_toLog.known (env_cons laws_eqEntryS.known (env_cons laws_eqLog.known (env_cons laws_markEntryS.known (env_cons laws_markLog.known (env_cons laws_heldLog.known (env_cons impl_LogPut.known (env_cons spec_LogPut.known (env_nil tys)))))))))))
theorem loops : ∀ c, Try.f9.body = some c → LoopsOk E H c := loops_none (by kernel_rfl)
theorem sound : Sound Try.prog 9 fs := fn_sound env mixed Try.func9 H loops fun ⟨x0, x1, x2, x3, ()⟩ hw _ => (run x0 x1 x2 x3).trans (eq x0 x1 x2 x3 hw)
theorem known : Seen Try.prog 9 fs := ⟨sound, _, Try.func9, by kernel_rfl, by kernel_rfl⟩
end laws_FnExactLogPut
end Go.Aw.Pl
namespace Go.Proofs.Ytdgpjdedpkpfhaa.fnExactLogPut
open Go Go.Aw Go.Aw.Pl
theorem own : ownKnob Try.prog.godebug = none := by kernel_rfl
theorem laidOut : laidOutB Try.prog = true := by kernel_rfl
theorem lifted (os : Os) (started : os.Started) (H : Type) (enc : TypeId × Value → H) :
    ReturnsInHanded {} Try.checked os 9 .any (Rows.fnExactLogPutSpec.pre6 enc Try.prog Try.f9 Rows.fnExactLogPutRow.domain false) (Rows.fnExactLogPutSpec.post enc Try.prog Try.f9 false true false false) :=
  law_lifted (C := Try.checked) (Ts := [(.pair (.int .i64) (.pair (.int .i64) (.pair (.sl 122 (.pair (.int .i64) (.pair (.pair (.int .i64) (.pair (.int .i64) (.pair (.int .i64) (.pair (.int .i64) (.pair (.int .i64) (.pair (.int .i64) (.pair .str (.pair .str .unit)))))))) .unit))) .unit))), (.int .i64), (.int .i64), (.sl 122 (.pair (.int .i64) (.pair (.pair (.int .i64) (.pair (.int .i64) (.pair (.int .i64) (.pair (.int .i64) (.pair (.int .i64) (.pair (.int .i64) (.pair .str (.pair .str .unit)))))))) .unit)))]) (md := .o) (g := laws_FnExactLogPut.fs.fn) started own laidOut (by kernel_rfl) Try.func9 laws_FnExactLogPut.sound (fun _ _ => rfl) (by kernel_rfl) rfl Try.underlying4 rfl
    (fun _ ds h => match ds, h with
      | [_, _, _, _], _ => ⟨rfl, rfl, rfl⟩)
    (ChangeSpec.witness6 (enc := enc) (C := Try.checked) false ⟨#[], #[.agg #[.int .i64 0, .int .i64 0, .slice none 0 0], (.int .i64 0), (.int .i64 0), (.slice none 0 0)], []⟩ 24 (by kernel_rfl) (by kernel_rfl) (by kernel_rfl) (by kernel_rfl))
theorem over : Rows.fnExactLogPutRow.holds Try.pinned (OpenSpec.ofChange Rows.fnExactLogPutSpec) :=
  OpenClaim.holds_of_wide 9 Try.f9 rfl rfl rfl rfl rfl rfl rfl ⟨rfl, rfl, rfl, rfl, rfl⟩ rfl rfl rfl rfl rfl (by kernel_rfl) Try.func9 (by kernel_rfl)
    (of_decide_eq_true (by kernel_rfl)) (by unfold Func.isWrapper; first | (rw [if_pos (by decide +kernel)]; kernel_rfl) | (rw [if_neg (by decide +kernel)]; exact ⟨rfl, rfl⟩))
    (fun os started H enc _ => lifted os started H enc)
theorem proved : Rows.FnExactLogPutSaid := over
end Go.Proofs.Ytdgpjdedpkpfhaa.fnExactLogPut
