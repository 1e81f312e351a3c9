/-
  These laws hold: FnExactNoteBytes: each answers true for every input, and nothing of its arguments is changed. Conditions: those of the given statements alone.
  Printed by a program of the proof's author: what each function does, by the plain machine (the texts Aw.. and Ax..), and the rows at the end.
-/
import Derived.Test.YtdgpjdedpkpfhaaRows
import Derived.JoinedOf
import Derived.Test.YtdgpjdedpkpfhaaPba
namespace Go.Aw.Pl
open Go Go.Aw Go.Proofs
set_option linter.unusedVariables false
noncomputable def theta : List (TypeId × Ty) := [(1, .op),
  (2, (.int .i64)),
  (3, (.int .i64)),
  (4, .bool),
  (5, (.int .u8)),
  (6, (.int .u8)),
  (7, (.pair (.int .i64) (.pair (.int .i64) (.pair .bool (.pair (.int .u8) .unit))))),
  (8, (.pair (.int .i64) (.pair (.int .i64) (.pair .bool (.pair (.int .u8) .unit))))),
  (9, .str),
  (10, .str),
  (11, .str),
  (12, (.int .u64)),
  (15, .op),
  (16, .op),
  (17, .op),
  (21, (.int .i32)),
  (22, (.sl 122 (.pair (.int .i64) (.pair (.pair (.int .i64) (.pair (.int .i64) (.pair (.int .i64) (.pair (.int .i64) (.pair (.int .i64) (.pair (.int .i64) (.pair .str (.pair .str .unit)))))))) .unit)))),
  (23, (.pair (.int .i64) (.pair (.int .i64) (.pair (.sl 122 (.pair (.int .i64) (.pair (.pair (.int .i64) (.pair (.int .i64) (.pair (.int .i64) (.pair (.int .i64) (.pair (.int .i64) (.pair (.int .i64) (.pair .str (.pair .str .unit)))))))) .unit))) .unit)))),
  (24, (.pair (.int .i64) (.pair (.int .i64) (.pair (.sl 122 (.pair (.int .i64) (.pair (.pair (.int .i64) (.pair (.int .i64) (.pair (.int .i64) (.pair (.int .i64) (.pair (.int .i64) (.pair (.int .i64) (.pair .str (.pair .str .unit)))))))) .unit))) .unit)))),
  (25, .op),
  (27, .op),
  (28, (.sl 112 (.pair (.int .i64) (.pair (.pair (.int .i64) (.pair (.int .i64) (.pair (.int .i64) (.pair (.int .i64) (.pair (.int .i64) (.pair (.int .i64) (.pair .str (.pair .str .unit)))))))) .unit)))),
  (29, (.pair (.int .i64) (.pair (.int .i64) (.pair (.sl 112 (.pair (.int .i64) (.pair (.pair (.int .i64) (.pair (.int .i64) (.pair (.int .i64) (.pair (.int .i64) (.pair (.int .i64) (.pair (.int .i64) (.pair .str (.pair .str .unit)))))))) .unit))) .unit)))),
  (30, (.pair (.int .i64) (.pair (.int .i64) (.pair (.sl 112 (.pair (.int .i64) (.pair (.pair (.int .i64) (.pair (.int .i64) (.pair (.int .i64) (.pair (.int .i64) (.pair (.int .i64) (.pair (.int .i64) (.pair .str (.pair .str .unit)))))))) .unit))) .unit)))),
  (31, .op),
  (32, .op),
  (33, .op),
  (34, .op),
  (35, .op),
  (36, .op),
  (37, (.pair (.int .i64) (.pair (.int .i64) (.pair (.int .i64) (.pair (.int .i64) (.pair (.sl 122 (.pair (.int .i64) (.pair (.pair (.int .i64) (.pair (.int .i64) (.pair (.int .i64) (.pair (.int .i64) (.pair (.int .i64) (.pair (.int .i64) (.pair .str (.pair .str .unit)))))))) .unit))) (.pair .str .unit))))))),
  (38, (.pair (.int .i64) (.pair (.int .i64) (.pair (.int .i64) (.pair (.int .i64) (.pair (.sl 122 (.pair (.int .i64) (.pair (.pair (.int .i64) (.pair (.int .i64) (.pair (.int .i64) (.pair (.int .i64) (.pair (.int .i64) (.pair (.int .i64) (.pair .str (.pair .str .unit)))))))) .unit))) (.pair .str .unit))))))),
  (39, .op),
  (40, .op),
  (41, (.pair (.int .i64) (.pair (.int .i64) (.pair (.int .i64) (.pair (.int .i64) (.pair (.sl 112 (.pair (.int .i64) (.pair (.pair (.int .i64) (.pair (.int .i64) (.pair (.int .i64) (.pair (.int .i64) (.pair (.int .i64) (.pair (.int .i64) (.pair .str (.pair .str .unit)))))))) .unit))) (.pair .str .unit))))))),
  (42, (.pair (.int .i64) (.pair (.int .i64) (.pair (.int .i64) (.pair (.int .i64) (.pair (.sl 112 (.pair (.int .i64) (.pair (.pair (.int .i64) (.pair (.int .i64) (.pair (.int .i64) (.pair (.int .i64) (.pair (.int .i64) (.pair (.int .i64) (.pair .str (.pair .str .unit)))))))) .unit))) (.pair .str .unit))))))),
  (43, .op),
  (44, .op),
  (45, .op),
  (46, (.pair (.int .i64) (.pair (.int .i64) (.pair (.int .i64) (.pair (.int .i64) (.pair (.int .i64) (.pair (.int .i64) (.pair (.int .i64) (.pair (.sl 122 (.pair (.int .i64) (.pair (.pair (.int .i64) (.pair (.int .i64) (.pair (.int .i64) (.pair (.int .i64) (.pair (.int .i64) (.pair (.int .i64) (.pair .str (.pair .str .unit)))))))) .unit))) (.pair .bool (.pair .str .unit))))))))))),
  (47, (.pair (.int .i64) (.pair (.int .i64) (.pair (.int .i64) (.pair (.int .i64) (.pair (.int .i64) (.pair (.int .i64) (.pair (.int .i64) (.pair (.sl 122 (.pair (.int .i64) (.pair (.pair (.int .i64) (.pair (.int .i64) (.pair (.int .i64) (.pair (.int .i64) (.pair (.int .i64) (.pair (.int .i64) (.pair .str (.pair .str .unit)))))))) .unit))) (.pair .bool (.pair .str .unit))))))))))),
  (48, .op),
  (49, .op),
  (50, (.pair (.int .i64) (.pair (.int .i64) (.pair (.int .i64) (.pair (.int .i64) (.pair (.int .i64) (.pair (.int .i64) (.pair (.int .i64) (.pair (.sl 112 (.pair (.int .i64) (.pair (.pair (.int .i64) (.pair (.int .i64) (.pair (.int .i64) (.pair (.int .i64) (.pair (.int .i64) (.pair (.int .i64) (.pair .str (.pair .str .unit)))))))) .unit))) (.pair .bool (.pair .str .unit))))))))))),
  (51, (.pair (.int .i64) (.pair (.int .i64) (.pair (.int .i64) (.pair (.int .i64) (.pair (.int .i64) (.pair (.int .i64) (.pair (.int .i64) (.pair (.sl 112 (.pair (.int .i64) (.pair (.pair (.int .i64) (.pair (.int .i64) (.pair (.int .i64) (.pair (.int .i64) (.pair (.int .i64) (.pair (.int .i64) (.pair .str (.pair .str .unit)))))))) .unit))) (.pair .bool (.pair .str .unit))))))))))),
  (52, .op),
  (53, .op),
  (54, .op),
  (55, .op),
  (56, .op),
  (57, .op),
  (58, .op),
  (60, .op),
  (61, .op),
  (62, .op),
  (63, .op),
  (64, .op),
  (65, (.sl 5 (.int .u8))),
  (66, .op),
  (67, .op),
  (68, .op),
  (69, .op),
  (71, .op),
  (72, .op),
  (73, .op),
  (74, (.sl 42 (.pair (.int .i64) (.pair (.int .i64) (.pair (.int .i64) (.pair (.int .i64) (.pair (.sl 112 (.pair (.int .i64) (.pair (.pair (.int .i64) (.pair (.int .i64) (.pair (.int .i64) (.pair (.int .i64) (.pair (.int .i64) (.pair (.int .i64) (.pair .str (.pair .str .unit)))))))) .unit))) (.pair .str .unit)))))))),
  (76, .op),
  (77, .op),
  (78, .op),
  (79, .op),
  (80, (.pair (.int .i64) (.pair (.int .i64) (.pair (.int .i64) (.pair (.int .i64) .unit))))),
  (81, (.pair (.int .i64) (.pair (.int .i64) (.pair (.int .i64) (.pair (.int .i64) .unit))))),
  (82, (.sl 186 (.pair (.int .i64) (.pair (.int .i64) (.pair (.sl 228 (.pair (.int .i64) (.pair .str (.pair .str (.pair (.int .i64) (.pair (.int .i64) .unit)))))) .unit))))),
  (83, (.sl 199 (.pair (.int .i64) (.pair (.int .i64) (.pair (.int .i64) (.pair (.int .i64) (.pair (.sl 236 (.pair (.int .i64) (.pair (.int .i64) .unit))) .unit))))))),
  (84, (.sl 166 (.pair (.int .i64) (.pair (.sl 3 (.int .i64)) (.pair (.sl 3 (.int .i64)) (.pair (.sl 3 (.int .i64)) .unit)))))),
  (85, (.sl 3 (.int .i64))),
  (86, (.sl 190 (.pair (.int .i64) (.pair (.int .i64) (.pair .str (.pair .str .unit)))))),
  (87, (.pair (.sl 186 (.pair (.int .i64) (.pair (.int .i64) (.pair (.sl 228 (.pair (.int .i64) (.pair .str (.pair .str (.pair (.int .i64) (.pair (.int .i64) .unit)))))) .unit)))) (.pair (.sl 199 (.pair (.int .i64) (.pair (.int .i64) (.pair (.int .i64) (.pair (.int .i64) (.pair (.sl 236 (.pair (.int .i64) (.pair (.int .i64) .unit))) .unit)))))) (.pair (.sl 166 (.pair (.int .i64) (.pair (.sl 3 (.int .i64)) (.pair (.sl 3 (.int .i64)) (.pair (.sl 3 (.int .i64)) .unit))))) (.pair (.int .i64) (.pair (.sl 3 (.int .i64)) (.pair (.sl 190 (.pair (.int .i64) (.pair (.int .i64) (.pair .str (.pair .str .unit))))) .unit))))))),
  (88, (.pair (.sl 186 (.pair (.int .i64) (.pair (.int .i64) (.pair (.sl 228 (.pair (.int .i64) (.pair .str (.pair .str (.pair (.int .i64) (.pair (.int .i64) .unit)))))) .unit)))) (.pair (.sl 199 (.pair (.int .i64) (.pair (.int .i64) (.pair (.int .i64) (.pair (.int .i64) (.pair (.sl 236 (.pair (.int .i64) (.pair (.int .i64) .unit))) .unit)))))) (.pair (.sl 166 (.pair (.int .i64) (.pair (.sl 3 (.int .i64)) (.pair (.sl 3 (.int .i64)) (.pair (.sl 3 (.int .i64)) .unit))))) (.pair (.int .i64) (.pair (.sl 3 (.int .i64)) (.pair (.sl 190 (.pair (.int .i64) (.pair (.int .i64) (.pair .str (.pair .str .unit))))) .unit))))))),
  (89, (.pair (.int .i64) (.pair (.int .i64) (.pair (.pair (.int .i64) (.pair (.int .i64) (.pair (.sl 112 (.pair (.int .i64) (.pair (.pair (.int .i64) (.pair (.int .i64) (.pair (.int .i64) (.pair (.int .i64) (.pair (.int .i64) (.pair (.int .i64) (.pair .str (.pair .str .unit)))))))) .unit))) .unit))) (.pair (.pair (.sl 186 (.pair (.int .i64) (.pair (.int .i64) (.pair (.sl 228 (.pair (.int .i64) (.pair .str (.pair .str (.pair (.int .i64) (.pair (.int .i64) .unit)))))) .unit)))) (.pair (.sl 199 (.pair (.int .i64) (.pair (.int .i64) (.pair (.int .i64) (.pair (.int .i64) (.pair (.sl 236 (.pair (.int .i64) (.pair (.int .i64) .unit))) .unit)))))) (.pair (.sl 166 (.pair (.int .i64) (.pair (.sl 3 (.int .i64)) (.pair (.sl 3 (.int .i64)) (.pair (.sl 3 (.int .i64)) .unit))))) (.pair (.int .i64) (.pair (.sl 3 (.int .i64)) (.pair (.sl 190 (.pair (.int .i64) (.pair (.int .i64) (.pair .str (.pair .str .unit))))) .unit)))))) .unit))))),
  (90, (.pair (.int .i64) (.pair (.int .i64) (.pair (.pair (.int .i64) (.pair (.int .i64) (.pair (.sl 112 (.pair (.int .i64) (.pair (.pair (.int .i64) (.pair (.int .i64) (.pair (.int .i64) (.pair (.int .i64) (.pair (.int .i64) (.pair (.int .i64) (.pair .str (.pair .str .unit)))))))) .unit))) .unit))) (.pair (.pair (.sl 186 (.pair (.int .i64) (.pair (.int .i64) (.pair (.sl 228 (.pair (.int .i64) (.pair .str (.pair .str (.pair (.int .i64) (.pair (.int .i64) .unit)))))) .unit)))) (.pair (.sl 199 (.pair (.int .i64) (.pair (.int .i64) (.pair (.int .i64) (.pair (.int .i64) (.pair (.sl 236 (.pair (.int .i64) (.pair (.int .i64) .unit))) .unit)))))) (.pair (.sl 166 (.pair (.int .i64) (.pair (.sl 3 (.int .i64)) (.pair (.sl 3 (.int .i64)) (.pair (.sl 3 (.int .i64)) .unit))))) (.pair (.int .i64) (.pair (.sl 3 (.int .i64)) (.pair (.sl 190 (.pair (.int .i64) (.pair (.int .i64) (.pair .str (.pair .str .unit))))) .unit)))))) .unit))))),
  (91, .op),
  (92, (.pair (.int .i64) (.pair (.int .i64) (.pair (.int .i64) (.pair (.int .i64) .unit))))),
  (93, .op),
  (94, .op),
  (95, .op),
  (96, .op),
  (97, (.sl 217 (.pair (.int .i64) (.pair (.int .i64) (.pair (.sl 250 (.pair (.int .i64) (.pair .str (.pair .str (.pair (.int .i64) (.pair (.int .i64) .unit)))))) .unit))))),
  (98, (.sl 221 (.pair (.int .i64) (.pair (.int .i64) (.pair (.int .i64) (.pair (.int .i64) (.pair (.sl 253 (.pair (.int .i64) (.pair (.int .i64) .unit))) .unit))))))),
  (99, (.sl 223 (.pair (.int .i64) (.pair (.sl 3 (.int .i64)) (.pair (.sl 3 (.int .i64)) (.pair (.sl 3 (.int .i64)) .unit)))))),
  (100, (.sl 225 (.pair (.int .i64) (.pair (.int .i64) (.pair .str (.pair .str .unit)))))),
  (101, (.pair (.sl 217 (.pair (.int .i64) (.pair (.int .i64) (.pair (.sl 250 (.pair (.int .i64) (.pair .str (.pair .str (.pair (.int .i64) (.pair (.int .i64) .unit)))))) .unit)))) (.pair (.sl 221 (.pair (.int .i64) (.pair (.int .i64) (.pair (.int .i64) (.pair (.int .i64) (.pair (.sl 253 (.pair (.int .i64) (.pair (.int .i64) .unit))) .unit)))))) (.pair (.sl 223 (.pair (.int .i64) (.pair (.sl 3 (.int .i64)) (.pair (.sl 3 (.int .i64)) (.pair (.sl 3 (.int .i64)) .unit))))) (.pair (.int .i64) (.pair (.sl 3 (.int .i64)) (.pair (.sl 225 (.pair (.int .i64) (.pair (.int .i64) (.pair .str (.pair .str .unit))))) .unit))))))),
  (102, (.pair (.sl 217 (.pair (.int .i64) (.pair (.int .i64) (.pair (.sl 250 (.pair (.int .i64) (.pair .str (.pair .str (.pair (.int .i64) (.pair (.int .i64) .unit)))))) .unit)))) (.pair (.sl 221 (.pair (.int .i64) (.pair (.int .i64) (.pair (.int .i64) (.pair (.int .i64) (.pair (.sl 253 (.pair (.int .i64) (.pair (.int .i64) .unit))) .unit)))))) (.pair (.sl 223 (.pair (.int .i64) (.pair (.sl 3 (.int .i64)) (.pair (.sl 3 (.int .i64)) (.pair (.sl 3 (.int .i64)) .unit))))) (.pair (.int .i64) (.pair (.sl 3 (.int .i64)) (.pair (.sl 225 (.pair (.int .i64) (.pair (.int .i64) (.pair .str (.pair .str .unit))))) .unit))))))),
  (103, (.pair (.int .i64) (.pair (.int .i64) (.pair (.pair (.int .i64) (.pair (.int .i64) (.pair (.sl 122 (.pair (.int .i64) (.pair (.pair (.int .i64) (.pair (.int .i64) (.pair (.int .i64) (.pair (.int .i64) (.pair (.int .i64) (.pair (.int .i64) (.pair .str (.pair .str .unit)))))))) .unit))) .unit))) (.pair (.pair (.sl 217 (.pair (.int .i64) (.pair (.int .i64) (.pair (.sl 250 (.pair (.int .i64) (.pair .str (.pair .str (.pair (.int .i64) (.pair (.int .i64) .unit)))))) .unit)))) (.pair (.sl 221 (.pair (.int .i64) (.pair (.int .i64) (.pair (.int .i64) (.pair (.int .i64) (.pair (.sl 253 (.pair (.int .i64) (.pair (.int .i64) .unit))) .unit)))))) (.pair (.sl 223 (.pair (.int .i64) (.pair (.sl 3 (.int .i64)) (.pair (.sl 3 (.int .i64)) (.pair (.sl 3 (.int .i64)) .unit))))) (.pair (.int .i64) (.pair (.sl 3 (.int .i64)) (.pair (.sl 225 (.pair (.int .i64) (.pair (.int .i64) (.pair .str (.pair .str .unit))))) .unit)))))) .unit))))),
  (104, (.pair (.int .i64) (.pair (.int .i64) (.pair (.pair (.int .i64) (.pair (.int .i64) (.pair (.sl 122 (.pair (.int .i64) (.pair (.pair (.int .i64) (.pair (.int .i64) (.pair (.int .i64) (.pair (.int .i64) (.pair (.int .i64) (.pair (.int .i64) (.pair .str (.pair .str .unit)))))))) .unit))) .unit))) (.pair (.pair (.sl 217 (.pair (.int .i64) (.pair (.int .i64) (.pair (.sl 250 (.pair (.int .i64) (.pair .str (.pair .str (.pair (.int .i64) (.pair (.int .i64) .unit)))))) .unit)))) (.pair (.sl 221 (.pair (.int .i64) (.pair (.int .i64) (.pair (.int .i64) (.pair (.int .i64) (.pair (.sl 253 (.pair (.int .i64) (.pair (.int .i64) .unit))) .unit)))))) (.pair (.sl 223 (.pair (.int .i64) (.pair (.sl 3 (.int .i64)) (.pair (.sl 3 (.int .i64)) (.pair (.sl 3 (.int .i64)) .unit))))) (.pair (.int .i64) (.pair (.sl 3 (.int .i64)) (.pair (.sl 225 (.pair (.int .i64) (.pair (.int .i64) (.pair .str (.pair .str .unit))))) .unit)))))) .unit))))),
  (105, .op),
  (106, .op),
  (107, .op),
  (108, .op),
  (109, (.pair (.int .i64) (.pair (.int .i64) (.pair (.int .i64) (.pair (.int .i64) (.pair (.int .i64) (.pair (.int .i64) (.pair .str (.pair .str .unit))))))))),
  (110, (.pair (.int .i64) (.pair (.int .i64) (.pair (.int .i64) (.pair (.int .i64) (.pair (.int .i64) (.pair (.int .i64) (.pair .str (.pair .str .unit))))))))),
  (111, (.pair (.int .i64) (.pair (.pair (.int .i64) (.pair (.int .i64) (.pair (.int .i64) (.pair (.int .i64) (.pair (.int .i64) (.pair (.int .i64) (.pair .str (.pair .str .unit)))))))) .unit))),
  (112, (.pair (.int .i64) (.pair (.pair (.int .i64) (.pair (.int .i64) (.pair (.int .i64) (.pair (.int .i64) (.pair (.int .i64) (.pair (.int .i64) (.pair .str (.pair .str .unit)))))))) .unit))),
  (113, .op),
  (114, .op),
  (115, .op),
  (116, .op),
  (117, .op),
  (118, .op),
  (119, .op),
  (120, (.pair (.int .i64) (.pair (.int .i64) (.pair (.int .i64) (.pair (.int .i64) (.pair (.int .i64) (.pair (.int .i64) (.pair .str (.pair .str .unit))))))))),
  (121, (.pair (.int .i64) (.pair (.pair (.int .i64) (.pair (.int .i64) (.pair (.int .i64) (.pair (.int .i64) (.pair (.int .i64) (.pair (.int .i64) (.pair .str (.pair .str .unit)))))))) .unit))),
  (122, (.pair (.int .i64) (.pair (.pair (.int .i64) (.pair (.int .i64) (.pair (.int .i64) (.pair (.int .i64) (.pair (.int .i64) (.pair (.int .i64) (.pair .str (.pair .str .unit)))))))) .unit))),
  (123, .op),
  (124, .op),
  (125, .op),
  (126, .op),
  (127, .op),
  (128, .op),
  (129, .op),
  (130, .op),
  (131, .op),
  (132, (.int .u64)),
  (134, .op),
  (135, .op),
  (136, (.pair (.sl 5 (.int .u8)) (.pair (.int .i64) (.pair .bool .unit)))),
  (137, (.pair (.sl 5 (.int .u8)) (.pair (.int .i64) (.pair .bool .unit)))),
  (138, .op),
  (140, .op),
  (141, .op),
  (142, .op),
  (143, .op),
  (144, .op),
  (145, .op),
  (146, .op),
  (147, .op),
  (148, .op),
  (149, .op),
  (150, .op),
  (151, .op),
  (152, .op),
  (153, (.sl 65 (.sl 5 (.int .u8)))),
  (154, .op),
  (155, .op),
  (156, .op),
  (157, .op),
  (158, .op),
  (159, (.pair (.sl 5 (.int .u8)) (.pair (.int .i64) (.pair .bool .unit)))),
  (160, (.pair (.sl 5 (.int .u8)) (.pair (.int .i64) (.pair .bool .unit)))),
  (161, .op),
  (162, .op),
  (163, .op),
  (164, .op),
  (165, (.pair (.int .i64) (.pair (.sl 3 (.int .i64)) (.pair (.sl 3 (.int .i64)) (.pair (.sl 3 (.int .i64)) .unit))))),
  (166, (.pair (.int .i64) (.pair (.sl 3 (.int .i64)) (.pair (.sl 3 (.int .i64)) (.pair (.sl 3 (.int .i64)) .unit))))),
  (167, .op),
  (168, .op),
  (169, .op),
  (170, .op),
  (171, .op),
  (172, .op),
  (173, .op),
  (174, .op),
  (175, .op),
  (176, .op),
  (177, .op),
  (178, .op),
  (179, .op),
  (180, .op),
  (181, .op),
  (182, .op),
  (183, .op),
  (184, (.sl 228 (.pair (.int .i64) (.pair .str (.pair .str (.pair (.int .i64) (.pair (.int .i64) .unit))))))),
  (185, (.pair (.int .i64) (.pair (.int .i64) (.pair (.sl 228 (.pair (.int .i64) (.pair .str (.pair .str (.pair (.int .i64) (.pair (.int .i64) .unit)))))) .unit)))),
  (186, (.pair (.int .i64) (.pair (.int .i64) (.pair (.sl 228 (.pair (.int .i64) (.pair .str (.pair .str (.pair (.int .i64) (.pair (.int .i64) .unit)))))) .unit)))),
  (187, .op),
  (188, .op),
  (189, (.pair (.int .i64) (.pair (.int .i64) (.pair .str (.pair .str .unit))))),
  (190, (.pair (.int .i64) (.pair (.int .i64) (.pair .str (.pair .str .unit))))),
  (191, .op),
  (192, .op),
  (193, .op),
  (194, .op),
  (195, .op),
  (196, .op),
  (197, (.sl 236 (.pair (.int .i64) (.pair (.int .i64) .unit)))),
  (198, (.pair (.int .i64) (.pair (.int .i64) (.pair (.int .i64) (.pair (.int .i64) (.pair (.sl 236 (.pair (.int .i64) (.pair (.int .i64) .unit))) .unit)))))),
  (199, (.pair (.int .i64) (.pair (.int .i64) (.pair (.int .i64) (.pair (.int .i64) (.pair (.sl 236 (.pair (.int .i64) (.pair (.int .i64) .unit))) .unit)))))),
  (200, .op),
  (201, .op),
  (202, .op),
  (203, .op),
  (204, .op),
  (205, .op),
  (207, .op),
  (208, .op),
  (209, .op),
  (210, .op),
  (211, .op),
  (212, .op),
  (213, .op),
  (214, .op),
  (215, (.sl 250 (.pair (.int .i64) (.pair .str (.pair .str (.pair (.int .i64) (.pair (.int .i64) .unit))))))),
  (216, (.pair (.int .i64) (.pair (.int .i64) (.pair (.sl 250 (.pair (.int .i64) (.pair .str (.pair .str (.pair (.int .i64) (.pair (.int .i64) .unit)))))) .unit)))),
  (217, (.pair (.int .i64) (.pair (.int .i64) (.pair (.sl 250 (.pair (.int .i64) (.pair .str (.pair .str (.pair (.int .i64) (.pair (.int .i64) .unit)))))) .unit)))),
  (218, .op),
  (219, (.sl 253 (.pair (.int .i64) (.pair (.int .i64) .unit)))),
  (220, (.pair (.int .i64) (.pair (.int .i64) (.pair (.int .i64) (.pair (.int .i64) (.pair (.sl 253 (.pair (.int .i64) (.pair (.int .i64) .unit))) .unit)))))),
  (221, (.pair (.int .i64) (.pair (.int .i64) (.pair (.int .i64) (.pair (.int .i64) (.pair (.sl 253 (.pair (.int .i64) (.pair (.int .i64) .unit))) .unit)))))),
  (222, .op),
  (223, (.pair (.int .i64) (.pair (.sl 3 (.int .i64)) (.pair (.sl 3 (.int .i64)) (.pair (.sl 3 (.int .i64)) .unit))))),
  (224, .op),
  (225, (.pair (.int .i64) (.pair (.int .i64) (.pair .str (.pair .str .unit))))),
  (226, .op),
  (227, (.pair (.int .i64) (.pair .str (.pair .str (.pair (.int .i64) (.pair (.int .i64) .unit)))))),
  (228, (.pair (.int .i64) (.pair .str (.pair .str (.pair (.int .i64) (.pair (.int .i64) .unit)))))),
  (229, .op),
  (230, .op),
  (231, .op),
  (232, .op),
  (233, .op),
  (234, .op),
  (235, (.pair (.int .i64) (.pair (.int .i64) .unit))),
  (236, (.pair (.int .i64) (.pair (.int .i64) .unit))),
  (237, .op),
  (238, .op),
  (239, .op),
  (240, .op),
  (241, .op),
  (242, .op),
  (243, .op),
  (244, .op),
  (245, .op),
  (246, .op),
  (247, .op),
  (248, .op),
  (249, .op),
  (250, (.pair (.int .i64) (.pair .str (.pair .str (.pair (.int .i64) (.pair (.int .i64) .unit)))))),
  (251, .op),
  (252, .op),
  (253, (.pair (.int .i64) (.pair (.int .i64) .unit))),
  (259, (.int .u32)),
  (260, (.int .u8)),
  (261, (.int .u8)),
  (262, .op),
  (263, .op),
  (264, (.int .i32)),
  (265, (.int .i32))]
theorem tys : ∀ t T, find theta t = some T → tyF Try.prog T (.t t) = true := tys_of (by kernel_rfl)
theorem mixed : Try.prog.follows .mixedOrders = true := by kernel_rfl
namespace impl_within
noncomputable def fs : FS := ⟨[(.val (.int .i64) .f), (.val (.int .i64) .f), (.val (.int .i64) .f)], [(.bool, .o)], fun _ => true, fun x => ((), ((impl_within x.1 x.2.1 x.2.2.1), ()))⟩
noncomputable def E : Env := ⟨theta, [], []⟩
noncomputable def H : List LC := []
noncomputable def code (i : Nat) : Code := (loopsOf (bodyOf Try.f71)).getD i .skip
theorem run (x0 : Int) (x1 : Int) (x2 : Int) : runFn E H Try.f71 fs.ps fs.rs (x0, (x1, (x2, ()))) = raw x0 x1 x2 := by kernel_rfl
theorem env : EnvOk Try.prog E := env_nil tys
theorem loops : ∀ c, Try.f71.body = some c → LoopsOk E H c := loops_none (by kernel_rfl)
theorem sound : Sound Try.prog 71 fs := fn_sound env mixed Try.func71 H loops fun ⟨x0, x1, x2, ()⟩ hw _ => (run x0 x1 x2).trans (eq x0 x1 x2 hw)
theorem known : Seen Try.prog 71 fs := ⟨sound, _, Try.func71, by kernel_rfl, by kernel_rfl⟩
end impl_within
namespace spec_l1In
noncomputable def fs : FS := ⟨[(.val (.int .i64) .f), (.val (.int .i64) .f), (.val (.int .i64) .f)], [(.bool, .o)], fun _ => true, fun x => ((), ((spec_l1In x.1 x.2.1 x.2.2.1), ()))⟩
noncomputable def E : Env := ⟨theta, [], []⟩
noncomputable def H : List LC := []
noncomputable def code (i : Nat) : Code := (loopsOf (bodyOf Try.f69)).getD i .skip
theorem run (x0 : Int) (x1 : Int) (x2 : Int) : runFn E H Try.f69 fs.ps fs.rs (x0, (x1, (x2, ()))) = raw x0 x1 x2 := by kernel_rfl
theorem env : EnvOk Try.prog E := env_nil tys
theorem loops : ∀ c, Try.f69.body = some c → LoopsOk E H c := loops_none (by kernel_rfl)
theorem sound : Sound Try.prog 69 fs := fn_sound env mixed Try.func69 H loops fun ⟨x0, x1, x2, ()⟩ hw _ => (run x0 x1 x2).trans (eq x0 x1 x2 hw)
theorem known : Seen Try.prog 69 fs := ⟨sound, _, Try.func69, by kernel_rfl, by kernel_rfl⟩
end spec_l1In
namespace impl_wordsOk
noncomputable def fs : FS := ⟨[(.val .str .f)], [(.bool, .o)], fun _ => true, fun x => ((), ((impl_wordsOk x.1), ()))⟩
noncomputable def E : Env := ⟨theta, [], []⟩
noncomputable def sh2 : ShSt := ⟨[(.one (.dat .str)), (.one .undef), (.one .undef), (.one (.dat (.int .i64))), (.one .undef), (.one .undef), (.one .undef), (.one .undef), (.one .undef), (.one .undef), (.one .undef), (.one .undef), (.one .undef), (.one .undef), (.one .undef), (.one .undef), (.one .undef), (.one .undef), (.one .undef), (.one .undef), (.one .undef), (.one .undef), (.one .undef), (.one .undef), (.one .undef), (.one .undef), (.one .undef), (.one .undef), (.one .undef), (.one .undef), (.one .undef), (.one .undef), (.one .undef), (.one .undef), (.one .undef)], []⟩
noncomputable def outs2 : List OutC := [⟨.ret, ⟨0, [2], []⟩, ⟨[(.one .undef), (.one .undef), (.one (.dat .bool)), (.one .undef), (.one .undef), (.one .undef), (.one .undef), (.one .undef), (.one .undef), (.one .undef), (.one .undef), (.one .undef), (.one .undef), (.one .undef), (.one .undef), (.one .undef), (.one .undef), (.one .undef), (.one .undef), (.one .undef), (.one .undef), (.one .undef), (.one .undef), (.one .undef), (.one .undef), (.one .undef), (.one .undef), (.one .undef), (.one .undef), (.one .undef), (.one .undef), (.one .undef), (.one .undef), (.one .undef), (.one .undef)], []⟩⟩, ⟨(.exit 0), ⟨0, [0], []⟩, ⟨[(.one (.dat .str)), (.one .undef), (.one .undef), (.one .undef), (.one .undef), (.one .undef), (.one .undef), (.one .undef), (.one .undef), (.one .undef), (.one .undef), (.one .undef), (.one .undef), (.one .undef), (.one .undef), (.one .undef), (.one .undef), (.one .undef), (.one .undef), (.one .undef), (.one .undef), (.one .undef), (.one .undef), (.one .undef), (.one .undef), (.one .undef), (.one .undef), (.one .undef), (.one .undef), (.one .undef), (.one .undef), (.one .undef), (.one .undef), (.one .undef), (.one .undef)], []⟩⟩]
noncomputable def L2 : LC := ⟨2, ⟨2, [0, 3], []⟩, sh2, outs2, pre2, fn2⟩
noncomputable def H : List LC := [L2]
noncomputable def code (i : Nat) : Code := (loopsOf (bodyOf Try.f111)).getD i .skip
theorem step2 (x1 : (List UInt8)) (x2 : Int) : L2.step E H (code 0) (x1, (x2, ())) = raw2 x1 x2 := by kernel_rfl
theorem lok2 : LoopOk E H (code 0) L2 := ⟨mu2, fun ⟨x1, x2, ()⟩ hp => rounds_ok (step2 x1 x2) (ok2 x1 x2 hp)⟩
theorem run (x0 : (List UInt8)) : runFn E H Try.f111 fs.ps fs.rs (x0, ()) = raw x0 := by kernel_rfl
theorem env : EnvOk Try.prog E := env_nil tys
theorem loops : ∀ c, Try.f111.body = some c → LoopsOk E H c := loops_of (by kernel_rfl) (by kernel_rfl) fun i l h => match i, h with
  | 0, h => Option.some.inj h ▸ lok2
  | n + 1, h => by cases h
theorem sound : Sound Try.prog 111 fs := fn_sound env mixed Try.func111 H loops fun ⟨x0, ()⟩ hw _ => (run x0).trans (eq x0 hw)
theorem known : Seen Try.prog 111 fs := ⟨sound, _, Try.func111, by kernel_rfl, by kernel_rfl⟩
end impl_wordsOk
namespace spec_l2Text
noncomputable def fs : FS := ⟨[(.val .str .f)], [(.bool, .o)], fun _ => true, fun x => ((), ((spec_l2Text x.1), ()))⟩
noncomputable def E : Env := ⟨theta, [], []⟩
noncomputable def sh2 : ShSt := ⟨[(.one (.dat .str)), (.one .undef), (.one .undef), (.one (.dat (.int .i64))), (.one .undef), (.one .undef), (.one .undef), (.one .undef), (.one .undef), (.one .undef), (.one .undef), (.one .undef), (.one .undef), (.one .undef), (.one .undef), (.one .undef), (.one .undef), (.one .undef), (.one .undef), (.one .undef), (.one .undef), (.one .undef), (.one .undef), (.one .undef), (.one .undef), (.one .undef), (.one .undef), (.one .undef), (.one .undef), (.one .undef), (.one .undef), (.one .undef), (.one .undef), (.one .undef), (.one .undef), (.one .undef)], []⟩
noncomputable def outs2 : List OutC := [⟨.ret, ⟨0, [2], []⟩, ⟨[(.one .undef), (.one .undef), (.one (.dat .bool)), (.one .undef), (.one .undef), (.one .undef), (.one .undef), (.one .undef), (.one .undef), (.one .undef), (.one .undef), (.one .undef), (.one .undef), (.one .undef), (.one .undef), (.one .undef), (.one .undef), (.one .undef), (.one .undef), (.one .undef), (.one .undef), (.one .undef), (.one .undef), (.one .undef), (.one .undef), (.one .undef), (.one .undef), (.one .undef), (.one .undef), (.one .undef), (.one .undef), (.one .undef), (.one .undef), (.one .undef), (.one .undef), (.one .undef)], []⟩⟩, ⟨(.exit 0), ⟨0, [0], []⟩, ⟨[(.one (.dat .str)), (.one .undef), (.one .undef), (.one .undef), (.one .undef), (.one .undef), (.one .undef), (.one .undef), (.one .undef), (.one .undef), (.one .undef), (.one .undef), (.one .undef), (.one .undef), (.one .undef), (.one .undef), (.one .undef), (.one .undef), (.one .undef), (.one .undef), (.one .undef), (.one .undef), (.one .undef), (.one .undef), (.one .undef), (.one .undef), (.one .undef), (.one .undef), (.one .undef), (.one .undef), (.one .undef), (.one .undef), (.one .undef), (.one .undef), (.one .undef), (.one .undef)], []⟩⟩]
noncomputable def L2 : LC := ⟨2, ⟨2, [0, 3], []⟩, sh2, outs2, pre2, fn2⟩
noncomputable def H : List LC := [L2]
noncomputable def code (i : Nat) : Code := (loopsOf (bodyOf Try.f110)).getD i .skip
theorem step2 (x1 : (List UInt8)) (x2 : Int) : L2.step E H (code 0) (x1, (x2, ())) = raw2 x1 x2 := by kernel_rfl
theorem lok2 : LoopOk E H (code 0) L2 := ⟨mu2, fun ⟨x1, x2, ()⟩ hp => rounds_ok (step2 x1 x2) (ok2 x1 x2 hp)⟩
theorem run (x0 : (List UInt8)) : runFn E H Try.f110 fs.ps fs.rs (x0, ()) = raw x0 := by kernel_rfl
theorem env : EnvOk Try.prog E := env_nil tys
theorem loops : ∀ c, Try.f110.body = some c → LoopsOk E H c := loops_of (by kernel_rfl) (by kernel_rfl) fun i l h => match i, h with
  | 0, h => Option.some.inj h ▸ lok2
  | n + 1, h => by cases h
theorem sound : Sound Try.prog 110 fs := fn_sound env mixed Try.func110 H loops fun ⟨x0, ()⟩ hw _ => (run x0).trans (eq x0 hw)
theorem known : Seen Try.prog 110 fs := ⟨sound, _, Try.func110, by kernel_rfl, by kernel_rfl⟩
end spec_l2Text
namespace impl_CmdOk
noncomputable def fs : FS := ⟨[(.val (.pair (.int .i64) (.pair (.int .i64) (.pair (.int .i64) (.pair (.int .i64) (.pair (.int .i64) (.pair (.int .i64) (.pair .str (.pair .str .unit)))))))) .f)], [(.bool, .o)], fun _ => true, fun x => ((), ((impl_CmdOk x.1), ()))⟩
noncomputable def E : Env := ⟨theta, [(71, impl_within.fs), (111, impl_wordsOk.fs)], []⟩
noncomputable def H : List LC := []
noncomputable def code (i : Nat) : Code := (loopsOf (bodyOf Try.f72)).getD i .skip
theorem run (x0 : Cmd) : runFn E H Try.f72 fs.ps fs.rs (x0, ()) = raw x0 := by kernel_rfl
theorem env : EnvOk Try.prog E := env_cons impl_within.known (env_cons impl_wordsOk.known (env_nil tys))
theorem loops : ∀ c, Try.f72.body = some c → LoopsOk E H c := loops_none (by kernel_rfl)
theorem sound : Sound Try.prog 72 fs := fn_sound env mixed Try.func72 H loops fun ⟨x0, ()⟩ hw _ => (run x0).trans (eq x0 hw)
theorem known : Seen Try.prog 72 fs := ⟨sound, _, Try.func72, by kernel_rfl, by kernel_rfl⟩
end impl_CmdOk
namespace spec_CmdOk
noncomputable def fs : FS := ⟨[(.val (.pair (.int .i64) (.pair (.int .i64) (.pair (.int .i64) (.pair (.int .i64) (.pair (.int .i64) (.pair (.int .i64) (.pair .str (.pair .str .unit)))))))) .f)], [(.bool, .o)], fun _ => true, fun x => ((), ((spec_CmdOk x.1), ()))⟩
noncomputable def E : Env := ⟨theta, [(69, spec_l1In.fs), (110, spec_l2Text.fs)], []⟩
noncomputable def H : List LC := []
noncomputable def code (i : Nat) : Code := (loopsOf (bodyOf Try.f70)).getD i .skip
theorem run (x0 : Cmd) : runFn E H Try.f70 fs.ps fs.rs (x0, ()) = raw x0 := by kernel_rfl
theorem env : EnvOk Try.prog E := env_cons spec_l1In.known (env_cons spec_l2Text.known (env_nil tys))
theorem loops : ∀ c, Try.f70.body = some c → LoopsOk E H c := loops_none (by kernel_rfl)
theorem sound : Sound Try.prog 70 fs := fn_sound env mixed Try.func70 H loops fun ⟨x0, ()⟩ hw _ => (run x0).trans (eq x0 hw)
theorem known : Seen Try.prog 70 fs := ⟨sound, _, Try.func70, by kernel_rfl, by kernel_rfl⟩
end spec_CmdOk
namespace laws_szCmd
noncomputable def fs : FS := ⟨[(.val (.pair (.int .i64) (.pair (.int .i64) (.pair (.int .i64) (.pair (.int .i64) (.pair (.int .i64) (.pair (.int .i64) (.pair .str (.pair .str .unit)))))))) .f), (.val (.int .i64) .f)], [((.int .i64), .o)], fun _ => true, fun x => ((), ((laws_szCmd x.1 x.2.1), ()))⟩
noncomputable def E : Env := ⟨theta, [], []⟩
noncomputable def H : List LC := []
noncomputable def code (i : Nat) : Code := (loopsOf (bodyOf Try.f113)).getD i .skip
theorem run (x0 : Cmd) (x1 : Int) : runFn E H Try.f113 fs.ps fs.rs (x0, (x1, ())) = raw x0 x1 := by kernel_rfl
theorem env : EnvOk Try.prog E := env_nil tys
theorem loops : ∀ c, Try.f113.body = some c → LoopsOk E H c := loops_none (by kernel_rfl)
theorem sound : Sound Try.prog 113 fs := fn_sound env mixed Try.func113 H loops fun ⟨x0, x1, ()⟩ hw _ => (run x0 x1).trans (eq x0 x1 hw)
theorem known : Seen Try.prog 113 fs := ⟨sound, _, Try.func113, by kernel_rfl, by kernel_rfl⟩
end laws_szCmd
namespace laws_szEntry
noncomputable def fs : FS := ⟨[(.val (.pair (.int .i64) (.pair (.pair (.int .i64) (.pair (.int .i64) (.pair (.int .i64) (.pair (.int .i64) (.pair (.int .i64) (.pair (.int .i64) (.pair .str (.pair .str .unit)))))))) .unit)) .f), (.val (.int .i64) .f)], [((.int .i64), .o)], fun _ => true, fun x => ((), ((laws_szEntry x.1 x.2.1), ()))⟩
noncomputable def E : Env := ⟨theta, [(113, laws_szCmd.fs)], []⟩
noncomputable def H : List LC := []
noncomputable def code (i : Nat) : Code := (loopsOf (bodyOf Try.f81)).getD i .skip
theorem run (x0 : Entry) (x1 : Int) : runFn E H Try.f81 fs.ps fs.rs (x0, (x1, ())) = raw x0 x1 := by kernel_rfl
theorem env : EnvOk Try.prog E := env_cons laws_szCmd.known (env_nil tys)
theorem loops : ∀ c, Try.f81.body = some c → LoopsOk E H c := loops_none (by kernel_rfl)
theorem sound : Sound Try.prog 81 fs := fn_sound env mixed Try.func81 H loops fun ⟨x0, x1, ()⟩ hw _ => (run x0 x1).trans (eq x0 x1 hw)
theorem known : Seen Try.prog 81 fs := ⟨sound, _, Try.func81, by kernel_rfl, by kernel_rfl⟩
end laws_szEntry
namespace laws_szEntryS
noncomputable def fs : FS := ⟨[(.val (.sl 122 (.pair (.int .i64) (.pair (.pair (.int .i64) (.pair (.int .i64) (.pair (.int .i64) (.pair (.int .i64) (.pair (.int .i64) (.pair (.int .i64) (.pair .str (.pair .str .unit)))))))) .unit))) .f), (.val (.int .i64) .f)], [((.int .i64), .o)], fun _ => true, fun x => ((), ((laws_szEntryS x.1 x.2.1), ()))⟩
noncomputable def E : Env := ⟨theta, [(81, laws_szEntry.fs)], []⟩
noncomputable def sh5 : ShSt := ⟨[(.one (.dat (.sl 122 (.pair (.int .i64) (.pair (.pair (.int .i64) (.pair (.int .i64) (.pair (.int .i64) (.pair (.int .i64) (.pair (.int .i64) (.pair (.int .i64) (.pair .str (.pair .str .unit)))))))) .unit))))), (.one (.dat (.int .i64))), (.one .undef), (.one .undef), (.one .undef), (.one (.dat (.int .i64))), (.one .undef), (.one .undef), (.one .undef), (.one .undef), (.one .undef), (.one .undef), (.one .undef), (.one .undef), (.one .undef), (.one .undef), (.one .undef), (.one .undef), (.one .undef), (.one .undef), (.one .undef), (.one .undef), (.one .undef), (.one .undef), (.one .undef), (.one .undef), (.one .undef)], []⟩
noncomputable def outs5 : List OutC := [⟨.ret, ⟨0, [4], []⟩, ⟨[(.one .undef), (.one .undef), (.one .undef), (.one .undef), (.one (.dat (.int .i64))), (.one .undef), (.one .undef), (.one .undef), (.one .undef), (.one .undef), (.one .undef), (.one .undef), (.one .undef), (.one .undef), (.one .undef), (.one .undef), (.one .undef), (.one .undef), (.one .undef), (.one .undef), (.one .undef), (.one .undef), (.one .undef), (.one .undef), (.one .undef), (.one .undef), (.one .undef)], []⟩⟩, ⟨(.exit 0), ⟨0, [1], []⟩, ⟨[(.one .undef), (.one (.dat (.int .i64))), (.one .undef), (.one .undef), (.one .undef), (.one .undef), (.one .undef), (.one .undef), (.one .undef), (.one .undef), (.one .undef), (.one .undef), (.one .undef), (.one .undef), (.one .undef), (.one .undef), (.one .undef), (.one .undef), (.one .undef), (.one .undef), (.one .undef), (.one .undef), (.one .undef), (.one .undef), (.one .undef), (.one .undef), (.one .undef)], []⟩⟩]
noncomputable def L5 : LC := ⟨5, ⟨5, [0, 5, 1], []⟩, sh5, outs5, pre5, fn5⟩
noncomputable def H : List LC := [L5]
noncomputable def code (i : Nat) : Code := (loopsOf (bodyOf Try.f38)).getD i .skip
theorem step5 (x1 : (List Entry)) (x2 : Int) (x3 : Int) : L5.step E H (code 0) (x1, (x2, (x3, ()))) = raw5 x1 x2 x3 := by kernel_rfl
theorem lok5 : LoopOk E H (code 0) L5 := ⟨mu5, fun ⟨x1, x2, x3, ()⟩ hp => rounds_ok (step5 x1 x2 x3) (ok5 x1 x2 x3 hp)⟩
theorem run (x0 : (List Entry)) (x1 : Int) : runFn E H Try.f38 fs.ps fs.rs (x0, (x1, ())) = raw x0 x1 := by kernel_rfl
theorem env : EnvOk Try.prog E := env_cons laws_szEntry.known (env_nil tys)
theorem loops : ∀ c, Try.f38.body = some c → LoopsOk E H c := loops_of (by kernel_rfl) (by kernel_rfl) fun i l h => match i, h with
  | 0, h => Option.some.inj h ▸ lok5
  | n + 1, h => by cases h
theorem sound : Sound Try.prog 38 fs := fn_sound env mixed Try.func38 H loops fun ⟨x0, x1, ()⟩ hw _ => (run x0 x1).trans (eq x0 x1 hw)
theorem known : Seen Try.prog 38 fs := ⟨sound, _, Try.func38, by kernel_rfl, by kernel_rfl⟩
end laws_szEntryS
namespace laws_toCmd
noncomputable def fs : FS := ⟨[(.val (.pair (.int .i64) (.pair (.int .i64) (.pair (.int .i64) (.pair (.int .i64) (.pair (.int .i64) (.pair (.int .i64) (.pair .str (.pair .str .unit)))))))) .f)], [((.pair (.int .i64) (.pair (.int .i64) (.pair (.int .i64) (.pair (.int .i64) (.pair (.int .i64) (.pair (.int .i64) (.pair .str (.pair .str .unit)))))))), .o)], fun _ => true, fun x => ((), ((laws_toCmd x.1), ()))⟩
noncomputable def E : Env := ⟨theta, [], []⟩
noncomputable def H : List LC := []
noncomputable def code (i : Nat) : Code := (loopsOf (bodyOf Try.f114)).getD i .skip
theorem run (x0 : Cmd) : runFn E H Try.f114 fs.ps fs.rs (x0, ()) = raw x0 := by kernel_rfl
theorem env : EnvOk Try.prog E := env_nil tys
theorem loops : ∀ c, Try.f114.body = some c → LoopsOk E H c := loops_none (by kernel_rfl)
theorem sound : Sound Try.prog 114 fs := fn_sound env mixed Try.func114 H loops fun ⟨x0, ()⟩ hw _ => (run x0).trans (eq x0 hw)
theorem known : Seen Try.prog 114 fs := ⟨sound, _, Try.func114, by kernel_rfl, by kernel_rfl⟩
end laws_toCmd
namespace laws_toEntry
noncomputable def fs : FS := ⟨[(.val (.pair (.int .i64) (.pair (.pair (.int .i64) (.pair (.int .i64) (.pair (.int .i64) (.pair (.int .i64) (.pair (.int .i64) (.pair (.int .i64) (.pair .str (.pair .str .unit)))))))) .unit)) .f)], [((.pair (.int .i64) (.pair (.pair (.int .i64) (.pair (.int .i64) (.pair (.int .i64) (.pair (.int .i64) (.pair (.int .i64) (.pair (.int .i64) (.pair .str (.pair .str .unit)))))))) .unit)), .o)], fun _ => true, fun x => ((), ((laws_toEntry x.1), ()))⟩
noncomputable def E : Env := ⟨theta, [(114, laws_toCmd.fs)], []⟩
noncomputable def H : List LC := []
noncomputable def code (i : Nat) : Code := (loopsOf (bodyOf Try.f83)).getD i .skip
theorem run (x0 : Entry) : runFn E H Try.f83 fs.ps fs.rs (x0, ()) = raw x0 := by kernel_rfl
theorem env : EnvOk Try.prog E := env_cons laws_toCmd.known (env_nil tys)
theorem loops : ∀ c, Try.f83.body = some c → LoopsOk E H c := loops_none (by kernel_rfl)
theorem sound : Sound Try.prog 83 fs := fn_sound env mixed Try.func83 H loops fun ⟨x0, ()⟩ hw _ => (run x0).trans (eq x0 hw)
theorem known : Seen Try.prog 83 fs := ⟨sound, _, Try.func83, by kernel_rfl, by kernel_rfl⟩
end laws_toEntry
namespace laws_toEntryS
noncomputable def fs : FS := ⟨[(.val (.sl 122 (.pair (.int .i64) (.pair (.pair (.int .i64) (.pair (.int .i64) (.pair (.int .i64) (.pair (.int .i64) (.pair (.int .i64) (.pair (.int .i64) (.pair .str (.pair .str .unit)))))))) .unit))) .f)], [((.sl 112 (.pair (.int .i64) (.pair (.pair (.int .i64) (.pair (.int .i64) (.pair (.int .i64) (.pair (.int .i64) (.pair (.int .i64) (.pair (.int .i64) (.pair .str (.pair .str .unit)))))))) .unit))), .o)], fun x => laws_toEntryS.pre x.1, fun x => ((), ((laws_toEntryS x.1), ()))⟩
noncomputable def E : Env := ⟨theta, [(83, laws_toEntry.fs)], []⟩
noncomputable def sh3 : ShSt := ⟨[(.one (.dat (.sl 122 (.pair (.int .i64) (.pair (.pair (.int .i64) (.pair (.int .i64) (.pair (.int .i64) (.pair (.int .i64) (.pair (.int .i64) (.pair (.int .i64) (.pair .str (.pair .str .unit)))))))) .unit))))), (.one .undef), (.one .undef), (.one (.arr 20000000)), (.one (.dat (.int .i64))), (.one .undef), (.one .undef), (.one .undef), (.one .undef), (.one .undef), (.one .undef), (.one .undef), (.one .undef), (.one .undef), (.one .undef), (.one .undef), (.one .undef), (.one .undef), (.one .undef), (.one .undef), (.one .undef), (.one .undef), (.one .undef)], [(20000000, (.arr 112 (.pair (.int .i64) (.pair (.pair (.int .i64) (.pair (.int .i64) (.pair (.int .i64) (.pair (.int .i64) (.pair (.int .i64) (.pair (.int .i64) (.pair .str (.pair .str .unit)))))))) .unit))))]⟩
noncomputable def outs3 : List OutC := [⟨(.exit 0), ⟨0, [3], []⟩, ⟨[(.one .undef), (.one .undef), (.one .undef), (.one (.arr 20000000)), (.one .undef), (.one .undef), (.one .undef), (.one .undef), (.one .undef), (.one .undef), (.one .undef), (.one .undef), (.one .undef), (.one .undef), (.one .undef), (.one .undef), (.one .undef), (.one .undef), (.one .undef), (.one .undef), (.one .undef), (.one .undef), (.one .undef)], [(20000000, (.arr 112 (.pair (.int .i64) (.pair (.pair (.int .i64) (.pair (.int .i64) (.pair (.int .i64) (.pair (.int .i64) (.pair (.int .i64) (.pair (.int .i64) (.pair .str (.pair .str .unit)))))))) .unit))))]⟩⟩]
noncomputable def L3 : LC := ⟨3, ⟨3, [0, 3, 4], []⟩, sh3, outs3, pre3, fn3⟩
noncomputable def H : List LC := [L3]
noncomputable def code (i : Nat) : Code := (loopsOf (bodyOf Try.f40)).getD i .skip
theorem step3 (x1 : (List Entry)) (x2 : Int) (x3 : (List Entry)) : L3.step E H (code 0) (x1, (x2, (x3, ()))) = raw3 x1 x2 x3 := by kernel_rfl
theorem lok3 : LoopOk E H (code 0) L3 := ⟨mu3, fun ⟨x1, x2, x3, ()⟩ hp => rounds_ok (step3 x1 x2 x3) (ok3 x1 x2 x3 hp)⟩
theorem run (x0 : (List Entry)) : runFn E H Try.f40 fs.ps fs.rs (x0, ()) = raw x0 := by kernel_rfl
theorem env : EnvOk Try.prog E := env_cons laws_toEntry.known (env_nil tys)
theorem loops : ∀ c, Try.f40.body = some c → LoopsOk E H c := loops_of (by kernel_rfl) (by kernel_rfl) fun i l h => match i, h with
  | 0, h => Option.some.inj h ▸ lok3
  | n + 1, h => by cases h
theorem sound : Sound Try.prog 40 fs := fn_sound env mixed Try.func40 H loops fun ⟨x0, ()⟩ hw hp => (run x0).trans (eq x0 hw hp)
theorem known : Seen Try.prog 40 fs := ⟨sound, _, Try.func40, by kernel_rfl, by kernel_rfl⟩
end laws_toEntryS
namespace laws_eqCmd
noncomputable def fs : FS := ⟨[(.val (.pair (.int .i64) (.pair (.int .i64) (.pair (.int .i64) (.pair (.int .i64) (.pair (.int .i64) (.pair (.int .i64) (.pair .str (.pair .str .unit)))))))) .f), (.val (.pair (.int .i64) (.pair (.int .i64) (.pair (.int .i64) (.pair (.int .i64) (.pair (.int .i64) (.pair (.int .i64) (.pair .str (.pair .str .unit)))))))) .f)], [(.bool, .o)], fun _ => true, fun x => ((), ((laws_eqCmd x.1 x.2.1), ()))⟩
noncomputable def E : Env := ⟨theta, [], []⟩
noncomputable def H : List LC := []
noncomputable def code (i : Nat) : Code := (loopsOf (bodyOf Try.f115)).getD i .skip
theorem run (x0 : Cmd) (x1 : Cmd) : runFn E H Try.f115 fs.ps fs.rs (x0, (x1, ())) = raw x0 x1 := by kernel_rfl
theorem env : EnvOk Try.prog E := env_nil tys
theorem loops : ∀ c, Try.f115.body = some c → LoopsOk E H c := loops_none (by kernel_rfl)
theorem sound : Sound Try.prog 115 fs := fn_sound env mixed Try.func115 H loops fun ⟨x0, x1, ()⟩ hw _ => (run x0 x1).trans (eq x0 x1 hw)
theorem known : Seen Try.prog 115 fs := ⟨sound, _, Try.func115, by kernel_rfl, by kernel_rfl⟩
end laws_eqCmd
namespace laws_eqEntry
noncomputable def fs : FS := ⟨[(.val (.pair (.int .i64) (.pair (.pair (.int .i64) (.pair (.int .i64) (.pair (.int .i64) (.pair (.int .i64) (.pair (.int .i64) (.pair (.int .i64) (.pair .str (.pair .str .unit)))))))) .unit)) .f), (.val (.pair (.int .i64) (.pair (.pair (.int .i64) (.pair (.int .i64) (.pair (.int .i64) (.pair (.int .i64) (.pair (.int .i64) (.pair (.int .i64) (.pair .str (.pair .str .unit)))))))) .unit)) .f)], [(.bool, .o)], fun _ => true, fun x => ((), ((laws_eqEntry x.1 x.2.1), ()))⟩
noncomputable def E : Env := ⟨theta, [(115, laws_eqCmd.fs)], []⟩
noncomputable def H : List LC := []
noncomputable def code (i : Nat) : Code := (loopsOf (bodyOf Try.f85)).getD i .skip
theorem run (x0 : Entry) (x1 : Entry) : runFn E H Try.f85 fs.ps fs.rs (x0, (x1, ())) = raw x0 x1 := by kernel_rfl
theorem env : EnvOk Try.prog E := env_cons laws_eqCmd.known (env_nil tys)
theorem loops : ∀ c, Try.f85.body = some c → LoopsOk E H c := loops_none (by kernel_rfl)
theorem sound : Sound Try.prog 85 fs := fn_sound env mixed Try.func85 H loops fun ⟨x0, x1, ()⟩ hw _ => (run x0 x1).trans (eq x0 x1 hw)
theorem known : Seen Try.prog 85 fs := ⟨sound, _, Try.func85, by kernel_rfl, by kernel_rfl⟩
end laws_eqEntry
namespace laws_eqEntryS
noncomputable def fs : FS := ⟨[(.val (.sl 112 (.pair (.int .i64) (.pair (.pair (.int .i64) (.pair (.int .i64) (.pair (.int .i64) (.pair (.int .i64) (.pair (.int .i64) (.pair (.int .i64) (.pair .str (.pair .str .unit)))))))) .unit))) .f), (.val (.sl 112 (.pair (.int .i64) (.pair (.pair (.int .i64) (.pair (.int .i64) (.pair (.int .i64) (.pair (.int .i64) (.pair (.int .i64) (.pair (.int .i64) (.pair .str (.pair .str .unit)))))))) .unit))) .f)], [(.bool, .o)], fun _ => true, fun x => ((), ((laws_eqEntryS x.1 x.2.1), ()))⟩
noncomputable def E : Env := ⟨theta, [(85, laws_eqEntry.fs)], []⟩
noncomputable def sh4 : ShSt := ⟨[(.one (.dat (.sl 112 (.pair (.int .i64) (.pair (.pair (.int .i64) (.pair (.int .i64) (.pair (.int .i64) (.pair (.int .i64) (.pair (.int .i64) (.pair (.int .i64) (.pair .str (.pair .str .unit)))))))) .unit))))), (.one (.dat (.sl 112 (.pair (.int .i64) (.pair (.pair (.int .i64) (.pair (.int .i64) (.pair (.int .i64) (.pair (.int .i64) (.pair (.int .i64) (.pair (.int .i64) (.pair .str (.pair .str .unit)))))))) .unit))))), (.one .undef), (.one .undef), (.one .undef), (.one (.dat (.int .i64))), (.one .undef), (.one .undef), (.one .undef), (.one .undef), (.one .undef), (.one .undef), (.one .undef), (.one .undef), (.one .undef), (.one .undef), (.one .undef), (.one .undef), (.one .undef), (.one .undef), (.one .undef), (.one .undef), (.one .undef), (.one .undef), (.one .undef), (.one .undef), (.one .undef)], []⟩
noncomputable def outs4 : List OutC := [⟨.ret, ⟨0, [4], []⟩, ⟨[(.one .undef), (.one .undef), (.one .undef), (.one .undef), (.one (.dat .bool)), (.one .undef), (.one .undef), (.one .undef), (.one .undef), (.one .undef), (.one .undef), (.one .undef), (.one .undef), (.one .undef), (.one .undef), (.one .undef), (.one .undef), (.one .undef), (.one .undef), (.one .undef), (.one .undef), (.one .undef), (.one .undef), (.one .undef), (.one .undef), (.one .undef), (.one .undef)], []⟩⟩, ⟨(.exit 0), ⟨0, [], []⟩, ⟨[(.one .undef), (.one .undef), (.one .undef), (.one .undef), (.one .undef), (.one .undef), (.one .undef), (.one .undef), (.one .undef), (.one .undef), (.one .undef), (.one .undef), (.one .undef), (.one .undef), (.one .undef), (.one .undef), (.one .undef), (.one .undef), (.one .undef), (.one .undef), (.one .undef), (.one .undef), (.one .undef), (.one .undef), (.one .undef), (.one .undef), (.one .undef)], []⟩⟩]
noncomputable def L4 : LC := ⟨4, ⟨4, [1, 0, 5], []⟩, sh4, outs4, pre4, fn4⟩
noncomputable def H : List LC := [L4]
noncomputable def code (i : Nat) : Code := (loopsOf (bodyOf Try.f42)).getD i .skip
theorem step4 (x1 : (List Entry)) (x2 : (List Entry)) (x3 : Int) : L4.step E H (code 0) (x1, (x2, (x3, ()))) = raw4 x1 x2 x3 := by kernel_rfl
theorem lok4 : LoopOk E H (code 0) L4 := ⟨mu4, fun ⟨x1, x2, x3, ()⟩ hp => rounds_ok (step4 x1 x2 x3) (ok4 x1 x2 x3 hp)⟩
theorem run (x0 : (List Entry)) (x1 : (List Entry)) : runFn E H Try.f42 fs.ps fs.rs (x0, (x1, ())) = raw x0 x1 := by kernel_rfl
theorem env : EnvOk Try.prog E := env_cons laws_eqEntry.known (env_nil tys)
theorem loops : ∀ c, Try.f42.body = some c → LoopsOk E H c := loops_of (by kernel_rfl) (by kernel_rfl) fun i l h => match i, h with
  | 0, h => Option.some.inj h ▸ lok4
  | n + 1, h => by cases h
theorem sound : Sound Try.prog 42 fs := fn_sound env mixed Try.func42 H loops fun ⟨x0, x1, ()⟩ hw _ => (run x0 x1).trans (eq x0 x1 hw)
theorem known : Seen Try.prog 42 fs := ⟨sound, _, Try.func42, by kernel_rfl, by kernel_rfl⟩
end laws_eqEntryS
namespace laws_markText
noncomputable def fs : FS := ⟨[(.val (.int .i64) .f)], [(.str, .o)], fun x => laws_markText.pre x.1, fun x => ((), ((laws_markText x.1), ()))⟩
noncomputable def E : Env := ⟨theta, [], []⟩
noncomputable def sh4 : ShSt := ⟨[(.one (.dat (.int .i64))), (.one .undef), (.one .undef), (.one (.dat .str)), (.one .undef), (.one .undef), (.one .undef), (.one .undef), (.one .undef), (.one .undef), (.one .undef), (.one .undef), (.one .undef), (.one .undef), (.one .undef), (.one .undef), (.one .undef), (.one .undef), (.one .undef), (.one .undef)], []⟩
noncomputable def outs4 : List OutC := [⟨(.exit 0), ⟨0, [3], []⟩, ⟨[(.one .undef), (.one .undef), (.one .undef), (.one (.dat .str)), (.one .undef), (.one .undef), (.one .undef), (.one .undef), (.one .undef), (.one .undef), (.one .undef), (.one .undef), (.one .undef), (.one .undef), (.one .undef), (.one .undef), (.one .undef), (.one .undef), (.one .undef), (.one .undef)], []⟩⟩]
noncomputable def L4 : LC := ⟨4, ⟨4, [0, 3], []⟩, sh4, outs4, pre4, fn4⟩
noncomputable def H : List LC := [L4]
noncomputable def code (i : Nat) : Code := (loopsOf (bodyOf Try.f86)).getD i .skip
theorem step4 (x1 : Int) (x2 : (List UInt8)) : L4.step E H (code 0) (x1, (x2, ())) = raw4 x1 x2 := by kernel_rfl
theorem lok4 : LoopOk E H (code 0) L4 := ⟨mu4, fun ⟨x1, x2, ()⟩ hp => rounds_ok (step4 x1 x2) (ok4 x1 x2 hp)⟩
theorem run (x0 : Int) : runFn E H Try.f86 fs.ps fs.rs (x0, ()) = raw x0 := by kernel_rfl
theorem env : EnvOk Try.prog E := env_nil tys
theorem loops : ∀ c, Try.f86.body = some c → LoopsOk E H c := loops_of (by kernel_rfl) (by kernel_rfl) fun i l h => match i, h with
  | 0, h => Option.some.inj h ▸ lok4
  | n + 1, h => by cases h
theorem sound : Sound Try.prog 86 fs := fn_sound env mixed Try.func86 H loops fun ⟨x0, ()⟩ hw hp => (run x0).trans (eq x0 hw hp)
theorem known : Seen Try.prog 86 fs := ⟨sound, _, Try.func86, by kernel_rfl, by kernel_rfl⟩
end laws_markText
namespace laws_markEntryS
noncomputable def fs : FS := ⟨[(.mut (.sl 112 (.pair (.int .i64) (.pair (.pair (.int .i64) (.pair (.int .i64) (.pair (.int .i64) (.pair (.int .i64) (.pair (.int .i64) (.pair (.int .i64) (.pair .str (.pair .str .unit)))))))) .unit)))), (.val (.int .i64) .f)], [((.int .i64), .o)], fun x => laws_markEntryS.pre x.1 x.2.1, fun x => (((laws_markEntryS x.1 x.2.1).1, ()), ((laws_markEntryS x.1 x.2.1).2, ()))⟩
noncomputable def E : Env := ⟨theta, [(86, laws_markText.fs)], []⟩
noncomputable def sh2 : ShSt := ⟨[(.one (.arr 40000001)), (.one (.dat (.int .i64))), (.one .undef), (.one .undef), (.one .undef), (.one (.dat (.int .i64))), (.one .undef), (.one .undef), (.one .undef), (.one .undef), (.one .undef), (.one .undef), (.one .undef), (.one .undef), (.one .undef), (.one .undef), (.one .undef), (.one .undef), (.one .undef), (.one .undef), (.one .undef), (.one .undef), (.one .undef), (.one .undef), (.one .undef), (.one .undef), (.one .undef), (.one .undef), (.one .undef), (.one .undef), (.one .undef), (.one .undef), (.one .undef), (.one .undef), (.one .undef), (.one .undef), (.one .undef), (.one .undef), (.one .undef), (.one .undef), (.one .undef), (.one .undef), (.one .undef), (.one .undef), (.one .undef), (.one .undef), (.one .undef), (.one .undef), (.one .undef), (.one .undef), (.one .undef), (.one .undef), (.one .undef), (.one .undef), (.one .undef), (.one .undef), (.one .undef), (.one .undef), (.one .undef), (.one .undef), (.one .undef), (.one .undef), (.one .undef), (.one .undef), (.one .undef), (.one .undef), (.one .undef), (.one .undef), (.one .undef), (.one .undef), (.one .undef), (.one .undef), (.one .undef), (.one .undef), (.one .undef), (.one .undef), (.one .undef), (.one .undef), (.one .undef), (.one .undef), (.one .undef), (.one .undef), (.one .undef), (.one .undef), (.one .undef), (.one .undef)], [(40000001, (.arr 112 (.pair (.int .i64) (.pair (.pair (.int .i64) (.pair (.int .i64) (.pair (.int .i64) (.pair (.int .i64) (.pair (.int .i64) (.pair (.int .i64) (.pair .str (.pair .str .unit)))))))) .unit))))]⟩
noncomputable def outs2 : List OutC := [⟨(.exit 0), ⟨0, [1, 0], []⟩, ⟨[(.one (.arr 40000001)), (.one (.dat (.int .i64))), (.one .undef), (.one .undef), (.one .undef), (.one .undef), (.one .undef), (.one .undef), (.one .undef), (.one .undef), (.one .undef), (.one .undef), (.one .undef), (.one .undef), (.one .undef), (.one .undef), (.one .undef), (.one .undef), (.one .undef), (.one .undef), (.one .undef), (.one .undef), (.one .undef), (.one .undef), (.one .undef), (.one .undef), (.one .undef), (.one .undef), (.one .undef), (.one .undef), (.one .undef), (.one .undef), (.one .undef), (.one .undef), (.one .undef), (.one .undef), (.one .undef), (.one .undef), (.one .undef), (.one .undef), (.one .undef), (.one .undef), (.one .undef), (.one .undef), (.one .undef), (.one .undef), (.one .undef), (.one .undef), (.one .undef), (.one .undef), (.one .undef), (.one .undef), (.one .undef), (.one .undef), (.one .undef), (.one .undef), (.one .undef), (.one .undef), (.one .undef), (.one .undef), (.one .undef), (.one .undef), (.one .undef), (.one .undef), (.one .undef), (.one .undef), (.one .undef), (.one .undef), (.one .undef), (.one .undef), (.one .undef), (.one .undef), (.one .undef), (.one .undef), (.one .undef), (.one .undef), (.one .undef), (.one .undef), (.one .undef), (.one .undef), (.one .undef), (.one .undef), (.one .undef), (.one .undef), (.one .undef), (.one .undef)], [(40000001, (.arr 112 (.pair (.int .i64) (.pair (.pair (.int .i64) (.pair (.int .i64) (.pair (.int .i64) (.pair (.int .i64) (.pair (.int .i64) (.pair (.int .i64) (.pair .str (.pair .str .unit)))))))) .unit))))]⟩⟩]
noncomputable def L2 : LC := ⟨2, ⟨2, [0, 5, 1], []⟩, sh2, outs2, pre2, fn2⟩
noncomputable def H : List LC := [L2]
noncomputable def code (i : Nat) : Code := (loopsOf (bodyOf Try.f43)).getD i .skip
theorem step2 (x1 : Int) (x2 : Int) (x3 : (List Entry)) : L2.step E H (code 0) (x1, (x2, (x3, ()))) = raw2 x1 x2 x3 := by kernel_rfl
theorem lok2 : LoopOk E H (code 0) L2 := ⟨mu2, fun ⟨x1, x2, x3, ()⟩ hp => rounds_ok (step2 x1 x2 x3) (ok2 x1 x2 x3 hp)⟩
theorem run (x0 : (List Entry)) (x1 : Int) : runFn E H Try.f43 fs.ps fs.rs (x0, (x1, ())) = raw x0 x1 := by kernel_rfl
theorem env : EnvOk Try.prog E := env_cons laws_markText.known (env_nil tys)
theorem loops : ∀ c, Try.f43.body = some c → LoopsOk E H c := loops_of (by kernel_rfl) (by kernel_rfl) fun i l h => match i, h with
  | 0, h => Option.some.inj h ▸ lok2
  | n + 1, h => by cases h
theorem sound : Sound Try.prog 43 fs := fn_sound env mixed Try.func43 H loops fun ⟨x0, x1, ()⟩ hw hp => (run x0 x1).trans (eq x0 x1 hw hp)
theorem known : Seen Try.prog 43 fs := ⟨sound, _, Try.func43, by kernel_rfl, by kernel_rfl⟩
end laws_markEntryS
namespace laws_szNote
noncomputable def fs : FS := ⟨[(.val (.pair (.int .i64) (.pair (.int .i64) (.pair (.int .i64) (.pair (.int .i64) (.pair (.sl 122 (.pair (.int .i64) (.pair (.pair (.int .i64) (.pair (.int .i64) (.pair (.int .i64) (.pair (.int .i64) (.pair (.int .i64) (.pair (.int .i64) (.pair .str (.pair .str .unit)))))))) .unit))) (.pair .str .unit)))))) .f), (.val (.int .i64) .f)], [((.int .i64), .o)], fun _ => true, fun x => ((), ((laws_szNote x.1 x.2.1), ()))⟩
noncomputable def E : Env := ⟨theta, [(38, laws_szEntryS.fs)], []⟩
noncomputable def H : List LC := []
noncomputable def code (i : Nat) : Code := (loopsOf (bodyOf Try.f24)).getD i .skip
theorem run (x0 : Note) (x1 : Int) : runFn E H Try.f24 fs.ps fs.rs (x0, (x1, ())) = raw x0 x1 := by kernel_rfl
theorem env : EnvOk Try.prog E := env_cons laws_szEntryS.known (env_nil tys)
theorem loops : ∀ c, Try.f24.body = some c → LoopsOk E H c := loops_none (by kernel_rfl)
theorem sound : Sound Try.prog 24 fs := fn_sound env mixed Try.func24 H loops fun ⟨x0, x1, ()⟩ hw _ => (run x0 x1).trans (eq x0 x1 hw)
theorem known : Seen Try.prog 24 fs := ⟨sound, _, Try.func24, by kernel_rfl, by kernel_rfl⟩
end laws_szNote
namespace laws_toNote
noncomputable def fs : FS := ⟨[(.val (.pair (.int .i64) (.pair (.int .i64) (.pair (.int .i64) (.pair (.int .i64) (.pair (.sl 122 (.pair (.int .i64) (.pair (.pair (.int .i64) (.pair (.int .i64) (.pair (.int .i64) (.pair (.int .i64) (.pair (.int .i64) (.pair (.int .i64) (.pair .str (.pair .str .unit)))))))) .unit))) (.pair .str .unit)))))) .f)], [((.pair (.int .i64) (.pair (.int .i64) (.pair (.int .i64) (.pair (.int .i64) (.pair (.sl 112 (.pair (.int .i64) (.pair (.pair (.int .i64) (.pair (.int .i64) (.pair (.int .i64) (.pair (.int .i64) (.pair (.int .i64) (.pair (.int .i64) (.pair .str (.pair .str .unit)))))))) .unit))) (.pair .str .unit)))))), .o)], fun x => laws_toNote.pre x.1, fun x => ((), ((laws_toNote x.1), ()))⟩
noncomputable def E : Env := ⟨theta, [(40, laws_toEntryS.fs)], []⟩
noncomputable def H : List LC := []
noncomputable def code (i : Nat) : Code := (loopsOf (bodyOf Try.f26)).getD i .skip
theorem run (x0 : Note) : runFn E H Try.f26 fs.ps fs.rs (x0, ()) = raw x0 := by kernel_rfl
theorem env : EnvOk Try.prog E := env_cons laws_toEntryS.known (env_nil tys)
theorem loops : ∀ c, Try.f26.body = some c → LoopsOk E H c := loops_none (by kernel_rfl)
theorem sound : Sound Try.prog 26 fs := fn_sound env mixed Try.func26 H loops fun ⟨x0, ()⟩ hw hp => (run x0).trans (eq x0 hw hp)
theorem known : Seen Try.prog 26 fs := ⟨sound, _, Try.func26, by kernel_rfl, by kernel_rfl⟩
end laws_toNote
namespace laws_eqNote
noncomputable def fs : FS := ⟨[(.val (.pair (.int .i64) (.pair (.int .i64) (.pair (.int .i64) (.pair (.int .i64) (.pair (.sl 112 (.pair (.int .i64) (.pair (.pair (.int .i64) (.pair (.int .i64) (.pair (.int .i64) (.pair (.int .i64) (.pair (.int .i64) (.pair (.int .i64) (.pair .str (.pair .str .unit)))))))) .unit))) (.pair .str .unit)))))) .f), (.val (.pair (.int .i64) (.pair (.int .i64) (.pair (.int .i64) (.pair (.int .i64) (.pair (.sl 112 (.pair (.int .i64) (.pair (.pair (.int .i64) (.pair (.int .i64) (.pair (.int .i64) (.pair (.int .i64) (.pair (.int .i64) (.pair (.int .i64) (.pair .str (.pair .str .unit)))))))) .unit))) (.pair .str .unit)))))) .f)], [(.bool, .o)], fun _ => true, fun x => ((), ((laws_eqNote x.1 x.2.1), ()))⟩
noncomputable def E : Env := ⟨theta, [(42, laws_eqEntryS.fs)], []⟩
noncomputable def H : List LC := []
noncomputable def code (i : Nat) : Code := (loopsOf (bodyOf Try.f28)).getD i .skip
theorem run (x0 : Note) (x1 : Note) : runFn E H Try.f28 fs.ps fs.rs (x0, (x1, ())) = raw x0 x1 := by kernel_rfl
theorem env : EnvOk Try.prog E := env_cons laws_eqEntryS.known (env_nil tys)
theorem loops : ∀ c, Try.f28.body = some c → LoopsOk E H c := loops_none (by kernel_rfl)
theorem sound : Sound Try.prog 28 fs := fn_sound env mixed Try.func28 H loops fun ⟨x0, x1, ()⟩ hw _ => (run x0 x1).trans (eq x0 x1 hw)
theorem known : Seen Try.prog 28 fs := ⟨sound, _, Try.func28, by kernel_rfl, by kernel_rfl⟩
end laws_eqNote
namespace slices_IndexFunc_Entry
noncomputable def fs : FS := ⟨[(.val (.sl 112 (.pair (.int .i64) (.pair (.pair (.int .i64) (.pair (.int .i64) (.pair (.int .i64) (.pair (.int .i64) (.pair (.int .i64) (.pair (.int .i64) (.pair .str (.pair .str .unit)))))))) .unit))) .f), (.fn (.pair (.int .i64) (.pair (.pair (.int .i64) (.pair (.int .i64) (.pair (.int .i64) (.pair (.int .i64) (.pair (.int .i64) (.pair (.int .i64) (.pair .str (.pair .str .unit)))))))) .unit)) .bool)], [((.int .i64), .o)], fun x => slices_IndexFunc_Entry.pre x.1 x.2.1, fun x => ((), ((slices_IndexFunc_Entry x.1 x.2.1), ()))⟩
noncomputable def E : Env := ⟨theta, [], []⟩
noncomputable def sh2 : ShSt := ⟨[(.one (.dat (.sl 112 (.pair (.int .i64) (.pair (.pair (.int .i64) (.pair (.int .i64) (.pair (.int .i64) (.pair (.int .i64) (.pair (.int .i64) (.pair (.int .i64) (.pair .str (.pair .str .unit)))))))) .unit))))), (.one (.fn (.pair (.int .i64) (.pair (.pair (.int .i64) (.pair (.int .i64) (.pair (.int .i64) (.pair (.int .i64) (.pair (.int .i64) (.pair (.int .i64) (.pair .str (.pair .str .unit)))))))) .unit)) .bool)), (.one .undef), (.one .undef), (.one .undef), (.one .undef), (.one .undef), (.one (.dat (.int .i64))), (.one (.dat (.int .i64))), (.one .undef), (.one .undef), (.one .undef), (.one .undef), (.one .undef), (.one .undef), (.one .undef), (.one .undef), (.one .undef), (.one .undef)], []⟩
noncomputable def outs2 : List OutC := [⟨.ret, ⟨0, [4], []⟩, ⟨[(.one .undef), (.one .undef), (.one .undef), (.one .undef), (.one (.dat (.int .i64))), (.one .undef), (.one .undef), (.one .undef), (.one .undef), (.one .undef), (.one .undef), (.one .undef), (.one .undef), (.one .undef), (.one .undef), (.one .undef), (.one .undef), (.one .undef), (.one .undef)], []⟩⟩, ⟨(.exit 0), ⟨0, [], []⟩, ⟨[(.one .undef), (.one .undef), (.one .undef), (.one .undef), (.one .undef), (.one .undef), (.one .undef), (.one .undef), (.one .undef), (.one .undef), (.one .undef), (.one .undef), (.one .undef), (.one .undef), (.one .undef), (.one .undef), (.one .undef), (.one .undef), (.one .undef)], []⟩⟩]
noncomputable def L2 : LC := ⟨2, ⟨2, [0, 1, 7, 8], []⟩, sh2, outs2, pre2, fn2⟩
noncomputable def H : List LC := [L2]
noncomputable def code (i : Nat) : Code := (loopsOf (bodyOf Try.f112)).getD i .skip
theorem step2 (x1 : (List Entry)) (x2 : (Entry → Bool)) (x3 : (Entry → Bool)) (x4 : Int) (x5 : Int) : L2.step E H (code 0) (x1, (x2, (x3, (x4, (x5, ()))))) = raw2 x1 x2 x3 x4 x5 := by kernel_rfl
theorem lok2 : LoopOk E H (code 0) L2 := ⟨mu2, fun ⟨x1, x2, x3, x4, x5, ()⟩ hp => rounds_ok (step2 x1 x2 x3 x4 x5) (ok2 x1 x2 x3 x4 x5 hp)⟩
theorem run (x0 : (List Entry)) (x1 : ((Entry → Bool) × (Entry → Bool))) : runFn E H Try.f112 fs.ps fs.rs (x0, (x1, ())) = raw x0 x1 := by kernel_rfl
theorem env : EnvOk Try.prog E := env_nil tys
theorem loops : ∀ c, Try.f112.body = some c → LoopsOk E H c := loops_of (by kernel_rfl) (by kernel_rfl) fun i l h => match i, h with
  | 0, h => Option.some.inj h ▸ lok2
  | n + 1, h => by cases h
theorem sound : Sound Try.prog 112 fs := fn_sound env mixed Try.func112 H loops fun ⟨x0, x1, ()⟩ hw hp => (run x0 x1).trans (eq x0 x1 hw hp)
theorem known : Seen Try.prog 112 fs := ⟨sound, _, Try.func112, by kernel_rfl, by kernel_rfl⟩
end slices_IndexFunc_Entry
namespace slices_ContainsFunc_Entry
noncomputable def fs : FS := ⟨[(.val (.sl 112 (.pair (.int .i64) (.pair (.pair (.int .i64) (.pair (.int .i64) (.pair (.int .i64) (.pair (.int .i64) (.pair (.int .i64) (.pair (.int .i64) (.pair .str (.pair .str .unit)))))))) .unit))) .f), (.fn (.pair (.int .i64) (.pair (.pair (.int .i64) (.pair (.int .i64) (.pair (.int .i64) (.pair (.int .i64) (.pair (.int .i64) (.pair (.int .i64) (.pair .str (.pair .str .unit)))))))) .unit)) .bool)], [(.bool, .o)], fun x => slices_ContainsFunc_Entry.pre x.1 x.2.1, fun x => ((), ((slices_ContainsFunc_Entry x.1 x.2.1), ()))⟩
noncomputable def E : Env := ⟨theta, [(112, slices_IndexFunc_Entry.fs)], []⟩
noncomputable def H : List LC := []
noncomputable def code (i : Nat) : Code := (loopsOf (bodyOf Try.f74)).getD i .skip
theorem run (x0 : (List Entry)) (x1 : ((Entry → Bool) × (Entry → Bool))) : runFn E H Try.f74 fs.ps fs.rs (x0, (x1, ())) = raw x0 x1 := by kernel_rfl
theorem env : EnvOk Try.prog E := env_cons slices_IndexFunc_Entry.known (env_nil tys)
theorem loops : ∀ c, Try.f74.body = some c → LoopsOk E H c := loops_none (by kernel_rfl)
theorem sound : Sound Try.prog 74 fs := fn_sound env mixed Try.func74 H loops fun ⟨x0, x1, ()⟩ hw hp => (run x0 x1).trans (eq x0 x1 hw hp)
theorem known : Seen Try.prog 74 fs := ⟨sound, _, Try.func74, by kernel_rfl, by kernel_rfl⟩
end slices_ContainsFunc_Entry
namespace impl_NoteOk_1
noncomputable def fs : FS := ⟨[(.val (.pair (.int .i64) (.pair (.pair (.int .i64) (.pair (.int .i64) (.pair (.int .i64) (.pair (.int .i64) (.pair (.int .i64) (.pair (.int .i64) (.pair .str (.pair .str .unit)))))))) .unit)) .f)], [(.bool, .o)], fun _ => true, fun x => ((), ((impl_NoteOk_1 x.1), ()))⟩
noncomputable def E : Env := ⟨theta, [(71, impl_within.fs), (72, impl_CmdOk.fs)], []⟩
noncomputable def H : List LC := []
noncomputable def code (i : Nat) : Code := (loopsOf (bodyOf Try.f75)).getD i .skip
theorem run (x0 : Entry) : runFn E H Try.f75 fs.ps fs.rs (x0, ()) = raw x0 := by kernel_rfl
theorem env : EnvOk Try.prog E := env_cons impl_within.known (env_cons impl_CmdOk.known (env_nil tys))
theorem loops : ∀ c, Try.f75.body = some c → LoopsOk E H c := loops_none (by kernel_rfl)
theorem sound : Sound Try.prog 75 fs := fn_sound env mixed Try.func75 H loops fun ⟨x0, ()⟩ hw _ => (run x0).trans (eq x0 hw)
theorem known : Seen Try.prog 75 fs := ⟨sound, _, Try.func75, by kernel_rfl, by kernel_rfl⟩
end impl_NoteOk_1
namespace spec_l9List
noncomputable def fs : FS := ⟨[(.val (.sl 112 (.pair (.int .i64) (.pair (.pair (.int .i64) (.pair (.int .i64) (.pair (.int .i64) (.pair (.int .i64) (.pair (.int .i64) (.pair (.int .i64) (.pair .str (.pair .str .unit)))))))) .unit))) .f), (.val (.int .i64) .f)], [(.bool, .o)], fun _ => true, fun x => ((), ((spec_l9List x.1 x.2.1), ()))⟩
noncomputable def E : Env := ⟨theta, [(69, spec_l1In.fs), (70, spec_CmdOk.fs)], []⟩
noncomputable def sh2 : ShSt := ⟨[(.one (.dat (.sl 112 (.pair (.int .i64) (.pair (.pair (.int .i64) (.pair (.int .i64) (.pair (.int .i64) (.pair (.int .i64) (.pair (.int .i64) (.pair (.int .i64) (.pair .str (.pair .str .unit)))))))) .unit))))), (.one (.dat (.int .i64))), (.one .undef), (.one .undef), (.one .undef), (.one (.dat (.int .i64))), (.one .undef), (.one .undef), (.one .undef), (.one .undef), (.one .undef), (.one .undef), (.one .undef), (.one .undef), (.one .undef), (.one .undef), (.one .undef), (.one .undef), (.one .undef), (.one .undef), (.one .undef), (.one .undef), (.one .undef), (.one .undef), (.one .undef), (.one .undef), (.one .undef), (.one .undef), (.one .undef), (.one .undef), (.one .undef), (.one .undef)], []⟩
noncomputable def outs2 : List OutC := [⟨.ret, ⟨0, [4], []⟩, ⟨[(.one .undef), (.one .undef), (.one .undef), (.one .undef), (.one (.dat .bool)), (.one .undef), (.one .undef), (.one .undef), (.one .undef), (.one .undef), (.one .undef), (.one .undef), (.one .undef), (.one .undef), (.one .undef), (.one .undef), (.one .undef), (.one .undef), (.one .undef), (.one .undef), (.one .undef), (.one .undef), (.one .undef), (.one .undef), (.one .undef), (.one .undef), (.one .undef), (.one .undef), (.one .undef), (.one .undef), (.one .undef), (.one .undef)], []⟩⟩, ⟨(.exit 0), ⟨0, [0], []⟩, ⟨[(.one (.dat (.sl 112 (.pair (.int .i64) (.pair (.pair (.int .i64) (.pair (.int .i64) (.pair (.int .i64) (.pair (.int .i64) (.pair (.int .i64) (.pair (.int .i64) (.pair .str (.pair .str .unit)))))))) .unit))))), (.one .undef), (.one .undef), (.one .undef), (.one .undef), (.one .undef), (.one .undef), (.one .undef), (.one .undef), (.one .undef), (.one .undef), (.one .undef), (.one .undef), (.one .undef), (.one .undef), (.one .undef), (.one .undef), (.one .undef), (.one .undef), (.one .undef), (.one .undef), (.one .undef), (.one .undef), (.one .undef), (.one .undef), (.one .undef), (.one .undef), (.one .undef), (.one .undef), (.one .undef), (.one .undef), (.one .undef)], []⟩⟩]
noncomputable def L2 : LC := ⟨2, ⟨2, [0, 1, 5], []⟩, sh2, outs2, pre2, fn2⟩
noncomputable def H : List LC := [L2]
noncomputable def code (i : Nat) : Code := (loopsOf (bodyOf Try.f73)).getD i .skip
theorem step2 (x1 : (List Entry)) (x2 : Int) (x3 : Int) : L2.step E H (code 0) (x1, (x2, (x3, ()))) = raw2 x1 x2 x3 := by kernel_rfl
theorem lok2 : LoopOk E H (code 0) L2 := ⟨mu2, fun ⟨x1, x2, x3, ()⟩ hp => rounds_ok (step2 x1 x2 x3) (ok2 x1 x2 x3 hp)⟩
theorem run (x0 : (List Entry)) (x1 : Int) : runFn E H Try.f73 fs.ps fs.rs (x0, (x1, ())) = raw x0 x1 := by kernel_rfl
theorem env : EnvOk Try.prog E := env_cons spec_l1In.known (env_cons spec_CmdOk.known (env_nil tys))
theorem loops : ∀ c, Try.f73.body = some c → LoopsOk E H c := loops_of (by kernel_rfl) (by kernel_rfl) fun i l h => match i, h with
  | 0, h => Option.some.inj h ▸ lok2
  | n + 1, h => by cases h
theorem sound : Sound Try.prog 73 fs := fn_sound env mixed Try.func73 H loops fun ⟨x0, x1, ()⟩ hw _ => (run x0 x1).trans (eq x0 x1 hw)
theorem known : Seen Try.prog 73 fs := ⟨sound, _, Try.func73, by kernel_rfl, by kernel_rfl⟩
end spec_l9List
namespace impl_NoteOk
noncomputable def fs : FS := ⟨[(.val (.pair (.int .i64) (.pair (.int .i64) (.pair (.int .i64) (.pair (.int .i64) (.pair (.sl 112 (.pair (.int .i64) (.pair (.pair (.int .i64) (.pair (.int .i64) (.pair (.int .i64) (.pair (.int .i64) (.pair (.int .i64) (.pair (.int .i64) (.pair .str (.pair .str .unit)))))))) .unit))) (.pair .str .unit)))))) .f)], [(.bool, .o)], fun _ => true, fun x => ((), ((impl_NoteOk x.1), ()))⟩
noncomputable def E : Env := ⟨theta, [(71, impl_within.fs), (74, slices_ContainsFunc_Entry.fs), (75, impl_NoteOk_1.fs)], []⟩
noncomputable def H : List LC := []
noncomputable def code (i : Nat) : Code := (loopsOf (bodyOf Try.f27)).getD i .skip
theorem run (x0 : Note) : runFn E H Try.f27 fs.ps fs.rs (x0, ()) = raw x0 := by kernel_rfl
theorem env : EnvOk Try.prog E := env_cons impl_within.known (env_cons slices_ContainsFunc_Entry.known (env_cons impl_NoteOk_1.known (env_nil tys)))
theorem loops : ∀ c, Try.f27.body = some c → LoopsOk E H c := loops_none (by kernel_rfl)
theorem sound : Sound Try.prog 27 fs := fn_sound env mixed Try.func27 H loops fun ⟨x0, ()⟩ hw _ => (run x0).trans (eq x0 hw)
theorem known : Seen Try.prog 27 fs := ⟨sound, _, Try.func27, by kernel_rfl, by kernel_rfl⟩
end impl_NoteOk
namespace spec_NoteOk
noncomputable def fs : FS := ⟨[(.val (.pair (.int .i64) (.pair (.int .i64) (.pair (.int .i64) (.pair (.int .i64) (.pair (.sl 112 (.pair (.int .i64) (.pair (.pair (.int .i64) (.pair (.int .i64) (.pair (.int .i64) (.pair (.int .i64) (.pair (.int .i64) (.pair (.int .i64) (.pair .str (.pair .str .unit)))))))) .unit))) (.pair .str .unit)))))) .f)], [(.bool, .o)], fun _ => true, fun x => ((), ((spec_NoteOk x.1), ()))⟩
noncomputable def E : Env := ⟨theta, [(69, spec_l1In.fs), (73, spec_l9List.fs)], []⟩
noncomputable def H : List LC := []
noncomputable def code (i : Nat) : Code := (loopsOf (bodyOf Try.f25)).getD i .skip
theorem run (x0 : Note) : runFn E H Try.f25 fs.ps fs.rs (x0, ()) = raw x0 := by kernel_rfl
theorem env : EnvOk Try.prog E := env_cons spec_l1In.known (env_cons spec_l9List.known (env_nil tys))
theorem loops : ∀ c, Try.f25.body = some c → LoopsOk E H c := loops_none (by kernel_rfl)
theorem sound : Sound Try.prog 25 fs := fn_sound env mixed Try.func25 H loops fun ⟨x0, ()⟩ hw _ => (run x0).trans (eq x0 hw)
theorem known : Seen Try.prog 25 fs := ⟨sound, _, Try.func25, by kernel_rfl, by kernel_rfl⟩
end spec_NoteOk
namespace laws_eqByteS
noncomputable def fs : FS := ⟨[(.val (.sl 5 (.int .u8)) .f), (.val (.sl 5 (.int .u8)) .f)], [(.bool, .o)], fun _ => true, fun x => ((), ((laws_eqByteS x.1 x.2.1), ()))⟩
noncomputable def E : Env := ⟨theta, [], []⟩
noncomputable def sh4 : ShSt := ⟨[(.one (.dat (.sl 5 (.int .u8)))), (.one (.dat (.sl 5 (.int .u8)))), (.one .undef), (.one .undef), (.one .undef), (.one (.dat (.int .i64))), (.one .undef), (.one .undef), (.one .undef), (.one .undef), (.one .undef), (.one .undef), (.one .undef), (.one .undef), (.one .undef), (.one .undef), (.one .undef), (.one .undef), (.one .undef), (.one .undef), (.one .undef), (.one .undef), (.one .undef), (.one .undef), (.one .undef), (.one .undef)], []⟩
noncomputable def outs4 : List OutC := [⟨.ret, ⟨0, [4], []⟩, ⟨[(.one .undef), (.one .undef), (.one .undef), (.one .undef), (.one (.dat .bool)), (.one .undef), (.one .undef), (.one .undef), (.one .undef), (.one .undef), (.one .undef), (.one .undef), (.one .undef), (.one .undef), (.one .undef), (.one .undef), (.one .undef), (.one .undef), (.one .undef), (.one .undef), (.one .undef), (.one .undef), (.one .undef), (.one .undef), (.one .undef), (.one .undef)], []⟩⟩, ⟨(.exit 0), ⟨0, [], []⟩, ⟨[(.one .undef), (.one .undef), (.one .undef), (.one .undef), (.one .undef), (.one .undef), (.one .undef), (.one .undef), (.one .undef), (.one .undef), (.one .undef), (.one .undef), (.one .undef), (.one .undef), (.one .undef), (.one .undef), (.one .undef), (.one .undef), (.one .undef), (.one .undef), (.one .undef), (.one .undef), (.one .undef), (.one .undef), (.one .undef), (.one .undef)], []⟩⟩]
noncomputable def L4 : LC := ⟨4, ⟨4, [1, 0, 5], []⟩, sh4, outs4, pre4, fn4⟩
noncomputable def H : List LC := [L4]
noncomputable def code (i : Nat) : Code := (loopsOf (bodyOf Try.f46)).getD i .skip
theorem step4 (x1 : (List Int)) (x2 : (List Int)) (x3 : Int) : L4.step E H (code 0) (x1, (x2, (x3, ()))) = raw4 x1 x2 x3 := by kernel_rfl
theorem lok4 : LoopOk E H (code 0) L4 := ⟨mu4, fun ⟨x1, x2, x3, ()⟩ hp => rounds_ok (step4 x1 x2 x3) (ok4 x1 x2 x3 hp)⟩
theorem run (x0 : (List Int)) (x1 : (List Int)) : runFn E H Try.f46 fs.ps fs.rs (x0, (x1, ())) = raw x0 x1 := by kernel_rfl
theorem env : EnvOk Try.prog E := env_nil tys
theorem loops : ∀ c, Try.f46.body = some c → LoopsOk E H c := loops_of (by kernel_rfl) (by kernel_rfl) fun i l h => match i, h with
  | 0, h => Option.some.inj h ▸ lok4
  | n + 1, h => by cases h
theorem sound : Sound Try.prog 46 fs := fn_sound env mixed Try.func46 H loops fun ⟨x0, x1, ()⟩ hw _ => (run x0 x1).trans (eq x0 x1 hw)
theorem known : Seen Try.prog 46 fs := ⟨sound, _, Try.func46, by kernel_rfl, by kernel_rfl⟩
end laws_eqByteS
namespace laws_markByteS
noncomputable def fs : FS := ⟨[(.mut (.sl 5 (.int .u8))), (.val (.int .i64) .f)], [((.int .i64), .o)], fun x => laws_markByteS.pre x.1 x.2.1, fun x => (((laws_markByteS x.1 x.2.1).1, ()), ((laws_markByteS x.1 x.2.1).2, ()))⟩
noncomputable def E : Env := ⟨theta, [], []⟩
noncomputable def sh2 : ShSt := ⟨[(.one (.arr 40000001)), (.one (.dat (.int .i64))), (.one .undef), (.one .undef), (.one .undef), (.one (.dat (.int .i64))), (.one .undef), (.one .undef), (.one .undef), (.one .undef), (.one .undef), (.one .undef), (.one .undef), (.one .undef), (.one .undef), (.one .undef), (.one .undef), (.one .undef), (.one .undef), (.one .undef)], [(40000001, (.arr 5 (.int .u8)))]⟩
noncomputable def outs2 : List OutC := [⟨(.exit 0), ⟨0, [1, 0], []⟩, ⟨[(.one (.arr 40000001)), (.one (.dat (.int .i64))), (.one .undef), (.one .undef), (.one .undef), (.one .undef), (.one .undef), (.one .undef), (.one .undef), (.one .undef), (.one .undef), (.one .undef), (.one .undef), (.one .undef), (.one .undef), (.one .undef), (.one .undef), (.one .undef), (.one .undef), (.one .undef)], [(40000001, (.arr 5 (.int .u8)))]⟩⟩]
noncomputable def L2 : LC := ⟨2, ⟨2, [0, 5, 1], []⟩, sh2, outs2, pre2, fn2⟩
noncomputable def H : List LC := [L2]
noncomputable def code (i : Nat) : Code := (loopsOf (bodyOf Try.f48)).getD i .skip
theorem step2 (x1 : Int) (x2 : Int) (x3 : (List Int)) : L2.step E H (code 0) (x1, (x2, (x3, ()))) = raw2 x1 x2 x3 := by kernel_rfl
theorem lok2 : LoopOk E H (code 0) L2 := ⟨mu2, fun ⟨x1, x2, x3, ()⟩ hp => rounds_ok (step2 x1 x2 x3) (ok2 x1 x2 x3 hp)⟩
theorem run (x0 : (List Int)) (x1 : Int) : runFn E H Try.f48 fs.ps fs.rs (x0, (x1, ())) = raw x0 x1 := by kernel_rfl
theorem env : EnvOk Try.prog E := env_nil tys
theorem loops : ∀ c, Try.f48.body = some c → LoopsOk E H c := loops_of (by kernel_rfl) (by kernel_rfl) fun i l h => match i, h with
  | 0, h => Option.some.inj h ▸ lok2
  | n + 1, h => by cases h
theorem sound : Sound Try.prog 48 fs := fn_sound env mixed Try.func48 H loops fun ⟨x0, x1, ()⟩ hw hp => (run x0 x1).trans (eq x0 x1 hw hp)
theorem known : Seen Try.prog 48 fs := ⟨sound, _, Try.func48, by kernel_rfl, by kernel_rfl⟩
end laws_markByteS
namespace laws_heldByteS
noncomputable def fs : FS := ⟨[(.val (.sl 5 (.int .u8)) .f), (.val (.int .i64) .f)], [((.int .i64), .o)], fun x => laws_heldByteS.pre x.1 x.2.1, fun x => ((), ((laws_heldByteS x.1 x.2.1), ()))⟩
noncomputable def E : Env := ⟨theta, [], []⟩
noncomputable def sh2 : ShSt := ⟨[(.one (.dat (.sl 5 (.int .u8)))), (.one (.dat (.int .i64))), (.one .undef), (.one .undef), (.one .undef), (.one (.dat (.int .i64))), (.one .undef), (.one .undef), (.one .undef), (.one .undef), (.one .undef), (.one .undef), (.one .undef), (.one .undef), (.one .undef), (.one .undef), (.one .undef), (.one .undef), (.one .undef), (.one .undef), (.one .undef), (.one .undef)], []⟩
noncomputable def outs2 : List OutC := [⟨.ret, ⟨0, [4], []⟩, ⟨[(.one .undef), (.one .undef), (.one .undef), (.one .undef), (.one (.dat (.int .i64))), (.one .undef), (.one .undef), (.one .undef), (.one .undef), (.one .undef), (.one .undef), (.one .undef), (.one .undef), (.one .undef), (.one .undef), (.one .undef), (.one .undef), (.one .undef), (.one .undef), (.one .undef), (.one .undef), (.one .undef)], []⟩⟩, ⟨(.exit 0), ⟨0, [1], []⟩, ⟨[(.one .undef), (.one (.dat (.int .i64))), (.one .undef), (.one .undef), (.one .undef), (.one .undef), (.one .undef), (.one .undef), (.one .undef), (.one .undef), (.one .undef), (.one .undef), (.one .undef), (.one .undef), (.one .undef), (.one .undef), (.one .undef), (.one .undef), (.one .undef), (.one .undef), (.one .undef), (.one .undef)], []⟩⟩]
noncomputable def L2 : LC := ⟨2, ⟨2, [0, 5, 1], []⟩, sh2, outs2, pre2, fn2⟩
noncomputable def H : List LC := [L2]
noncomputable def code (i : Nat) : Code := (loopsOf (bodyOf Try.f49)).getD i .skip
theorem step2 (x1 : (List Int)) (x2 : Int) (x3 : Int) : L2.step E H (code 0) (x1, (x2, (x3, ()))) = raw2 x1 x2 x3 := by kernel_rfl
theorem lok2 : LoopOk E H (code 0) L2 := ⟨mu2, fun ⟨x1, x2, x3, ()⟩ hp => rounds_ok (step2 x1 x2 x3) (ok2 x1 x2 x3 hp)⟩
theorem run (x0 : (List Int)) (x1 : Int) : runFn E H Try.f49 fs.ps fs.rs (x0, (x1, ())) = raw x0 x1 := by kernel_rfl
theorem env : EnvOk Try.prog E := env_nil tys
theorem loops : ∀ c, Try.f49.body = some c → LoopsOk E H c := loops_of (by kernel_rfl) (by kernel_rfl) fun i l h => match i, h with
  | 0, h => Option.some.inj h ▸ lok2
  | n + 1, h => by cases h
theorem sound : Sound Try.prog 49 fs := fn_sound env mixed Try.func49 H loops fun ⟨x0, x1, ()⟩ hw hp => (run x0 x1).trans (eq x0 x1 hw hp)
theorem known : Seen Try.prog 49 fs := ⟨sound, _, Try.func49, by kernel_rfl, by kernel_rfl⟩
end laws_heldByteS
namespace spec_SumOf
noncomputable def fs : FS := ⟨[(.val (.sl 5 (.int .u8)) .f)], [((.int .i64), .o)], fun _ => true, fun x => ((), ((spec_SumOf x.1), ()))⟩
noncomputable def E : Env := ⟨theta, [], []⟩
noncomputable def sh3 : ShSt := ⟨[(.one (.dat (.sl 5 (.int .u8)))), (.one .undef), (.one .undef), (.one (.dat (.int .i64))), (.one (.dat (.int .i64))), (.one (.dat (.int .i64))), (.one .undef), (.one .undef), (.one .undef), (.one .undef), (.one .undef), (.one .undef), (.one .undef), (.one .undef), (.one .undef), (.one .undef), (.one .undef), (.one .undef), (.one .undef), (.one .undef), (.one .undef), (.one .undef), (.one .undef), (.one .undef), (.one .undef), (.one .undef), (.one .undef), (.one .undef)], []⟩
noncomputable def outs3 : List OutC := [⟨(.exit 0), ⟨0, [3, 4], []⟩, ⟨[(.one .undef), (.one .undef), (.one .undef), (.one (.dat (.int .i64))), (.one (.dat (.int .i64))), (.one .undef), (.one .undef), (.one .undef), (.one .undef), (.one .undef), (.one .undef), (.one .undef), (.one .undef), (.one .undef), (.one .undef), (.one .undef), (.one .undef), (.one .undef), (.one .undef), (.one .undef), (.one .undef), (.one .undef), (.one .undef), (.one .undef), (.one .undef), (.one .undef), (.one .undef), (.one .undef)], []⟩⟩]
noncomputable def L3 : LC := ⟨3, ⟨3, [0, 5, 4, 3], []⟩, sh3, outs3, pre3, fn3⟩
noncomputable def H : List LC := [L3]
noncomputable def code (i : Nat) : Code := (loopsOf (bodyOf Try.f118)).getD i .skip
theorem step3 (x1 : (List Int)) (x2 : Int) (x3 : Int) (x4 : Int) : L3.step E H (code 0) (x1, (x2, (x3, (x4, ())))) = raw3 x1 x2 x3 x4 := by kernel_rfl
theorem lok3 : LoopOk E H (code 0) L3 := ⟨mu3, fun ⟨x1, x2, x3, x4, ()⟩ hp => rounds_ok (step3 x1 x2 x3 x4) (ok3 x1 x2 x3 x4 hp)⟩
theorem run (x0 : (List Int)) : runFn E H Try.f118 fs.ps fs.rs (x0, ()) = raw x0 := by kernel_rfl
theorem env : EnvOk Try.prog E := env_nil tys
theorem loops : ∀ c, Try.f118.body = some c → LoopsOk E H c := loops_of (by kernel_rfl) (by kernel_rfl) fun i l h => match i, h with
  | 0, h => Option.some.inj h ▸ lok3
  | n + 1, h => by cases h
theorem sound : Sound Try.prog 118 fs := fn_sound env mixed Try.func118 H loops fun ⟨x0, ()⟩ hw _ => (run x0).trans (eq x0 hw)
theorem known : Seen Try.prog 118 fs := ⟨sound, _, Try.func118, by kernel_rfl, by kernel_rfl⟩
end spec_SumOf
namespace impl_SumOf
noncomputable def fs : FS := ⟨[(.val (.sl 5 (.int .u8)) .f)], [((.int .i64), .o)], fun _ => true, fun x => ((), ((impl_SumOf x.1), ()))⟩
noncomputable def E : Env := ⟨theta, [], []⟩
noncomputable def sh3 : ShSt := ⟨[(.one .undef), (.one .undef), (.one .undef), (.one (.dat (.int .i64))), (.one (.dat (.int .i64))), (.one .undef), (.one .undef), (.one (.dat (.sl 5 (.int .u8)))), (.one (.dat (.int .i64))), (.one (.dat (.int .i64))), (.one .undef), (.one .undef), (.one .undef), (.one .undef), (.one .undef), (.one .undef), (.one .undef), (.one .undef), (.one .undef), (.one .undef), (.one .undef), (.one .undef), (.one .undef), (.one .undef), (.one .undef), (.one .undef), (.one .undef)], []⟩
noncomputable def outs3 : List OutC := [⟨(.exit 0), ⟨0, [3, 4], []⟩, ⟨[(.one .undef), (.one .undef), (.one .undef), (.one (.dat (.int .i64))), (.one (.dat (.int .i64))), (.one .undef), (.one .undef), (.one .undef), (.one .undef), (.one .undef), (.one .undef), (.one .undef), (.one .undef), (.one .undef), (.one .undef), (.one .undef), (.one .undef), (.one .undef), (.one .undef), (.one .undef), (.one .undef), (.one .undef), (.one .undef), (.one .undef), (.one .undef), (.one .undef), (.one .undef)], []⟩⟩]
noncomputable def L3 : LC := ⟨3, ⟨3, [7, 8, 9, 4, 3], []⟩, sh3, outs3, pre3, fn3⟩
noncomputable def H : List LC := [L3]
noncomputable def code (i : Nat) : Code := (loopsOf (bodyOf Try.f94)).getD i .skip
theorem step3 (x1 : Int) (x2 : Int) (x3 : (List Int)) (x4 : Int) (x5 : Int) : L3.step E H (code 0) (x1, (x2, (x3, (x4, (x5, ()))))) = raw3 x1 x2 x3 x4 x5 := by kernel_rfl
theorem lok3 : LoopOk E H (code 0) L3 := ⟨mu3, fun ⟨x1, x2, x3, x4, x5, ()⟩ hp => rounds_ok (step3 x1 x2 x3 x4 x5) (ok3 x1 x2 x3 x4 x5 hp)⟩
theorem run (x0 : (List Int)) : runFn E H Try.f94 fs.ps fs.rs (x0, ()) = raw x0 := by kernel_rfl
theorem env : EnvOk Try.prog E := env_nil tys
theorem loops : ∀ c, Try.f94.body = some c → LoopsOk E H c := loops_of (by kernel_rfl) (by kernel_rfl) fun i l h => match i, h with
  | 0, h => Option.some.inj h ▸ lok3
  | n + 1, h => by cases h
theorem sound : Sound Try.prog 94 fs := fn_sound env mixed Try.func94 H loops fun ⟨x0, ()⟩ hw _ => (run x0).trans (eq x0 hw)
theorem known : Seen Try.prog 94 fs := ⟨sound, _, Try.func94, by kernel_rfl, by kernel_rfl⟩
end impl_SumOf
namespace spec_PutNum
noncomputable def fs : FS := ⟨[(.val (.int .i64) .f)], [((.sl 5 (.int .u8)), .o)], fun _ => true, fun x => ((), ((spec_PutNum x.1), ()))⟩
noncomputable def E : Env := ⟨theta, [(69, spec_l1In.fs)], []⟩
noncomputable def sh4 : ShSt := ⟨[(.one (.dat (.int .i64))), (.one .undef), (.one .undef), (.one (.arr 20000000)), (.one .undef), (.one .undef), (.one .undef), (.one .undef), (.one .undef), (.one .undef), (.one .undef), (.one .undef), (.one .undef), (.one .undef), (.one .undef), (.one .undef), (.one .undef), (.one .undef), (.one .undef), (.one .undef), (.one .undef), (.one .undef), (.one .undef), (.one .undef), (.one .undef)], [(20000000, (.arr 5 (.int .u8)))]⟩
noncomputable def outs4 : List OutC := [⟨(.exit 0), ⟨0, [0, 3], [(3, (5, (.int .u8)))]⟩, ⟨[(.one (.dat (.int .i64))), (.one .undef), (.one .undef), (.one (.arr 20000000)), (.one .undef), (.one .undef), (.one .undef), (.one .undef), (.one .undef), (.one .undef), (.one .undef), (.one .undef), (.one .undef), (.one .undef), (.one .undef), (.one .undef), (.one .undef), (.one .undef), (.one .undef), (.one .undef), (.one .undef), (.one .undef), (.one .undef), (.one .undef), (.one .undef)], [(20000000, (.arr 5 (.int .u8)))]⟩⟩]
noncomputable def L4 : LC := ⟨4, ⟨4, [0, 3], [(3, (5, (.int .u8)))]⟩, sh4, outs4, pre4, fn4⟩
noncomputable def H : List LC := [L4]
noncomputable def code (i : Nat) : Code := (loopsOf (bodyOf Try.f88)).getD i .skip
theorem step4 (x1 : Int) (x2 : (List Int)) : L4.step E H (code 0) (x1, (x2, ())) = raw4 x1 x2 := by kernel_rfl
theorem lok4 : LoopOk E H (code 0) L4 := ⟨mu4, fun ⟨x1, x2, ()⟩ hp => rounds_ok (step4 x1 x2) (ok4 x1 x2 hp)⟩
theorem run (x0 : Int) : runFn E H Try.f88 fs.ps fs.rs (x0, ()) = raw x0 := by kernel_rfl
theorem env : EnvOk Try.prog E := env_cons spec_l1In.known (env_nil tys)
theorem loops : ∀ c, Try.f88.body = some c → LoopsOk E H c := loops_of (by kernel_rfl) (by kernel_rfl) fun i l h => match i, h with
  | 0, h => Option.some.inj h ▸ lok4
  | n + 1, h => by cases h
theorem sound : Sound Try.prog 88 fs := fn_sound env mixed Try.func88 H loops fun ⟨x0, ()⟩ hw _ => (run x0).trans (eq x0 hw)
theorem known : Seen Try.prog 88 fs := ⟨sound, _, Try.func88, by kernel_rfl, by kernel_rfl⟩
end spec_PutNum
namespace impl_PutNum
noncomputable def fs : FS := ⟨[(.val (.int .i64) .f)], [((.sl 5 (.int .u8)), .o)], fun _ => true, fun x => ((), ((impl_PutNum x.1), ()))⟩
noncomputable def E : Env := ⟨theta, [(71, impl_within.fs)], []⟩
noncomputable def sh4 : ShSt := ⟨[(.one (.dat (.int .i64))), (.one .undef), (.one .undef), (.one (.arr 20000000)), (.one .undef), (.one .undef), (.one .undef), (.one .undef), (.one .undef), (.one .undef), (.one .undef), (.one .undef), (.one .undef), (.one .undef), (.one .undef), (.one .undef), (.one .undef), (.one .undef), (.one .undef), (.one .undef), (.one .undef), (.one .undef), (.one .undef)], [(20000000, (.arr 5 (.int .u8)))]⟩
noncomputable def outs4 : List OutC := [⟨(.exit 0), ⟨0, [0, 3], [(3, (5, (.int .u8)))]⟩, ⟨[(.one (.dat (.int .i64))), (.one .undef), (.one .undef), (.one (.arr 20000000)), (.one .undef), (.one .undef), (.one .undef), (.one .undef), (.one .undef), (.one .undef), (.one .undef), (.one .undef), (.one .undef), (.one .undef), (.one .undef), (.one .undef), (.one .undef), (.one .undef), (.one .undef), (.one .undef), (.one .undef), (.one .undef), (.one .undef)], [(20000000, (.arr 5 (.int .u8)))]⟩⟩]
noncomputable def L4 : LC := ⟨4, ⟨4, [0, 3], [(3, (5, (.int .u8)))]⟩, sh4, outs4, pre4, fn4⟩
noncomputable def H : List LC := [L4]
noncomputable def code (i : Nat) : Code := (loopsOf (bodyOf Try.f119)).getD i .skip
theorem step4 (x1 : Int) (x2 : (List Int)) : L4.step E H (code 0) (x1, (x2, ())) = raw4 x1 x2 := by kernel_rfl
theorem lok4 : LoopOk E H (code 0) L4 := ⟨mu4, fun ⟨x1, x2, ()⟩ hp => rounds_ok (step4 x1 x2) (ok4 x1 x2 hp)⟩
theorem run (x0 : Int) : runFn E H Try.f119 fs.ps fs.rs (x0, ()) = raw x0 := by kernel_rfl
theorem env : EnvOk Try.prog E := env_cons impl_within.known (env_nil tys)
theorem loops : ∀ c, Try.f119.body = some c → LoopsOk E H c := loops_of (by kernel_rfl) (by kernel_rfl) fun i l h => match i, h with
  | 0, h => Option.some.inj h ▸ lok4
  | n + 1, h => by cases h
theorem sound : Sound Try.prog 119 fs := fn_sound env mixed Try.func119 H loops fun ⟨x0, ()⟩ hw _ => (run x0).trans (eq x0 hw)
theorem known : Seen Try.prog 119 fs := ⟨sound, _, Try.func119, by kernel_rfl, by kernel_rfl⟩
end impl_PutNum
namespace spec_PutText
noncomputable def fs : FS := ⟨[(.val .str .f)], [((.sl 5 (.int .u8)), .o)], fun x => spec_PutText.pre x.1, fun x => ((), ((spec_PutText x.1), ()))⟩
noncomputable def E : Env := ⟨theta, [(88, spec_PutNum.fs)], []⟩
noncomputable def H : List LC := []
noncomputable def code (i : Nat) : Code := (loopsOf (bodyOf Try.f117)).getD i .skip
theorem run (x0 : (List UInt8)) : runFn E H Try.f117 fs.ps fs.rs (x0, ()) = raw x0 := by kernel_rfl
theorem env : EnvOk Try.prog E := env_cons spec_PutNum.known (env_nil tys)
theorem loops : ∀ c, Try.f117.body = some c → LoopsOk E H c := loops_none (by kernel_rfl)
theorem sound : Sound Try.prog 117 fs := fn_sound env mixed Try.func117 H loops fun ⟨x0, ()⟩ hw hp => (run x0).trans (eq x0 hw hp)
theorem known : Seen Try.prog 117 fs := ⟨sound, _, Try.func117, by kernel_rfl, by kernel_rfl⟩
end spec_PutText
namespace impl_PutText
noncomputable def fs : FS := ⟨[(.val .str .f)], [((.sl 5 (.int .u8)), .o)], fun x => impl_PutText.pre x.1, fun x => ((), ((impl_PutText x.1), ()))⟩
noncomputable def E : Env := ⟨theta, [(119, impl_PutNum.fs)], []⟩
noncomputable def H : List LC := []
noncomputable def code (i : Nat) : Code := (loopsOf (bodyOf Try.f93)).getD i .skip
theorem run (x0 : (List UInt8)) : runFn E H Try.f93 fs.ps fs.rs (x0, ()) = raw x0 := by kernel_rfl
theorem env : EnvOk Try.prog E := env_cons impl_PutNum.known (env_nil tys)
theorem loops : ∀ c, Try.f93.body = some c → LoopsOk E H c := loops_none (by kernel_rfl)
theorem sound : Sound Try.prog 93 fs := fn_sound env mixed Try.func93 H loops fun ⟨x0, ()⟩ hw hp => (run x0).trans (eq x0 hw hp)
theorem known : Seen Try.prog 93 fs := ⟨sound, _, Try.func93, by kernel_rfl, by kernel_rfl⟩
end impl_PutText
namespace spec_l7Nums
noncomputable def fs : FS := ⟨[(.val (.sl 3 (.int .i64)) .f)], [((.sl 5 (.int .u8)), .o)], fun x => spec_l7Nums.pre x.1, fun x => ((), ((spec_l7Nums x.1), ()))⟩
noncomputable def E : Env := ⟨theta, [(88, spec_PutNum.fs)], []⟩
noncomputable def sh3 : ShSt := ⟨[(.one (.dat (.sl 3 (.int .i64)))), (.one .undef), (.one .undef), (.one (.arr 20000000)), (.one (.dat (.int .i64))), (.one .undef), (.one .undef), (.one .undef), (.one .undef), (.one .undef), (.one .undef), (.one .undef), (.one .undef), (.one .undef), (.one .undef), (.one .undef), (.one .undef), (.one .undef), (.one .undef), (.one .undef)], [(20000000, (.arr 5 (.int .u8)))]⟩
noncomputable def outs3 : List OutC := [⟨(.exit 0), ⟨0, [3], [(3, (5, (.int .u8)))]⟩, ⟨[(.one .undef), (.one .undef), (.one .undef), (.one (.arr 20000000)), (.one .undef), (.one .undef), (.one .undef), (.one .undef), (.one .undef), (.one .undef), (.one .undef), (.one .undef), (.one .undef), (.one .undef), (.one .undef), (.one .undef), (.one .undef), (.one .undef), (.one .undef), (.one .undef)], [(20000000, (.arr 5 (.int .u8)))]⟩⟩]
noncomputable def L3 : LC := ⟨3, ⟨3, [0, 4, 3], [(3, (5, (.int .u8)))]⟩, sh3, outs3, pre3, fn3⟩
noncomputable def H : List LC := [L3]
noncomputable def code (i : Nat) : Code := (loopsOf (bodyOf Try.f171)).getD i .skip
theorem step3 (x1 : (List Int)) (x2 : Int) (x3 : (List Int)) : L3.step E H (code 0) (x1, (x2, (x3, ()))) = raw3 x1 x2 x3 := by kernel_rfl
theorem lok3 : LoopOk E H (code 0) L3 := ⟨mu3, fun ⟨x1, x2, x3, ()⟩ hp => rounds_ok (step3 x1 x2 x3) (ok3 x1 x2 x3 hp)⟩
theorem run (x0 : (List Int)) : runFn E H Try.f171 fs.ps fs.rs (x0, ()) = raw x0 := by kernel_rfl
theorem env : EnvOk Try.prog E := env_cons spec_PutNum.known (env_nil tys)
theorem loops : ∀ c, Try.f171.body = some c → LoopsOk E H c := loops_of (by kernel_rfl) (by kernel_rfl) fun i l h => match i, h with
  | 0, h => Option.some.inj h ▸ lok3
  | n + 1, h => by cases h
theorem sound : Sound Try.prog 171 fs := fn_sound env mixed Try.func171 H loops fun ⟨x0, ()⟩ hw hp => (run x0).trans (eq x0 hw hp)
theorem known : Seen Try.prog 171 fs := ⟨sound, _, Try.func171, by kernel_rfl, by kernel_rfl⟩
end spec_l7Nums
namespace impl_nums
noncomputable def fs : FS := ⟨[(.val (.sl 3 (.int .i64)) .f)], [((.sl 5 (.int .u8)), .o)], fun x => impl_nums.pre x.1, fun x => ((), ((impl_nums x.1), ()))⟩
noncomputable def E : Env := ⟨theta, [(119, impl_PutNum.fs)], []⟩
noncomputable def sh3 : ShSt := ⟨[(.one .undef), (.one .undef), (.one .undef), (.one (.arr 20000000)), (.one .undef), (.one .undef), (.one (.dat (.sl 3 (.int .i64)))), (.one (.dat (.int .i64))), (.one (.dat (.int .i64))), (.one .undef), (.one .undef), (.one .undef), (.one .undef), (.one .undef), (.one .undef), (.one .undef), (.one .undef), (.one .undef)], [(20000000, (.arr 5 (.int .u8)))]⟩
noncomputable def outs3 : List OutC := [⟨(.exit 0), ⟨0, [3], [(3, (5, (.int .u8)))]⟩, ⟨[(.one .undef), (.one .undef), (.one .undef), (.one (.arr 20000000)), (.one .undef), (.one .undef), (.one .undef), (.one .undef), (.one .undef), (.one .undef), (.one .undef), (.one .undef), (.one .undef), (.one .undef), (.one .undef), (.one .undef), (.one .undef), (.one .undef)], [(20000000, (.arr 5 (.int .u8)))]⟩⟩]
noncomputable def L3 : LC := ⟨3, ⟨3, [6, 7, 8, 3], [(3, (5, (.int .u8)))]⟩, sh3, outs3, pre3, fn3⟩
noncomputable def H : List LC := [L3]
noncomputable def code (i : Nat) : Code := (loopsOf (bodyOf Try.f90)).getD i .skip
theorem step3 (x1 : (List Int)) (x2 : Int) (x3 : Int) (x4 : (List Int)) : L3.step E H (code 0) (x1, (x2, (x3, (x4, ())))) = raw3 x1 x2 x3 x4 := by kernel_rfl
theorem lok3 : LoopOk E H (code 0) L3 := ⟨mu3, fun ⟨x1, x2, x3, x4, ()⟩ hp => rounds_ok (step3 x1 x2 x3 x4) (ok3 x1 x2 x3 x4 hp)⟩
theorem run (x0 : (List Int)) : runFn E H Try.f90 fs.ps fs.rs (x0, ()) = raw x0 := by kernel_rfl
theorem env : EnvOk Try.prog E := env_cons impl_PutNum.known (env_nil tys)
theorem loops : ∀ c, Try.f90.body = some c → LoopsOk E H c := loops_of (by kernel_rfl) (by kernel_rfl) fun i l h => match i, h with
  | 0, h => Option.some.inj h ▸ lok3
  | n + 1, h => by cases h
theorem sound : Sound Try.prog 90 fs := fn_sound env mixed Try.func90 H loops fun ⟨x0, ()⟩ hw hp => (run x0).trans (eq x0 hw hp)
theorem known : Seen Try.prog 90 fs := ⟨sound, _, Try.func90, by kernel_rfl, by kernel_rfl⟩
end impl_nums
namespace slices_Grow_byte
noncomputable def fs : FS := ⟨[(.nil 5 (.int .u8)), (.val (.int .i64) .f)], [((.sl 5 (.int .u8)), .o)], fun x => slices_Grow_byte.pre x.1, fun x => ((), ((slices_Grow_byte x.1), ()))⟩
noncomputable def E : Env := ⟨theta, [], []⟩
noncomputable def H : List LC := []
noncomputable def code (i : Nat) : Code := (loopsOf (bodyOf Try.f120)).getD i .skip
theorem run (x0 : Int) : runFn E H Try.f120 fs.ps fs.rs (x0, ()) = raw x0 := by kernel_rfl
theorem env : EnvOk Try.prog E := env_nil tys
theorem loops : ∀ c, Try.f120.body = some c → LoopsOk E H c := loops_none (by kernel_rfl)
theorem sound : Sound Try.prog 120 fs := fn_sound env mixed Try.func120 H loops fun ⟨x0, ()⟩ hw hp => (run x0).trans (eq x0 hw hp)
theorem known : Seen Try.prog 120 fs := ⟨sound, _, Try.func120, by kernel_rfl, by kernel_rfl⟩
end slices_Grow_byte
namespace slices_Concat_byte
noncomputable def fs : FS := ⟨[(.val (.sl 65 (.sl 5 (.int .u8))) .f)], [((.sl 5 (.int .u8)), .o)], fun x => slices_Concat_byte.pre x.1, fun x => ((), ((slices_Concat_byte x.1), ()))⟩
noncomputable def E : Env := ⟨theta, [(120, slices_Grow_byte.fs)], []⟩
noncomputable def sh3 : ShSt := ⟨[(.one (.dat (.sl 65 (.sl 5 (.int .u8))))), (.one .undef), (.one .undef), (.one (.dat (.int .i64))), (.one .undef), (.one .undef), (.one .undef), (.one .undef), (.one .undef), (.one (.dat (.sl 65 (.sl 5 (.int .u8))))), (.one (.dat (.int .i64))), (.one (.dat (.int .i64))), (.one .undef), (.one .undef), (.one .undef), (.one .undef), (.one .undef), (.one .undef), (.one .undef), (.one .undef), (.one .undef), (.one .undef), (.one .undef), (.one .undef), (.one .undef), (.one .undef), (.one .undef), (.one .undef), (.one .undef), (.one .undef), (.one .undef), (.one .undef), (.one .undef), (.one .undef), (.one .undef), (.one .undef)], []⟩
noncomputable def outs3 : List OutC := [⟨(.exit 0), ⟨0, [0, 3], []⟩, ⟨[(.one (.dat (.sl 65 (.sl 5 (.int .u8))))), (.one .undef), (.one .undef), (.one (.dat (.int .i64))), (.one .undef), (.one .undef), (.one .undef), (.one .undef), (.one .undef), (.one .undef), (.one .undef), (.one .undef), (.one .undef), (.one .undef), (.one .undef), (.one .undef), (.one .undef), (.one .undef), (.one .undef), (.one .undef), (.one .undef), (.one .undef), (.one .undef), (.one .undef), (.one .undef), (.one .undef), (.one .undef), (.one .undef), (.one .undef), (.one .undef), (.one .undef), (.one .undef), (.one .undef), (.one .undef), (.one .undef), (.one .undef)], []⟩⟩]
noncomputable def L3 : LC := ⟨3, ⟨3, [9, 0, 10, 11, 3], []⟩, sh3, outs3, pre3, fn3⟩
noncomputable def sh11 : ShSt := ⟨[(.one .undef), (.one .undef), (.one .undef), (.one .undef), (.one .undef), (.one .undef), (.one (.arr 20000000)), (.one .undef), (.one .undef), (.one .undef), (.one .undef), (.one .undef), (.one .undef), (.one .undef), (.one .undef), (.one .undef), (.one .undef), (.one .undef), (.one .undef), (.one .undef), (.one .undef), (.one .undef), (.one .undef), (.one .undef), (.one .undef), (.one (.dat (.sl 65 (.sl 5 (.int .u8))))), (.one (.dat (.int .i64))), (.one (.dat (.int .i64))), (.one .undef), (.one .undef), (.one .undef), (.one .undef), (.one .undef), (.one .undef), (.one .undef), (.one .undef)], [(20000000, (.arr 5 (.int .u8)))]⟩
noncomputable def outs11 : List OutC := [⟨(.exit 2), ⟨0, [6], [(6, (5, (.int .u8)))]⟩, ⟨[(.one .undef), (.one .undef), (.one .undef), (.one .undef), (.one .undef), (.one .undef), (.one (.arr 20000000)), (.one .undef), (.one .undef), (.one .undef), (.one .undef), (.one .undef), (.one .undef), (.one .undef), (.one .undef), (.one .undef), (.one .undef), (.one .undef), (.one .undef), (.one .undef), (.one .undef), (.one .undef), (.one .undef), (.one .undef), (.one .undef), (.one .undef), (.one .undef), (.one .undef), (.one .undef), (.one .undef), (.one .undef), (.one .undef), (.one .undef), (.one .undef), (.one .undef), (.one .undef)], [(20000000, (.arr 5 (.int .u8)))]⟩⟩]
noncomputable def L11 : LC := ⟨11, ⟨11, [25, 26, 27, 6], [(6, (5, (.int .u8)))]⟩, sh11, outs11, pre11, fn11⟩
noncomputable def H : List LC := [L3, L11]
noncomputable def code (i : Nat) : Code := (loopsOf (bodyOf Try.f91)).getD i .skip
theorem step3 (x1 : (List (List Int))) (x2 : Int) (x3 : (List (List Int))) (x4 : Int) (x5 : Int) : L3.step E H (code 0) (x1, (x2, (x3, (x4, (x5, ()))))) = raw3 x1 x2 x3 x4 x5 := by kernel_rfl
theorem lok3 : LoopOk E H (code 0) L3 := ⟨mu3, fun ⟨x1, x2, x3, x4, x5, ()⟩ hp => rounds_ok (step3 x1 x2 x3 x4 x5) (ok3 x1 x2 x3 x4 x5 hp)⟩
theorem step11 (x1 : (List (List Int))) (x2 : Int) (x3 : Int) (x4 : (List Int)) : L11.step E H (code 1) (x1, (x2, (x3, (x4, ())))) = raw11 x1 x2 x3 x4 := by kernel_rfl
theorem lok11 : LoopOk E H (code 1) L11 := ⟨mu11, fun ⟨x1, x2, x3, x4, ()⟩ hp => rounds_ok (step11 x1 x2 x3 x4) (ok11 x1 x2 x3 x4 hp)⟩
theorem run (x0 : (List (List Int))) : runFn E H Try.f91 fs.ps fs.rs (x0, ()) = raw x0 := by kernel_rfl
theorem env : EnvOk Try.prog E := env_cons slices_Grow_byte.known (env_nil tys)
theorem loops : ∀ c, Try.f91.body = some c → LoopsOk E H c := loops_of (by kernel_rfl) (by kernel_rfl) fun i l h => match i, h with
  | 0, h => Option.some.inj h ▸ lok3
  | 1, h => Option.some.inj h ▸ lok11
  | n + 2, h => by cases h
theorem sound : Sound Try.prog 91 fs := fn_sound env mixed Try.func91 H loops fun ⟨x0, ()⟩ hw hp => (run x0).trans (eq x0 hw hp)
theorem known : Seen Try.prog 91 fs := ⟨sound, _, Try.func91, by kernel_rfl, by kernel_rfl⟩
end slices_Concat_byte
namespace spec_CmdBytes
noncomputable def fs : FS := ⟨[(.val (.pair (.int .i64) (.pair (.int .i64) (.pair (.int .i64) (.pair (.int .i64) (.pair (.int .i64) (.pair (.int .i64) (.pair .str (.pair .str .unit)))))))) .f)], [((.sl 5 (.int .u8)), .o)], fun _ => true, fun x => ((), ((spec_CmdBytes x.1), ()))⟩
noncomputable def E : Env := ⟨theta, [(70, spec_CmdOk.fs), (117, spec_PutText.fs), (171, spec_l7Nums.fs)], []⟩
noncomputable def H : List LC := []
noncomputable def code (i : Nat) : Code := (loopsOf (bodyOf Try.f116)).getD i .skip
theorem run (x0 : Cmd) : runFn E H Try.f116 fs.ps fs.rs (x0, ()) = raw x0 := by kernel_rfl
theorem env : EnvOk Try.prog E := env_cons spec_CmdOk.known (env_cons spec_PutText.known (env_cons spec_l7Nums.known (env_nil tys)))
theorem loops : ∀ c, Try.f116.body = some c → LoopsOk E H c := loops_none (by kernel_rfl)
theorem sound : Sound Try.prog 116 fs := fn_sound env mixed Try.func116 H loops fun ⟨x0, ()⟩ hw _ => (run x0).trans (eq x0 hw)
theorem known : Seen Try.prog 116 fs := ⟨sound, _, Try.func116, by kernel_rfl, by kernel_rfl⟩
end spec_CmdBytes
namespace impl_CmdBytes
noncomputable def fs : FS := ⟨[(.val (.pair (.int .i64) (.pair (.int .i64) (.pair (.int .i64) (.pair (.int .i64) (.pair (.int .i64) (.pair (.int .i64) (.pair .str (.pair .str .unit)))))))) .f)], [((.sl 5 (.int .u8)), .o)], fun _ => true, fun x => ((), ((impl_CmdBytes x.1), ()))⟩
noncomputable def E : Env := ⟨theta, [(72, impl_CmdOk.fs), (93, impl_PutText.fs), (90, impl_nums.fs), (91, slices_Concat_byte.fs)], []⟩
noncomputable def H : List LC := []
noncomputable def code (i : Nat) : Code := (loopsOf (bodyOf Try.f92)).getD i .skip
theorem run (x0 : Cmd) : runFn E H Try.f92 fs.ps fs.rs (x0, ()) = raw x0 := by kernel_rfl
theorem env : EnvOk Try.prog E := env_cons impl_CmdOk.known (env_cons impl_PutText.known (env_cons impl_nums.known (env_cons slices_Concat_byte.known (env_nil tys))))
theorem loops : ∀ c, Try.f92.body = some c → LoopsOk E H c := loops_none (by kernel_rfl)
theorem sound : Sound Try.prog 92 fs := fn_sound env mixed Try.func92 H loops fun ⟨x0, ()⟩ hw _ => (run x0).trans (eq x0 hw)
theorem known : Seen Try.prog 92 fs := ⟨sound, _, Try.func92, by kernel_rfl, by kernel_rfl⟩
end impl_CmdBytes
namespace spec_l9Body
noncomputable def fs : FS := ⟨[(.val (.pair (.int .i64) (.pair (.int .i64) (.pair (.int .i64) (.pair (.int .i64) (.pair (.sl 112 (.pair (.int .i64) (.pair (.pair (.int .i64) (.pair (.int .i64) (.pair (.int .i64) (.pair (.int .i64) (.pair (.int .i64) (.pair (.int .i64) (.pair .str (.pair .str .unit)))))))) .unit))) (.pair .str .unit)))))) .f)], [((.sl 5 (.int .u8)), .o)], fun x => spec_l9Body.pre x.1, fun x => ((), ((spec_l9Body x.1), ()))⟩
noncomputable def E : Env := ⟨theta, [(88, spec_PutNum.fs), (117, spec_PutText.fs), (116, spec_CmdBytes.fs)], []⟩
noncomputable def sh6 : ShSt := ⟨[(.one .undef), (.one (.bptr 0 [] (.pair (.int .i64) (.pair (.int .i64) (.pair (.int .i64) (.pair (.int .i64) (.pair (.sl 112 (.pair (.int .i64) (.pair (.pair (.int .i64) (.pair (.int .i64) (.pair (.int .i64) (.pair (.int .i64) (.pair (.int .i64) (.pair (.int .i64) (.pair .str (.pair .str .unit)))))))) .unit))) (.pair .str .unit)))))))), (.one .undef), (.one (.arr 20000000)), (.one (.dat (.int .i64))), (.one .undef), (.one .undef), (.one .undef), (.one .undef), (.one .undef), (.one .undef), (.one .undef), (.one .undef), (.one .undef), (.one .undef), (.one .undef), (.one .undef), (.one .undef), (.one .undef), (.one .undef), (.one .undef), (.one .undef), (.one .undef), (.one .undef), (.one .undef), (.one .undef), (.one .undef), (.one .undef), (.one .undef), (.one .undef), (.one .undef), (.one .undef), (.one .undef), (.one .undef), (.one .undef), (.one .undef), (.one .undef), (.one .undef), (.one .undef), (.one .undef), (.one .undef), (.one .undef), (.one .undef), (.one .undef), (.one .undef), (.one .undef), (.one .undef), (.one .undef), (.one .undef), (.one .undef), (.one .undef), (.one .undef), (.one .undef), (.one .undef), (.one .undef), (.one .undef), (.one .undef)], [(0, (.box (.pair (.int .i64) (.pair (.int .i64) (.pair (.int .i64) (.pair (.int .i64) (.pair (.sl 112 (.pair (.int .i64) (.pair (.pair (.int .i64) (.pair (.int .i64) (.pair (.int .i64) (.pair (.int .i64) (.pair (.int .i64) (.pair (.int .i64) (.pair .str (.pair .str .unit)))))))) .unit))) (.pair .str .unit)))))) (.dat (.pair (.int .i64) (.pair (.int .i64) (.pair (.int .i64) (.pair (.int .i64) (.pair (.sl 112 (.pair (.int .i64) (.pair (.pair (.int .i64) (.pair (.int .i64) (.pair (.int .i64) (.pair (.int .i64) (.pair (.int .i64) (.pair (.int .i64) (.pair .str (.pair .str .unit)))))))) .unit))) (.pair .str .unit))))))))), (20000000, (.arr 5 (.int .u8)))]⟩
noncomputable def outs6 : List OutC := [⟨(.exit 0), ⟨0, [1, 3], [(3, (5, (.int .u8)))]⟩, ⟨[(.one .undef), (.one (.bptr 0 [] (.pair (.int .i64) (.pair (.int .i64) (.pair (.int .i64) (.pair (.int .i64) (.pair (.sl 112 (.pair (.int .i64) (.pair (.pair (.int .i64) (.pair (.int .i64) (.pair (.int .i64) (.pair (.int .i64) (.pair (.int .i64) (.pair (.int .i64) (.pair .str (.pair .str .unit)))))))) .unit))) (.pair .str .unit)))))))), (.one .undef), (.one (.arr 20000000)), (.one .undef), (.one .undef), (.one .undef), (.one .undef), (.one .undef), (.one .undef), (.one .undef), (.one .undef), (.one .undef), (.one .undef), (.one .undef), (.one .undef), (.one .undef), (.one .undef), (.one .undef), (.one .undef), (.one .undef), (.one .undef), (.one .undef), (.one .undef), (.one .undef), (.one .undef), (.one .undef), (.one .undef), (.one .undef), (.one .undef), (.one .undef), (.one .undef), (.one .undef), (.one .undef), (.one .undef), (.one .undef), (.one .undef), (.one .undef), (.one .undef), (.one .undef), (.one .undef), (.one .undef), (.one .undef), (.one .undef), (.one .undef), (.one .undef), (.one .undef), (.one .undef), (.one .undef), (.one .undef), (.one .undef), (.one .undef), (.one .undef), (.one .undef), (.one .undef), (.one .undef), (.one .undef)], [(0, (.box (.pair (.int .i64) (.pair (.int .i64) (.pair (.int .i64) (.pair (.int .i64) (.pair (.sl 112 (.pair (.int .i64) (.pair (.pair (.int .i64) (.pair (.int .i64) (.pair (.int .i64) (.pair (.int .i64) (.pair (.int .i64) (.pair (.int .i64) (.pair .str (.pair .str .unit)))))))) .unit))) (.pair .str .unit)))))) (.dat (.pair (.int .i64) (.pair (.int .i64) (.pair (.int .i64) (.pair (.int .i64) (.pair (.sl 112 (.pair (.int .i64) (.pair (.pair (.int .i64) (.pair (.int .i64) (.pair (.int .i64) (.pair (.int .i64) (.pair (.int .i64) (.pair (.int .i64) (.pair .str (.pair .str .unit)))))))) .unit))) (.pair .str .unit))))))))), (20000000, (.arr 5 (.int .u8)))]⟩⟩]
noncomputable def L6 : LC := ⟨6, ⟨6, [1, 4, 3], [(3, (5, (.int .u8)))]⟩, sh6, outs6, pre6, fn6⟩
noncomputable def H : List LC := [L6]
noncomputable def code (i : Nat) : Code := (loopsOf (bodyOf Try.f87)).getD i .skip
theorem step6 (x1 : Int) (x2 : Note) (x3 : (List Int)) : L6.step E H (code 0) (x1, (x2, (x3, ()))) = raw6 x1 x2 x3 := by kernel_rfl
theorem lok6 : LoopOk E H (code 0) L6 := ⟨mu6, fun ⟨x1, x2, x3, ()⟩ hp => rounds_ok (step6 x1 x2 x3) (ok6 x1 x2 x3 hp)⟩
theorem run (x0 : Note) : runFn E H Try.f87 fs.ps fs.rs (x0, ()) = raw x0 := by kernel_rfl
theorem env : EnvOk Try.prog E := env_cons spec_PutNum.known (env_cons spec_PutText.known (env_cons spec_CmdBytes.known (env_nil tys)))
theorem loops : ∀ c, Try.f87.body = some c → LoopsOk E H c := loops_of (by kernel_rfl) (by kernel_rfl) fun i l h => match i, h with
  | 0, h => Option.some.inj h ▸ lok6
  | n + 1, h => by cases h
theorem sound : Sound Try.prog 87 fs := fn_sound env mixed Try.func87 H loops fun ⟨x0, ()⟩ hw hp => (run x0).trans (eq x0 hw hp)
theorem known : Seen Try.prog 87 fs := ⟨sound, _, Try.func87, by kernel_rfl, by kernel_rfl⟩
end spec_l9Body
namespace spec_l9Sum
noncomputable def fs : FS := ⟨[(.val (.sl 5 (.int .u8)) .f)], [((.sl 5 (.int .u8)), .o)], fun _ => true, fun x => ((), ((spec_l9Sum x.1), ()))⟩
noncomputable def E : Env := ⟨theta, [(118, spec_SumOf.fs)], []⟩
noncomputable def H : List LC := []
noncomputable def code (i : Nat) : Code := (loopsOf (bodyOf Try.f89)).getD i .skip
theorem run (x0 : (List Int)) : runFn E H Try.f89 fs.ps fs.rs (x0, ()) = raw x0 := by kernel_rfl
theorem env : EnvOk Try.prog E := env_cons spec_SumOf.known (env_nil tys)
theorem loops : ∀ c, Try.f89.body = some c → LoopsOk E H c := loops_none (by kernel_rfl)
theorem sound : Sound Try.prog 89 fs := fn_sound env mixed Try.func89 H loops fun ⟨x0, ()⟩ hw _ => (run x0).trans (eq x0 hw)
theorem known : Seen Try.prog 89 fs := ⟨sound, _, Try.func89, by kernel_rfl, by kernel_rfl⟩
end spec_l9Sum
namespace spec_NoteBytes
noncomputable def fs : FS := ⟨[(.val (.pair (.int .i64) (.pair (.int .i64) (.pair (.int .i64) (.pair (.int .i64) (.pair (.sl 112 (.pair (.int .i64) (.pair (.pair (.int .i64) (.pair (.int .i64) (.pair (.int .i64) (.pair (.int .i64) (.pair (.int .i64) (.pair (.int .i64) (.pair .str (.pair .str .unit)))))))) .unit))) (.pair .str .unit)))))) .f)], [((.sl 5 (.int .u8)), .o)], fun _ => true, fun x => ((), ((spec_NoteBytes x.1), ()))⟩
noncomputable def E : Env := ⟨theta, [(25, spec_NoteOk.fs), (88, spec_PutNum.fs), (87, spec_l9Body.fs), (89, spec_l9Sum.fs)], []⟩
noncomputable def H : List LC := []
noncomputable def code (i : Nat) : Code := (loopsOf (bodyOf Try.f44)).getD i .skip
theorem run (x0 : Note) : runFn E H Try.f44 fs.ps fs.rs (x0, ()) = raw x0 := by kernel_rfl
theorem env : EnvOk Try.prog E := env_cons spec_NoteOk.known (env_cons spec_PutNum.known (env_cons spec_l9Body.known (env_cons spec_l9Sum.known (env_nil tys))))
theorem loops : ∀ c, Try.f44.body = some c → LoopsOk E H c := loops_none (by kernel_rfl)
theorem sound : Sound Try.prog 44 fs := fn_sound env mixed Try.func44 H loops fun ⟨x0, ()⟩ hw _ => (run x0).trans (eq x0 hw)
theorem known : Seen Try.prog 44 fs := ⟨sound, _, Try.func44, by kernel_rfl, by kernel_rfl⟩
end spec_NoteBytes
namespace impl_NoteBytes
noncomputable def fs : FS := ⟨[(.val (.pair (.int .i64) (.pair (.int .i64) (.pair (.int .i64) (.pair (.int .i64) (.pair (.sl 112 (.pair (.int .i64) (.pair (.pair (.int .i64) (.pair (.int .i64) (.pair (.int .i64) (.pair (.int .i64) (.pair (.int .i64) (.pair (.int .i64) (.pair .str (.pair .str .unit)))))))) .unit))) (.pair .str .unit)))))) .f)], [((.sl 5 (.int .u8)), .o)], fun _ => true, fun x => ((), ((impl_NoteBytes x.1), ()))⟩
noncomputable def E : Env := ⟨theta, [(27, impl_NoteOk.fs), (94, impl_SumOf.fs), (93, impl_PutText.fs), (90, impl_nums.fs), (91, slices_Concat_byte.fs), (92, impl_CmdBytes.fs)], []⟩
noncomputable def sh5 : ShSt := ⟨[(.one .undef), (.one (.bptr 0 [] (.pair (.int .i64) (.pair (.int .i64) (.pair (.int .i64) (.pair (.int .i64) (.pair (.sl 112 (.pair (.int .i64) (.pair (.pair (.int .i64) (.pair (.int .i64) (.pair (.int .i64) (.pair (.int .i64) (.pair (.int .i64) (.pair (.int .i64) (.pair .str (.pair .str .unit)))))))) .unit))) (.pair .str .unit)))))))), (.one .undef), (.one (.arr 20000000)), (.one .undef), (.one .undef), (.one .undef), (.one .undef), (.one .undef), (.one .undef), (.one .undef), (.one .undef), (.one .undef), (.one .undef), (.one .undef), (.one .undef), (.one .undef), (.one .undef), (.one .undef), (.one .undef), (.one .undef), (.one .undef), (.one .undef), (.one .undef), (.one .undef), (.one (.dat (.sl 112 (.pair (.int .i64) (.pair (.pair (.int .i64) (.pair (.int .i64) (.pair (.int .i64) (.pair (.int .i64) (.pair (.int .i64) (.pair (.int .i64) (.pair .str (.pair .str .unit)))))))) .unit))))), (.one (.dat (.int .i64))), (.one (.dat (.int .i64))), (.one .undef), (.one .undef), (.one .undef), (.one .undef), (.one .undef), (.one .undef), (.one .undef), (.one .undef), (.one .undef), (.one .undef), (.one .undef), (.one .undef), (.one .undef), (.one .undef), (.one .undef), (.one .undef), (.one .undef), (.one .undef), (.one .undef), (.one .undef), (.one .undef), (.one .undef), (.one .undef), (.one .undef), (.one .undef), (.one .undef), (.one .undef), (.one .undef), (.one .undef), (.one .undef), (.one .undef), (.one .undef), (.one .undef), (.one .undef), (.one .undef), (.one .undef), (.one .undef), (.one .undef), (.one .undef), (.one .undef)], [(0, (.box (.pair (.int .i64) (.pair (.int .i64) (.pair (.int .i64) (.pair (.int .i64) (.pair (.sl 112 (.pair (.int .i64) (.pair (.pair (.int .i64) (.pair (.int .i64) (.pair (.int .i64) (.pair (.int .i64) (.pair (.int .i64) (.pair (.int .i64) (.pair .str (.pair .str .unit)))))))) .unit))) (.pair .str .unit)))))) (.dat (.pair (.int .i64) (.pair (.int .i64) (.pair (.int .i64) (.pair (.int .i64) (.pair (.sl 112 (.pair (.int .i64) (.pair (.pair (.int .i64) (.pair (.int .i64) (.pair (.int .i64) (.pair (.int .i64) (.pair (.int .i64) (.pair (.int .i64) (.pair .str (.pair .str .unit)))))))) .unit))) (.pair .str .unit))))))))), (20000000, (.arr 5 (.int .u8)))]⟩
noncomputable def outs5 : List OutC := [⟨(.exit 0), ⟨0, [1, 3], [(3, (5, (.int .u8)))]⟩, ⟨[(.one .undef), (.one (.bptr 0 [] (.pair (.int .i64) (.pair (.int .i64) (.pair (.int .i64) (.pair (.int .i64) (.pair (.sl 112 (.pair (.int .i64) (.pair (.pair (.int .i64) (.pair (.int .i64) (.pair (.int .i64) (.pair (.int .i64) (.pair (.int .i64) (.pair (.int .i64) (.pair .str (.pair .str .unit)))))))) .unit))) (.pair .str .unit)))))))), (.one .undef), (.one (.arr 20000000)), (.one .undef), (.one .undef), (.one .undef), (.one .undef), (.one .undef), (.one .undef), (.one .undef), (.one .undef), (.one .undef), (.one .undef), (.one .undef), (.one .undef), (.one .undef), (.one .undef), (.one .undef), (.one .undef), (.one .undef), (.one .undef), (.one .undef), (.one .undef), (.one .undef), (.one .undef), (.one .undef), (.one .undef), (.one .undef), (.one .undef), (.one .undef), (.one .undef), (.one .undef), (.one .undef), (.one .undef), (.one .undef), (.one .undef), (.one .undef), (.one .undef), (.one .undef), (.one .undef), (.one .undef), (.one .undef), (.one .undef), (.one .undef), (.one .undef), (.one .undef), (.one .undef), (.one .undef), (.one .undef), (.one .undef), (.one .undef), (.one .undef), (.one .undef), (.one .undef), (.one .undef), (.one .undef), (.one .undef), (.one .undef), (.one .undef), (.one .undef), (.one .undef), (.one .undef), (.one .undef), (.one .undef), (.one .undef), (.one .undef), (.one .undef)], [(0, (.box (.pair (.int .i64) (.pair (.int .i64) (.pair (.int .i64) (.pair (.int .i64) (.pair (.sl 112 (.pair (.int .i64) (.pair (.pair (.int .i64) (.pair (.int .i64) (.pair (.int .i64) (.pair (.int .i64) (.pair (.int .i64) (.pair (.int .i64) (.pair .str (.pair .str .unit)))))))) .unit))) (.pair .str .unit)))))) (.dat (.pair (.int .i64) (.pair (.int .i64) (.pair (.int .i64) (.pair (.int .i64) (.pair (.sl 112 (.pair (.int .i64) (.pair (.pair (.int .i64) (.pair (.int .i64) (.pair (.int .i64) (.pair (.int .i64) (.pair (.int .i64) (.pair (.int .i64) (.pair .str (.pair .str .unit)))))))) .unit))) (.pair .str .unit))))))))), (20000000, (.arr 5 (.int .u8)))]⟩⟩]
noncomputable def L5 : LC := ⟨5, ⟨5, [25, 1, 26, 27, 3], [(3, (5, (.int .u8)))]⟩, sh5, outs5, pre5, fn5⟩
noncomputable def H : List LC := [L5]
noncomputable def code (i : Nat) : Code := (loopsOf (bodyOf Try.f45)).getD i .skip
theorem step5 (x1 : (List Entry)) (x2 : Int) (x3 : Int) (x4 : Note) (x5 : (List Int)) : L5.step E H (code 0) (x1, (x2, (x3, (x4, (x5, ()))))) = raw5 x1 x2 x3 x4 x5 := by kernel_rfl
theorem lok5 : LoopOk E H (code 0) L5 := ⟨mu5, fun ⟨x1, x2, x3, x4, x5, ()⟩ hp => rounds_ok (step5 x1 x2 x3 x4 x5) (ok5 x1 x2 x3 x4 x5 hp)⟩
theorem run (x0 : Note) : runFn E H Try.f45 fs.ps fs.rs (x0, ()) = raw x0 := by kernel_rfl
theorem env : EnvOk Try.prog E := env_cons impl_NoteOk.known (env_cons impl_SumOf.known (env_cons impl_PutText.known (env_cons impl_nums.known (env_cons slices_Concat_byte.known (env_cons impl_CmdBytes.known (env_nil tys))))))
theorem loops : ∀ c, Try.f45.body = some c → LoopsOk E H c := loops_of (by kernel_rfl) (by kernel_rfl) fun i l h => match i, h with
  | 0, h => Option.some.inj h ▸ lok5
  | n + 1, h => by cases h
theorem sound : Sound Try.prog 45 fs := fn_sound env mixed Try.func45 H loops fun ⟨x0, ()⟩ hw _ => (run x0).trans (eq x0 hw)
theorem known : Seen Try.prog 45 fs := ⟨sound, _, Try.func45, by kernel_rfl, by kernel_rfl⟩
end impl_NoteBytes
namespace laws_markNote
noncomputable def fs : FS := ⟨[(.mut (.pair (.int .i64) (.pair (.int .i64) (.pair (.int .i64) (.pair (.int .i64) (.pair (.sl 112 (.pair (.int .i64) (.pair (.pair (.int .i64) (.pair (.int .i64) (.pair (.int .i64) (.pair (.int .i64) (.pair (.int .i64) (.pair (.int .i64) (.pair .str (.pair .str .unit)))))))) .unit))) (.pair .str .unit))))))), (.val (.int .i64) .f)], [((.int .i64), .o)], fun x => laws_markNote.pre x.1 x.2.1, fun x => (((laws_markNote x.1 x.2.1).1, ()), ((laws_markNote x.1 x.2.1).2, ()))⟩
noncomputable def E : Env := ⟨theta, [(43, laws_markEntryS.fs)], []⟩
noncomputable def H : List LC := []
noncomputable def code (i : Nat) : Code := (loopsOf (bodyOf Try.f47)).getD i .skip
theorem run (x0 : Note) (x1 : Int) : runFn E H Try.f47 fs.ps fs.rs (x0, (x1, ())) = raw x0 x1 := by kernel_rfl
theorem env : EnvOk Try.prog E := env_cons laws_markEntryS.known (env_nil tys)
theorem loops : ∀ c, Try.f47.body = some c → LoopsOk E H c := loops_none (by kernel_rfl)
theorem sound : Sound Try.prog 47 fs := fn_sound env mixed Try.func47 H loops fun ⟨x0, x1, ()⟩ hw hp => (run x0 x1).trans (eq x0 x1 hw hp)
theorem known : Seen Try.prog 47 fs := ⟨sound, _, Try.func47, by kernel_rfl, by kernel_rfl⟩
end laws_markNote
namespace laws_FnExactNoteBytes
noncomputable def fs : FS := ⟨[(.val (.pair (.int .i64) (.pair (.int .i64) (.pair (.int .i64) (.pair (.int .i64) (.pair (.sl 122 (.pair (.int .i64) (.pair (.pair (.int .i64) (.pair (.int .i64) (.pair (.int .i64) (.pair (.int .i64) (.pair (.int .i64) (.pair (.int .i64) (.pair .str (.pair .str .unit)))))))) .unit))) (.pair .str .unit)))))) .f)], [(.bool, .o)], fun _ => true, fun x => ((), ((laws_FnExactNoteBytes x.1), ()))⟩
noncomputable def E : Env := ⟨theta, [(24, laws_szNote.fs), (26, laws_toNote.fs), (28, laws_eqNote.fs), (46, laws_eqByteS.fs), (48, laws_markByteS.fs), (49, laws_heldByteS.fs), (44, spec_NoteBytes.fs), (45, impl_NoteBytes.fs), (47, laws_markNote.fs)], []⟩
noncomputable def H : List LC := []
noncomputable def code (i : Nat) : Code := (loopsOf (bodyOf Try.f10)).getD i .skip
theorem run (x0 : Note) : runFn E H Try.f10 fs.ps fs.rs (x0, ()) = raw x0 := by kernel_rfl
theorem env : EnvOk Try.prog E := env_cons laws_szNote.known (env_cons laws_toNote.known (env_cons laws_eqNote.known (env_cons laws_eqByteS.known (env_cons laws_markByteS.known (env_cons laws_heldByteS.known (env_cons spec_NoteBytes.known (env_cons impl_NoteBytes.known (env_cons laws_markNote.known (env_nil tys)))))))))
theorem loops : ∀ c, Try.f10.body = some c → LoopsOk E H c := loops_none (by kernel_rfl)
theorem sound : Sound Try.prog 10 fs := fn_sound env mixed Try.func10 H loops fun ⟨x0, ()⟩ hw _ => (run x0).trans (eq x0 hw)
theorem known : Seen Try.prog 10 fs := ⟨sound, _, Try.func10, by kernel_rfl, by kernel_rfl⟩
end laws_FnExactNoteBytes
end Go.Aw.Pl
namespace Go.Proofs.Ytdgpjdedpkpfhaa.fnExactNoteBytes
open Go Go.Aw Go.Aw.Pl
theorem own : ownKnob Try.prog.godebug = none := by kernel_rfl
theorem laidOut : laidOutB Try.prog = true := by kernel_rfl
theorem lifted (os : Os) (started : os.Started) (H : Type) (enc : TypeId × Value → H) :
    ReturnsInHanded {} Try.checked os 10 .any (Rows.fnExactNoteBytesSpec.pre6 enc Try.prog Try.f10 Rows.fnExactNoteBytesRow.domain false) (Rows.fnExactNoteBytesSpec.post enc Try.prog Try.f10 false true false false) :=
  law_lifted (C := Try.checked) (Ts := [(.pair (.int .i64) (.pair (.int .i64) (.pair (.int .i64) (.pair (.int .i64) (.pair (.sl 122 (.pair (.int .i64) (.pair (.pair (.int .i64) (.pair (.int .i64) (.pair (.int .i64) (.pair (.int .i64) (.pair (.int .i64) (.pair (.int .i64) (.pair .str (.pair .str .unit)))))))) .unit))) (.pair .str .unit))))))]) (md := .o) (g := laws_FnExactNoteBytes.fs.fn) started own laidOut (by kernel_rfl) Try.func10 laws_FnExactNoteBytes.sound (fun _ _ => rfl) (by kernel_rfl) rfl Try.underlying4 rfl
    (fun _ ds h => match ds, h with
      | [_], _ => ⟨rfl, rfl, rfl⟩)
    (ChangeSpec.witness6 (enc := enc) (C := Try.checked) false ⟨#[], #[.agg #[.int .i64 0, .int .i64 0, .int .i64 0, .int .i64 0, .slice none 0 0, .string ByteArray.empty]], []⟩ 24 (by kernel_rfl) (by kernel_rfl) (by kernel_rfl) (by kernel_rfl))
theorem over : Rows.fnExactNoteBytesRow.holds Try.pinned (OpenSpec.ofChange Rows.fnExactNoteBytesSpec) :=
  OpenClaim.holds_of_wide 10 Try.f10 rfl rfl rfl rfl rfl rfl rfl ⟨rfl, rfl, rfl, rfl, rfl⟩ rfl rfl rfl rfl rfl (by kernel_rfl) Try.func10 (by kernel_rfl)
    (of_decide_eq_true (by kernel_rfl)) (by unfold Func.isWrapper; first | (rw [if_pos (by decide +kernel)]; kernel_rfl) | (rw [if_neg (by decide +kernel)]; exact ⟨rfl, rfl⟩))
    (fun os started H enc _ => lifted os started H enc)
theorem proved : Rows.FnExactNoteBytesSaid := over
end Go.Proofs.Ytdgpjdedpkpfhaa.fnExactNoteBytes
