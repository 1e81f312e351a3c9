/-
  These laws hold: FnExactHardOf: each answers true for every input, and nothing of its arguments is changed. Conditions: those of the given statements alone.
  Printed by a program of the proof's author: what each function does, by the plain machine (the texts Aw.. and Ax..), and the rows at the end.
-/
import Derived.Test.YtdlkgkkfpfglbaaGreatRows
import Derived.JoinedOf
import Derived.Test.YtdlkgkkfpfglbaaGreatPhc
namespace Go.Aw.Pl
open Go Go.Aw Go.Proofs
set_option linter.unusedVariables false
set_option maxRecDepth 20000
set_option maxHeartbeats 2000000
noncomputable section
noncomputable abbrev uu:ShS:=.one .undef
noncomputable abbrev ui:ShS:=.one (.dat (.int .i64))
noncomputable def un:Nat->List ShS->List ShS
  |0,l=>l
  |n+1,l=>uu::un n l
abbrev dX:Ty:=.pair (.int .i64) (.pair (.int .i64) (.pair (.int .i64) (.pair (.int .i64) (.pair (.sl 136 (.pair (.int .i64) (.pair (.int .i64) .unit))) .unit))))
abbrev cV:Ty:=.pair (.int .i64) (.pair (.sl 3 (.int .i64)) (.pair (.sl 3 (.int .i64)) (.pair (.sl 3 (.int .i64)) .unit)))
abbrev bS:Ty:=.pair (.sl 5 (.int .u8)) (.pair (.int .i64) (.pair .bool .unit))
abbrev gA:Ty:=.pair (.int .i64) (.pair (.int .i64) (.pair (.int .i64) (.pair (.int .i64) .unit)))
abbrev dK:Ty:=.pair (.int .i64) (.pair (.int .i64) (.pair .str (.pair .str .unit)))
abbrev jN:Ty:=.pair (.int .i64) (.pair (.pair (.int .i64) (.pair (.int .i64) (.pair (.int .i64) (.pair (.int .i64) dK)))) .unit)
abbrev iS:Ty:=.pair (.int .i64) (.pair (.int .i64) (.pair (.sl 122 jN) .unit))
abbrev lU:Ty:=.pair (.int .i64) (.pair (.int .i64) (.pair (.int .i64) (.pair (.int .i64) (.pair (.sl 122 jN) (.pair .str .unit)))))
abbrev pM:Ty:=.pair (.int .i64) (.pair .str (.pair .str (.pair (.int .i64) (.pair (.int .i64) .unit))))
abbrev dZ:Ty:=.pair (.int .i64) (.pair (.int .i64) (.pair (.sl 195 pM) .unit))
abbrev bU:Ty:=.pair (.sl 130 dZ) (.pair (.sl 134 dX) (.pair (.sl 95 cV) (.pair (.int .i64) (.pair (.sl 3 (.int .i64)) (.pair (.sl 138 dK) .unit)))))
abbrev iI:Ty:=.pair (.int .i64) (.pair (.int .i64) (.pair iS (.pair bU .unit)))
noncomputable def aX:List (TypeId×Ty):=[(1,.op),
  (2,(.int .i64)),
  (3,(.int .i64)),
  (4,.bool),
  (5,(.int .u8)),
  (6,(.int .u8)),
  (7,(.pair (.int .i64) (.pair (.int .i64) (.pair .bool (.pair (.int .u8) .unit))))),
  (8,(.pair (.int .i64) (.pair (.int .i64) (.pair .bool (.pair (.int .u8) .unit))))),
  (9,.str),
  (10,.str),
  (11,.str),
  (12,(.int .u64)),
  (15,.op),
  (16,.op),
  (17,.op),
  (21,(.int .i32)),
  (22,gA),
  (23,gA),
  (24,(.sl 5 (.int .u8))),
  (25,(.sl 122 jN)),
  (26,iS),
  (27,iS),
  (28,(.sl 130 dZ)),
  (29,(.sl 134 dX)),
  (30,(.sl 95 cV)),
  (31,(.sl 3 (.int .i64))),
  (32,(.sl 138 dK)),
  (33,bU),
  (34,bU),
  (35,iI),
  (36,iI),
  (37,.op),
  (38,gA),
  (39,.op),
  (40,.op),
  (41,.op),
  (42,.op),
  (43,.op),
  (44,.op),
  (45,.op),
  (46,.op),
  (48,.op),
  (49,.op),
  (50,.op),
  (51,lU),
  (52,lU),
  (54,.op),
  (55,.op),
  (57,.op),
  (58,.op),
  (59,.op),
  (60,.op),
  (61,.op),
  (62,.op),
  (63,(.sl 52 lU)),
  (65,.op),
  (66,.op),
  (67,.op),
  (68,.op),
  (69,.op),
  (70,.op),
  (71,.op),
  (72,.op),
  (73,.op),
  (74,.op),
  (75,.op),
  (77,.op),
  (78,.op),
  (79,.op),
  (80,.op),
  (81,.op),
  (82,.op),
  (83,.op),
  (84,.op),
  (86,.op),
  (88,.op),
  (89,.op),
  (90,.op),
  (91,.op),
  (92,.op),
  (93,.op),
  (94,cV),
  (95,cV),
  (96,.op),
  (98,.op),
  (99,.op),
  (100,.op),
  (101,.op),
  (102,.op),
  (103,.op),
  (104,.op),
  (105,.op),
  (106,.op),
  (107,.op),
  (108,.op),
  (109,.op),
  (110,.op),
  (111,.op),
  (112,.op),
  (113,.op),
  (115,.op),
  (116,(.pair (.sl 5 (.int .u8)) (.pair (.int .i64) (.pair (.int .i64) .unit)))),
  (117,(.pair (.sl 5 (.int .u8)) (.pair (.int .i64) (.pair (.int .i64) .unit)))),
  (118,.op),
  (119,(.pair (.int .i64) (.pair (.int .i64) (.pair (.int .i64) (.pair (.int .i64) dK))))),
  (120,(.pair (.int .i64) (.pair (.int .i64) (.pair (.int .i64) (.pair (.int .i64) dK))))),
  (121,jN),
  (122,jN),
  (123,.op),
  (124,.op),
  (125,.op),
  (126,.op),
  (127,(.int .u64)),
  (128,(.sl 195 pM)),
  (129,dZ),
  (130,dZ),
  (131,.op),
  (132,(.sl 136 (.pair (.int .i64) (.pair (.int .i64) .unit)))),
  (133,dX),
  (134,dX),
  (135,(.pair (.int .i64) (.pair (.int .i64) .unit))),
  (136,(.pair (.int .i64) (.pair (.int .i64) .unit))),
  (137,dK),
  (138,dK),
  (139,.op),
  (140,.op),
  (141,.op),
  (142,.op),
  (143,.op),
  (144,.op),
  (145,.op),
  (146,.op),
  (147,.op),
  (148,.op),
  (149,.op),
  (150,.op),
  (151,.op),
  (152,.op),
  (153,.op),
  (154,.op),
  (155,.op),
  (156,.op),
  (157,.op),
  (158,.op),
  (159,bS),
  (160,bS),
  (161,.op),
  (162,.op),
  (163,.op),
  (164,.op),
  (165,.op),
  (166,.op),
  (167,(.sl 120 (.pair (.int .i64) (.pair (.int .i64) (.pair (.int .i64) (.pair (.int .i64) dK)))))),
  (168,.op),
  (169,.op),
  (170,.op),
  (171,.op),
  (172,.op),
  (174,.op),
  (175,.op),
  (176,bS),
  (177,bS),
  (178,.op),
  (180,.op),
  (181,.op),
  (182,.op),
  (183,.op),
  (184,.op),
  (185,.op),
  (186,.op),
  (187,.op),
  (188,.op),
  (190,.op),
  (191,.op),
  (192,(.sl 24 (.sl 5 (.int .u8)))),
  (193,.op),
  (194,pM),
  (195,pM),
  (196,.op),
  (197,.op),
  (198,.op),
  (199,.op),
  (200,.op),
  (201,.op),
  (202,.op),
  (203,.op),
  (204,.op),
  (205,.op),
  (206,(.sl 9 .str)),
  (207,.op),
  (208,.op),
  (209,.op),
  (210,.op),
  (211,.op),
  (213,.op),
  (215,.op),
  (216,.op),
  (217,.op),
  (218,.op),
  (219,.op),
  (220,.op),
  (221,.op),
  (222,.op),
  (223,.op),
  (224,.op),
  (226,.op),
  (227,.op),
  (228,.op),
  (230,.op),
  (231,.op),
  (232,.op),
  (233,.op),
  (234,.op),
  (235,.op),
  (236,.op),
  (237,.op),
  (238,.op),
  (239,.op),
  (241,.op),
  (242,.op),
  (243,.op),
  (244,.op),
  (245,.op),
  (246,.op),
  (247,.op),
  (249,.op),
  (250,.op),
  (251,.op),
  (257,(.int .u32)),
  (258,(.int .u8)),
  (259,(.int .u8)),
  (260,.op),
  (261,.op),
  (262,(.int .i32)),
  (263,(.int .i32))]
theorem gO:∀t T,find aX t=some T->pQ Tryz.prog T (.t t)=true:=aND (by kernel_rfl)
theorem aZ:Tryz.prog.follows .mixedOrders=true:=by kernel_rfl
namespace mC
noncomputable def fs:FS:=⟨[(.val gA .f)],[(gA,.o)],fun _=>true,fun x=>((),((mC x.1),()))⟩
noncomputable def E:eI:=⟨aX,[],[]⟩
noncomputable def H:List LC:=[]
theorem bZ:aS Tryz.prog E:=aI gO
theorem loops:∀c,Tryz.f6.body=some c->aH E H c:=aO (by kernel_rfl)
theorem aPy:bA Tryz.prog 6 fs:=aF bZ aZ Tryz.func6 H loops fun⟨x0,()⟩ hw _=>(show bB E H Tryz.f6 fs.ps fs.rs (x0,())=aR x0 from by kernel_rfl).trans (eq x0 hw)
theorem aPz:cE Tryz.prog 6 fs:=⟨aPy,_,Tryz.func6,by kernel_rfl,by kernel_rfl⟩
end mC
namespace eJ
noncomputable def fs:FS:=⟨[(.val (.sl 5 (.int .u8)) .f)],[((.sl 5 (.int .u8)),.o)],fun x=>eJ.pre x.1,fun x=>((),((eJ x.1),()))⟩
noncomputable def E:eI:=⟨aX,[],[]⟩
noncomputable def sh3:fG:=⟨((.one (.dat (.sl 5 (.int .u8))))::uu::uu::(.one (.arr 20000000))::ui::un 17 []),[(20000000,(.arr 5 (.int .u8)))]⟩
noncomputable def sX:List fQ:=[⟨(.exit 0),⟨0,[3],[],[]⟩,⟨(uu::uu::uu::(.one (.arr 20000000))::un 18 []),[(20000000,(.arr 5 (.int .u8)))]⟩⟩]
noncomputable def L3:LC:=⟨3,⟨3,[0,3,4],[],[]⟩,sh3,sX,pre3,fn3⟩
noncomputable def H:List LC:=[L3]
noncomputable def code(i:Nat):Code:=(bF (cA Tryz.f7)).getD i .skip
theorem zR:bM E H (code 0) L3:=⟨mu3,fun⟨x1,x2,x3,()⟩ hp=>aU (show L3.step E H (code 0) (x1,(x2,(x3,())))=pK x1 x2 x3 from by kernel_rfl) (ok3 x1 x2 x3 hp)⟩
theorem bZ:aS Tryz.prog E:=aI gO
theorem loops:∀c,Tryz.f7.body=some c->aH E H c:=bC (by kernel_rfl) (by kernel_rfl) fun i l h=>match i,h with
  |0,h=>Option.some.inj h▸zR
  |n+1,h=>by cases h
theorem aPy:bA Tryz.prog 7 fs:=aF bZ aZ Tryz.func7 H loops fun⟨x0,()⟩ hw hp=>(show bB E H Tryz.f7 fs.ps fs.rs (x0,())=aR x0 from by kernel_rfl).trans (eq x0 hw hp)
theorem aPz:cE Tryz.prog 7 fs:=⟨aPy,_,Tryz.func7,by kernel_rfl,by kernel_rfl⟩
end eJ
namespace dW
noncomputable def fs:FS:=⟨[(.val (.int .i64) .f),(.val (.int .i64) .f),(.val (.int .i64) .f)],[(.bool,.o)],fun _=>true,fun x=>((),((dW x.1 x.2.1 x.2.2.1),()))⟩
noncomputable def E:eI:=⟨aX,[],[]⟩
noncomputable def H:List LC:=[]
theorem bZ:aS Tryz.prog E:=aI gO
theorem loops:∀c,Tryz.f49.body=some c->aH E H c:=aO (by kernel_rfl)
theorem aPy:bA Tryz.prog 49 fs:=aF bZ aZ Tryz.func49 H loops fun⟨x0,x1,x2,()⟩ hw _=>(show bB E H Tryz.f49 fs.ps fs.rs (x0,(x1,(x2,())))=aR x0 x1 x2 from by kernel_rfl).trans (eq x0 x1 x2 hw)
theorem aPz:cE Tryz.prog 49 fs:=⟨aPy,_,Tryz.func49,by kernel_rfl,by kernel_rfl⟩
end dW
namespace iG
noncomputable def fs:FS:=⟨[(.val gA .f)],[(.bool,.o)],fun _=>true,fun x=>((),((iG x.1),()))⟩
noncomputable def E:eI:=⟨aX,[(49,dW.fs)],[]⟩
noncomputable def H:List LC:=[]
theorem bZ:aS Tryz.prog E:=aD dW.aPz (aI gO)
theorem loops:∀c,Tryz.f68.body=some c->aH E H c:=aO (by kernel_rfl)
theorem aPy:bA Tryz.prog 68 fs:=aF bZ aZ Tryz.func68 H loops fun⟨x0,()⟩ hw _=>(show bB E H Tryz.f68 fs.ps fs.rs (x0,())=aR x0 from by kernel_rfl).trans (eq x0 hw)
theorem aPz:cE Tryz.prog 68 fs:=⟨aPy,_,Tryz.func68,by kernel_rfl,by kernel_rfl⟩
end iG
namespace jK
noncomputable def fs:FS:=⟨[(.val (.int .i64) .f)],[(cV,.o)],fun x=>jK.pre x.1,fun x=>((),((jK x.1),()))⟩
noncomputable def E:eI:=⟨aX,[(49,dW.fs)],[]⟩
noncomputable def H:List LC:=[]
theorem bZ:aS Tryz.prog E:=aD dW.aPz (aI gO)
theorem loops:∀c,Tryz.f148.body=some c->aH E H c:=aO (by kernel_rfl)
theorem aPy:bA Tryz.prog 148 fs:=aF bZ aZ Tryz.func148 H loops fun⟨x0,()⟩ hw hp=>(show bB E H Tryz.f148 fs.ps fs.rs (x0,())=aR x0 from by kernel_rfl).trans (eq x0 hw hp)
theorem aPz:cE Tryz.prog 148 fs:=⟨aPy,_,Tryz.func148,by kernel_rfl,by kernel_rfl⟩
end jK
namespace jB
noncomputable def fs:FS:=⟨[(.val gA .f)],[(bU,.o)],fun x=>jB.pre x.1,fun x=>((),((jB x.1),()))⟩
noncomputable def E:eI:=⟨aX,[(68,iG.fs),(148,jK.fs)],[]⟩
noncomputable def sh5:fG:=⟨(uu::(.one (.bptr 0 [] gA))::(.one (.bptr 32 [] bU))::(.one (.bptr 24768 [] bU))::ui::un 23 []),[(0,(.box gA (.dat gA))),(32,(.box bU (.pair (.arr 20000000) (.pair (.arr 20000001) (.pair (.arr 20000002) (.pair (.dat (.int .i64)) (.pair (.arr 20000003) (.pair (.arr 20000004) (.dat .unit))))))))),(20000000,(.arr 130 dZ)),(20000001,(.arr 134 dX)),(20000002,(.arr 95 cV)),(20000003,(.arr 3 (.int .i64))),(20000004,(.arr 138 dK)),(24768,(.box bU (.pair (.arr 20000005) (.pair (.arr 20000006) (.pair (.arr 20000007) (.pair (.dat (.int .i64)) (.pair (.arr 20000008) (.pair (.arr 20000009) (.dat .unit))))))))),(20000005,(.arr 130 dZ)),(20000006,(.arr 134 dX)),(20000007,(.arr 95 cV)),(20000008,(.arr 3 (.int .i64))),(20000009,(.arr 138 dK))]⟩
noncomputable def zG:List fQ:=[⟨(.exit 0),⟨0,[2,3],[],[]⟩,⟨(uu::uu::(.one (.bptr 32 [] bU))::(.one (.bptr 24768 [] bU))::un 24 []),[(32,(.box bU (.pair (.arr 20000000) (.pair (.arr 20000001) (.pair (.arr 20000002) (.pair (.dat (.int .i64)) (.pair (.arr 20000003) (.pair (.arr 20000004) (.dat .unit))))))))),(20000000,(.arr 130 dZ)),(20000001,(.arr 134 dX)),(20000002,(.arr 95 cV)),(20000003,(.arr 3 (.int .i64))),(20000004,(.arr 138 dK)),(24768,(.box bU (.pair (.arr 20000005) (.pair (.arr 20000006) (.pair (.arr 20000007) (.pair (.dat (.int .i64)) (.pair (.arr 20000008) (.pair (.arr 20000009) (.dat .unit))))))))),(20000005,(.arr 130 dZ)),(20000006,(.arr 134 dX)),(20000007,(.arr 95 cV)),(20000008,(.arr 3 (.int .i64))),(20000009,(.arr 138 dK))]⟩⟩]
noncomputable def L5:LC:=⟨5,⟨5,[1,2,3,4],[],[]⟩,sh5,zG,pre5,fn5⟩
noncomputable def H:List LC:=[L5]
noncomputable def code(i:Nat):Code:=(bF (cA Tryz.f69)).getD i .skip
theorem aCL:bM E H (code 0) L5:=⟨mu5,fun⟨x1,x2,x3,x4,x5,x6,x7,x8,x9,x10,x11,x12,x13,x14,x15,x16,()⟩ hp=>aU (show L5.step E H (code 0) (x1,(x2,(x3,(x4,(x5,(x6,(x7,(x8,(x9,(x10,(x11,(x12,(x13,(x14,(x15,(x16,()))))))))))))))))=tX x1 x2 x3 x4 x5 x6 x7 x8 x9 x10 x11 x12 x13 x14 x15 x16 from by kernel_rfl) (ok5 x1 x2 x3 x4 x5 x6 x7 x8 x9 x10 x11 x12 x13 x14 x15 x16 hp)⟩
theorem bZ:aS Tryz.prog E:=aD iG.aPz (aD jK.aPz (aI gO))
theorem loops:∀c,Tryz.f69.body=some c->aH E H c:=bC (by kernel_rfl) (by kernel_rfl) fun i l h=>match i,h with
  |0,h=>Option.some.inj h▸aCL
  |n+1,h=>by cases h
theorem aPy:bA Tryz.prog 69 fs:=aF bZ aZ Tryz.func69 H loops fun⟨x0,()⟩ hw hp=>(show bB E H Tryz.f69 fs.ps fs.rs (x0,())=aR x0 from by kernel_rfl).trans (eq x0 hw hp)
theorem aPz:cE Tryz.prog 69 fs:=⟨aPy,_,Tryz.func69,by kernel_rfl,by kernel_rfl⟩
end jB
namespace kI
noncomputable def fs:FS:=⟨[(.val gA .f)],[(iI,.o)],fun x=>kI.pre x.1,fun x=>((),((kI x.1),()))⟩
noncomputable def E:eI:=⟨aX,[(68,iG.fs),(69,jB.fs)],[]⟩
noncomputable def H:List LC:=[]
theorem bZ:aS Tryz.prog E:=aD iG.aPz (aD jB.aPz (aI gO))
theorem loops:∀c,Tryz.f27.body=some c->aH E H c:=aO (by kernel_rfl)
theorem aPy:bA Tryz.prog 27 fs:=aF bZ aZ Tryz.func27 H loops fun⟨x0,()⟩ hw hp=>(show bB E H Tryz.f27 fs.ps fs.rs (x0,())=aR x0 from by kernel_rfl).trans (eq x0 hw hp)
theorem aPz:cE Tryz.prog 27 fs:=⟨aPy,_,Tryz.func27,by kernel_rfl,by kernel_rfl⟩
end kI
namespace gC
noncomputable def fs:FS:=⟨[(.val (.sl 5 (.int .u8)) .f),(.val (.int .i64) .f)],[((.int .i64),.o),((.int .i64),.o),(.bool,.o)],fun _=>true,fun x=>((),((gC x.1 x.2.1).1,((gC x.1 x.2.1).2.1,((gC x.1 x.2.1).2.2,()))))⟩
noncomputable def E:eI:=⟨aX,[],[]⟩
noncomputable def sh3:fG:=⟨((.one (.dat (.sl 5 (.int .u8))))::ui::un 5 (ui::ui::un 46 [])),[]⟩
noncomputable def sX:List fQ:=[⟨.ret,⟨0,[4,5,6],[],[]⟩,⟨(un 4 (ui::ui::(.one (.dat .bool))::un 48 [])),[]⟩⟩,⟨(.exit 0),⟨0,[],[],[]⟩,⟨(un 55 []),[]⟩⟩]
noncomputable def L3:LC:=⟨3,⟨3,[0,1,7,8],[],[]⟩,sh3,sX,pre3,fn3⟩
noncomputable def H:List LC:=[L3]
noncomputable def code(i:Nat):Code:=(bF (cA Tryz.f153)).getD i .skip
theorem zR:bM E H (code 0) L3:=⟨mu3,fun⟨x1,x2,x3,x4,()⟩ hp=>aU (show L3.step E H (code 0) (x1,(x2,(x3,(x4,()))))=pK x1 x2 x3 x4 from by kernel_rfl) (ok3 x1 x2 x3 x4 hp)⟩
theorem bZ:aS Tryz.prog E:=aI gO
theorem loops:∀c,Tryz.f153.body=some c->aH E H c:=bC (by kernel_rfl) (by kernel_rfl) fun i l h=>match i,h with
  |0,h=>Option.some.inj h▸zR
  |n+1,h=>by cases h
theorem aPy:bA Tryz.prog 153 fs:=aF bZ aZ Tryz.func153 H loops fun⟨x0,x1,()⟩ hw _=>(show bB E H Tryz.f153 fs.ps fs.rs (x0,(x1,()))=aR x0 x1 from by kernel_rfl).trans (eq x0 x1 hw)
theorem aPz:cE Tryz.prog 153 fs:=⟨aPy,_,Tryz.func153,by kernel_rfl,by kernel_rfl⟩
end gC
namespace oA
noncomputable def fs:FS:=⟨[(.val (.sl 5 (.int .u8)) .f)],[((.int .i64),.o)],fun _=>true,fun x=>((),((oA x.1),()))⟩
noncomputable def E:eI:=⟨aX,[],[]⟩
noncomputable def sh3:fG:=⟨((.one (.dat (.sl 5 (.int .u8))))::uu::uu::ui::ui::ui::un 22 []),[]⟩
noncomputable def sX:List fQ:=[⟨(.exit 0),⟨0,[3,4],[],[]⟩,⟨(uu::uu::uu::ui::ui::un 23 []),[]⟩⟩]
noncomputable def L3:LC:=⟨3,⟨3,[0,3,4,5],[],[]⟩,sh3,sX,pre3,fn3⟩
noncomputable def H:List LC:=[L3]
noncomputable def code(i:Nat):Code:=(bF (cA Tryz.f208)).getD i .skip
theorem zR:bM E H (code 0) L3:=⟨mu3,fun⟨x1,x2,x3,x4,()⟩ hp=>aU (show L3.step E H (code 0) (x1,(x2,(x3,(x4,()))))=pK x1 x2 x3 x4 from by kernel_rfl) (ok3 x1 x2 x3 x4 hp)⟩
theorem bZ:aS Tryz.prog E:=aI gO
theorem loops:∀c,Tryz.f208.body=some c->aH E H c:=bC (by kernel_rfl) (by kernel_rfl) fun i l h=>match i,h with
  |0,h=>Option.some.inj h▸zR
  |n+1,h=>by cases h
theorem aPy:bA Tryz.prog 208 fs:=aF bZ aZ Tryz.func208 H loops fun⟨x0,()⟩ hw _=>(show bB E H Tryz.f208 fs.ps fs.rs (x0,())=aR x0 from by kernel_rfl).trans (eq x0 hw)
theorem aPz:cE Tryz.prog 208 fs:=⟨aPy,_,Tryz.func208,by kernel_rfl,by kernel_rfl⟩
end oA
namespace oQ
noncomputable def fs:FS:=⟨[(.val (.sl 5 (.int .u8)) .f)],[((.sl 5 (.int .u8)),.o)],fun _=>true,fun x=>((),((oQ x.1),()))⟩
noncomputable def E:eI:=⟨aX,[(208,oA.fs)],[]⟩
noncomputable def H:List LC:=[]
theorem bZ:aS Tryz.prog E:=aD oA.aPz (aI gO)
theorem loops:∀c,Tryz.f154.body=some c->aH E H c:=aO (by kernel_rfl)
theorem aPy:bA Tryz.prog 154 fs:=aF bZ aZ Tryz.func154 H loops fun⟨x0,()⟩ hw _=>(show bB E H Tryz.f154 fs.ps fs.rs (x0,())=aR x0 from by kernel_rfl).trans (eq x0 hw)
theorem aPz:cE Tryz.prog 154 fs:=⟨aPy,_,Tryz.func154,by kernel_rfl,by kernel_rfl⟩
end oQ
namespace aA
noncomputable def fs:FS:=⟨[(.ref bS .f)],[((.int .i64),.o)],fun _=>true,fun x=>(((aA x.1).1,()),((aA x.1).2,()))⟩
noncomputable def E:eI:=⟨aX,[(153,gC.fs)],[]⟩
noncomputable def H:List LC:=[]
theorem bZ:aS Tryz.prog E:=aD gC.aPz (aI gO)
theorem loops:∀c,Tryz.f209.body=some c->aH E H c:=aO (by kernel_rfl)
theorem aPy:bA Tryz.prog 209 fs:=aF bZ aZ Tryz.func209 H loops fun⟨x0,()⟩ hw _=>(show bB E H Tryz.f209 fs.ps fs.rs (x0,())=aR x0 from by kernel_rfl).trans (eq x0 hw)
theorem aPz:cE Tryz.prog 209 fs:=⟨aPy,_,Tryz.func209,by kernel_rfl,by kernel_rfl⟩
end aA
namespace iE
noncomputable def fs:FS:=⟨[(.val (.sl 5 (.int .u8)) .f),(.val (.int .i64) .f)],[(.str,.o),((.int .i64),.o),(.bool,.o)],fun _=>true,fun x=>((),((iE x.1 x.2.1).1,((iE x.1 x.2.1).2.1,((iE x.1 x.2.1).2.2,()))))⟩
noncomputable def E:eI:=⟨aX,[(153,gC.fs)],[]⟩
noncomputable def H:List LC:=[]
theorem bZ:aS Tryz.prog E:=aD gC.aPz (aI gO)
theorem loops:∀c,Tryz.f229.body=some c->aH E H c:=aO (by kernel_rfl)
theorem aPy:bA Tryz.prog 229 fs:=aF bZ aZ Tryz.func229 H loops fun⟨x0,x1,()⟩ hw _=>(show bB E H Tryz.f229 fs.ps fs.rs (x0,(x1,()))=aR x0 x1 from by kernel_rfl).trans (eq x0 x1 hw)
theorem aPz:cE Tryz.prog 229 fs:=⟨aPy,_,Tryz.func229,by kernel_rfl,by kernel_rfl⟩
end iE
namespace aP
noncomputable def fs:FS:=⟨[(.ref bS .f)],[(.str,.o)],fun _=>true,fun x=>(((aP x.1).1,()),((aP x.1).2,()))⟩
noncomputable def E:eI:=⟨aX,[(229,iE.fs)],[]⟩
noncomputable def H:List LC:=[]
theorem bZ:aS Tryz.prog E:=aD iE.aPz (aI gO)
theorem loops:∀c,Tryz.f211.body=some c->aH E H c:=aO (by kernel_rfl)
theorem aPy:bA Tryz.prog 211 fs:=aF bZ aZ Tryz.func211 H loops fun⟨x0,()⟩ hw _=>(show bB E H Tryz.f211 fs.ps fs.rs (x0,())=aR x0 from by kernel_rfl).trans (eq x0 hw)
theorem aPz:cE Tryz.prog 211 fs:=⟨aPy,_,Tryz.func211,by kernel_rfl,by kernel_rfl⟩
end aP
namespace bL
noncomputable def fs:FS:=⟨[(.ref bS .f)],[((.pair (.int .i64) (.pair (.int .i64) (.pair (.int .i64) (.pair (.int .i64) dK)))),.o)],fun _=>true,fun x=>(((bL x.1).1,()),((bL x.1).2,()))⟩
noncomputable def E:eI:=⟨aX,[(209,aA.fs),(211,aP.fs)],[]⟩
noncomputable def H:List LC:=[]
theorem bZ:aS Tryz.prog E:=aD aA.aPz (aD aP.aPz (aI gO))
theorem loops:∀c,Tryz.f210.body=some c->aH E H c:=aO (by kernel_rfl)
theorem aPy:bA Tryz.prog 210 fs:=aF bZ aZ Tryz.func210 H loops fun⟨x0,()⟩ hw _=>(show bB E H Tryz.f210 fs.ps fs.rs (x0,())=aR x0 from by kernel_rfl).trans (eq x0 hw)
theorem aPz:cE Tryz.prog 210 fs:=⟨aPy,_,Tryz.func210,by kernel_rfl,by kernel_rfl⟩
end bL
namespace cZ
noncomputable def lQ:List (Nat×uN):=[(10000000,(.box bS (.dat bS))),(0,(.box lU (.pair (.dat (.int .i64)) (.pair (.dat (.int .i64)) (.pair (.dat (.int .i64)) (.pair (.dat (.int .i64)) (.pair (.arr 20000000) (.dat (.pair .str .unit))))))))),(20000000,(.arr 122 jN)),(8224,(.box lU (.pair (.dat (.int .i64)) (.pair (.dat (.int .i64)) (.pair (.dat (.int .i64)) (.pair (.dat (.int .i64)) (.pair (.arr 20000001) (.dat (.pair .str .unit))))))))),(20000001,(.arr 122 jN))]
noncomputable def fs:FS:=⟨[(.ref bS .f)],[(lU,.o)],fun x=>cZ.pre x.1,fun x=>(((cZ x.1).1,()),((cZ x.1).2,()))⟩
noncomputable def E:eI:=⟨aX,[(209,aA.fs),(211,aP.fs),(210,bL.fs)],[]⟩
noncomputable def sh8:fG:=⟨((.one (.bptr 10000000 [] bS))::uu::(.one (.bptr 0 [] lU))::(.one (.bptr 8224 [] lU))::ui::ui::un 45 []),lQ⟩
noncomputable def aLR:List fQ:=[⟨(.exit 0),⟨0,[0,2,3],[],[]⟩,⟨((.one (.bptr 10000000 [] bS))::uu::(.one (.bptr 0 [] lU))::(.one (.bptr 8224 [] lU))::un 47 []),lQ⟩⟩]
noncomputable def L8:LC:=⟨8,⟨8,[0,2,3,4,5],[],[]⟩,sh8,aLR,pre8,fn8⟩
noncomputable def H:List LC:=[L8]
noncomputable def code(i:Nat):Code:=(bF (cA Tryz.f155)).getD i .skip
theorem aNS:bM E H (code 0) L8:=⟨mu8,fun⟨x1,x2,x3,x4,x5,x6,x7,x8,x9,x10,x11,x12,x13,x14,x15,()⟩ hp=>aU (show L8.step E H (code 0) (x1,(x2,(x3,(x4,(x5,(x6,(x7,(x8,(x9,(x10,(x11,(x12,(x13,(x14,(x15,())))))))))))))))=aJ4 x1 x2 x3 x4 x5 x6 x7 x8 x9 x10 x11 x12 x13 x14 x15 from by kernel_rfl) (ok8 x1 x2 x3 x4 x5 x6 x7 x8 x9 x10 x11 x12 x13 x14 x15 hp)⟩
theorem bZ:aS Tryz.prog E:=aD aA.aPz (aD aP.aPz (aD bL.aPz (aI gO)))
theorem loops:∀c,Tryz.f155.body=some c->aH E H c:=bC (by kernel_rfl) (by kernel_rfl) fun i l h=>match i,h with
  |0,h=>Option.some.inj h▸aNS
  |n+1,h=>by cases h
theorem aPy:bA Tryz.prog 155 fs:=aF bZ aZ Tryz.func155 H loops fun⟨x0,()⟩ hw hp=>(show bB E H Tryz.f155 fs.ps fs.rs (x0,())=aR x0 from by kernel_rfl).trans (eq x0 hw hp)
theorem aPz:cE Tryz.prog 155 fs:=⟨aPy,_,Tryz.func155,by kernel_rfl,by kernel_rfl⟩
end cZ
namespace jH
noncomputable def fs:FS:=⟨[(.val .str .f)],[(.bool,.o)],fun _=>true,fun x=>((),((jH x.1),()))⟩
noncomputable def E:eI:=⟨aX,[],[]⟩
noncomputable def qI:fG:=⟨((.one (.dat .str))::uu::uu::ui::un 32 []),[]⟩
noncomputable def eR:List fQ:=[⟨.ret,⟨0,[2],[],[]⟩,⟨(uu::uu::(.one (.dat .bool))::un 33 []),[]⟩⟩,⟨(.exit 0),⟨0,[0],[],[]⟩,⟨((.one (.dat .str))::un 35 []),[]⟩⟩]
noncomputable def L2:LC:=⟨2,⟨2,[0,3],[],[]⟩,qI,eR,pre2,fn2⟩
noncomputable def H:List LC:=[L2]
noncomputable def code(i:Nat):Code:=(bF (cA Tryz.f187)).getD i .skip
theorem jG:bM E H (code 0) L2:=⟨kY,fun⟨x1,x2,()⟩ hp=>aU (show L2.step E H (code 0) (x1,(x2,()))=cW x1 x2 from by kernel_rfl) (qO x1 x2 hp)⟩
theorem bZ:aS Tryz.prog E:=aI gO
theorem loops:∀c,Tryz.f187.body=some c->aH E H c:=bC (by kernel_rfl) (by kernel_rfl) fun i l h=>match i,h with
  |0,h=>Option.some.inj h▸jG
  |n+1,h=>by cases h
theorem aPy:bA Tryz.prog 187 fs:=aF bZ aZ Tryz.func187 H loops fun⟨x0,()⟩ hw _=>(show bB E H Tryz.f187 fs.ps fs.rs (x0,())=aR x0 from by kernel_rfl).trans (eq x0 hw)
theorem aPz:cE Tryz.prog 187 fs:=⟨aPy,_,Tryz.func187,by kernel_rfl,by kernel_rfl⟩
end jH
namespace nQ
noncomputable def fs:FS:=⟨[(.val (.pair (.int .i64) (.pair (.int .i64) (.pair (.int .i64) (.pair (.int .i64) dK)))) .f)],[(.bool,.o)],fun _=>true,fun x=>((),((nQ x.1),()))⟩
noncomputable def E:eI:=⟨aX,[(49,dW.fs),(187,jH.fs)],[]⟩
noncomputable def H:List LC:=[]
theorem bZ:aS Tryz.prog E:=aD dW.aPz (aD jH.aPz (aI gO))
theorem loops:∀c,Tryz.f117.body=some c->aH E H c:=aO (by kernel_rfl)
theorem aPy:bA Tryz.prog 117 fs:=aF bZ aZ Tryz.func117 H loops fun⟨x0,()⟩ hw _=>(show bB E H Tryz.f117 fs.ps fs.rs (x0,())=aR x0 from by kernel_rfl).trans (eq x0 hw)
theorem aPz:cE Tryz.prog 117 fs:=⟨aPy,_,Tryz.func117,by kernel_rfl,by kernel_rfl⟩
end nQ
namespace gU
noncomputable def fs:FS:=⟨[(.val (.sl 122 jN) .f),(.val (.int .i64) .f)],[(.bool,.o)],fun _=>true,fun x=>((),((gU x.1 x.2.1),()))⟩
noncomputable def E:eI:=⟨aX,[(49,dW.fs),(117,nQ.fs)],[]⟩
noncomputable def qI:fG:=⟨((.one (.dat (.sl 122 jN)))::ui::uu::uu::uu::ui::un 26 []),[]⟩
noncomputable def eR:List fQ:=[⟨.ret,⟨0,[4],[],[]⟩,⟨(un 4 ((.one (.dat .bool))::un 27 [])),[]⟩⟩,⟨(.exit 0),⟨0,[0],[],[]⟩,⟨((.one (.dat (.sl 122 jN)))::un 31 []),[]⟩⟩]
noncomputable def L2:LC:=⟨2,⟨2,[0,1,5],[],[]⟩,qI,eR,pre2,fn2⟩
noncomputable def H:List LC:=[L2]
noncomputable def code(i:Nat):Code:=(bF (cA Tryz.f141)).getD i .skip
theorem jG:bM E H (code 0) L2:=⟨kY,fun⟨x1,x2,x3,()⟩ hp=>aU (show L2.step E H (code 0) (x1,(x2,(x3,())))=cW x1 x2 x3 from by kernel_rfl) (qO x1 x2 x3 hp)⟩
theorem bZ:aS Tryz.prog E:=aD dW.aPz (aD nQ.aPz (aI gO))
theorem loops:∀c,Tryz.f141.body=some c->aH E H c:=bC (by kernel_rfl) (by kernel_rfl) fun i l h=>match i,h with
  |0,h=>Option.some.inj h▸jG
  |n+1,h=>by cases h
theorem aPy:bA Tryz.prog 141 fs:=aF bZ aZ Tryz.func141 H loops fun⟨x0,x1,()⟩ hw _=>(show bB E H Tryz.f141 fs.ps fs.rs (x0,(x1,()))=aR x0 x1 from by kernel_rfl).trans (eq x0 x1 hw)
theorem aPz:cE Tryz.prog 141 fs:=⟨aPy,_,Tryz.func141,by kernel_rfl,by kernel_rfl⟩
end gU
namespace mM
noncomputable def fs:FS:=⟨[(.val lU .f)],[(.bool,.o)],fun _=>true,fun x=>((),((mM x.1),()))⟩
noncomputable def E:eI:=⟨aX,[(49,dW.fs),(141,gU.fs)],[]⟩
noncomputable def H:List LC:=[]
theorem bZ:aS Tryz.prog E:=aD dW.aPz (aD gU.aPz (aI gO))
theorem loops:∀c,Tryz.f64.body=some c->aH E H c:=aO (by kernel_rfl)
theorem aPy:bA Tryz.prog 64 fs:=aF bZ aZ Tryz.func64 H loops fun⟨x0,()⟩ hw _=>(show bB E H Tryz.f64 fs.ps fs.rs (x0,())=aR x0 from by kernel_rfl).trans (eq x0 hw)
theorem aPz:cE Tryz.prog 64 fs:=⟨aPy,_,Tryz.func64,by kernel_rfl,by kernel_rfl⟩
end mM
namespace bG
noncomputable def fs:FS:=⟨[(.val (.sl 5 (.int .u8)) .f),(.val (.int .i64) .f)],[(lU,.o),((.int .i64),.o),(.bool,.o)],fun x=>bG.pre x.1 x.2.1,fun x=>((),((bG x.1 x.2.1).1,((bG x.1 x.2.1).2.1,((bG x.1 x.2.1).2.2,()))))⟩
noncomputable def E:eI:=⟨aX,[(153,gC.fs),(154,oQ.fs),(155,cZ.fs),(64,mM.fs)],[]⟩
noncomputable def H:List LC:=[]
theorem bZ:aS Tryz.prog E:=aD gC.aPz (aD oQ.aPz (aD cZ.aPz (aD mM.aPz (aI gO))))
theorem loops:∀c,Tryz.f72.body=some c->aH E H c:=aO (by kernel_rfl)
theorem aPy:bA Tryz.prog 72 fs:=aF bZ aZ Tryz.func72 H loops fun⟨x0,x1,()⟩ hw hp=>(show bB E H Tryz.f72 fs.ps fs.rs (x0,(x1,()))=aR x0 x1 from by kernel_rfl).trans (eq x0 x1 hw hp)
theorem aPz:cE Tryz.prog 72 fs:=⟨aPy,_,Tryz.func72,by kernel_rfl,by kernel_rfl⟩
end bG
namespace kP
noncomputable def lQ:List (Nat×uN):=[(20000000,(.arr 52 lU))]
noncomputable def fs:FS:=⟨[(.val (.sl 5 (.int .u8)) .f)],[((.sl 52 lU),.o),((.int .i64),.o)],fun x=>kP.pre x.1,fun x=>((),((kP x.1).1,((kP x.1).2,())))⟩
noncomputable def E:eI:=⟨aX,[(72,bG.fs)],[]⟩
noncomputable def sh3:fG:=⟨((.one (.dat (.sl 5 (.int .u8))))::uu::uu::uu::(.one (.arr 20000000))::ui::un 24 []),lQ⟩
noncomputable def sX:List fQ:=[⟨(.exit 0),⟨0,[4,5],[(4,(52,lU))],[]⟩,⟨(un 4 ((.one (.arr 20000000))::ui::un 24 [])),lQ⟩⟩]
noncomputable def L3:LC:=⟨3,⟨3,[0,4,5],[(4,(52,lU))],[]⟩,sh3,sX,pre3,fn3⟩
noncomputable def H:List LC:=[L3]
noncomputable def code(i:Nat):Code:=(bF (cA Tryz.f30)).getD i .skip
theorem zR:bM E H (code 0) L3:=⟨mu3,fun⟨x1,x2,x3,()⟩ hp=>aU (show L3.step E H (code 0) (x1,(x2,(x3,())))=pK x1 x2 x3 from by kernel_rfl) (ok3 x1 x2 x3 hp)⟩
theorem bZ:aS Tryz.prog E:=aD bG.aPz (aI gO)
theorem loops:∀c,Tryz.f30.body=some c->aH E H c:=bC (by kernel_rfl) (by kernel_rfl) fun i l h=>match i,h with
  |0,h=>Option.some.inj h▸zR
  |n+1,h=>by cases h
theorem aPy:bA Tryz.prog 30 fs:=aF bZ aZ Tryz.func30 H loops fun⟨x0,()⟩ hw hp=>(show bB E H Tryz.f30 fs.ps fs.rs (x0,())=aR x0 from by kernel_rfl).trans (eq x0 hw hp)
theorem aPz:cE Tryz.prog 30 fs:=⟨aPy,_,Tryz.func30,by kernel_rfl,by kernel_rfl⟩
end kP
namespace mQ
noncomputable def fs:FS:=⟨[(.val iS .f)],[((.int .i64),.o),((.int .i64),.o)],fun _=>true,fun x=>((),((mQ x.1).1,((mQ x.1).2,())))⟩
noncomputable def E:eI:=⟨aX,[],[]⟩
noncomputable def H:List LC:=[]
theorem bZ:aS Tryz.prog E:=aI gO
theorem loops:∀c,Tryz.f48.body=some c->aH E H c:=aO (by kernel_rfl)
theorem aPy:bA Tryz.prog 48 fs:=aF bZ aZ Tryz.func48 H loops fun⟨x0,()⟩ hw _=>(show bB E H Tryz.f48 fs.ps fs.rs (x0,())=aR x0 from by kernel_rfl).trans (eq x0 hw)
theorem aPz:cE Tryz.prog 48 fs:=⟨aPy,_,Tryz.func48,by kernel_rfl,by kernel_rfl⟩
end mQ
namespace lZ
noncomputable def fs:FS:=⟨[(.val iS .f)],[(.bool,.o)],fun _=>true,fun x=>((),((lZ x.1),()))⟩
noncomputable def E:eI:=⟨aX,[(49,dW.fs),(117,nQ.fs)],[]⟩
noncomputable def sh5:fG:=⟨(uu::(.one (.bptr 0 [] iS))::uu::ui::ui::un 53 []),[(0,(.box iS (.dat iS)))]⟩
noncomputable def zG:List fQ:=[⟨.ret,⟨0,[2],[],[]⟩,⟨(uu::uu::(.one (.dat .bool))::un 55 []),[]⟩⟩,⟨(.exit 0),⟨0,[],[],[]⟩,⟨(un 58 []),[]⟩⟩]
noncomputable def L5:LC:=⟨5,⟨5,[1,3,4],[],[]⟩,sh5,zG,pre5,fn5⟩
noncomputable def H:List LC:=[L5]
noncomputable def code(i:Nat):Code:=(bF (cA Tryz.f50)).getD i .skip
theorem aCL:bM E H (code 0) L5:=⟨mu5,fun⟨x1,x2,x3,()⟩ hp=>aU (show L5.step E H (code 0) (x1,(x2,(x3,())))=tX x1 x2 x3 from by kernel_rfl) (ok5 x1 x2 x3 hp)⟩
theorem bZ:aS Tryz.prog E:=aD dW.aPz (aD nQ.aPz (aI gO))
theorem loops:∀c,Tryz.f50.body=some c->aH E H c:=bC (by kernel_rfl) (by kernel_rfl) fun i l h=>match i,h with
  |0,h=>Option.some.inj h▸aCL
  |n+1,h=>by cases h
theorem aPy:bA Tryz.prog 50 fs:=aF bZ aZ Tryz.func50 H loops fun⟨x0,()⟩ hw _=>(show bB E H Tryz.f50 fs.ps fs.rs (x0,())=aR x0 from by kernel_rfl).trans (eq x0 hw)
theorem aPz:cE Tryz.prog 50 fs:=⟨aPy,_,Tryz.func50,by kernel_rfl,by kernel_rfl⟩
end lZ
namespace dC
noncomputable def lQ:List (Nat×uN):=[(0,(.box dX (.dat dX)))]
noncomputable def fs:FS:=⟨[(.val dX .f),(.val (.int .i64) .f)],[(.bool,.o)],fun x=>dC.pre x.1 x.2.1,fun x=>((),((dC x.1 x.2.1),()))⟩
noncomputable def E:eI:=⟨aX,[(49,dW.fs)],[]⟩
noncomputable def qI:fG:=⟨(uu::ui::(.one (.bptr 0 [] dX))::uu::uu::ui::un 96 []),lQ⟩
noncomputable def eR:List fQ:=[⟨.ret,⟨0,[4],[],[]⟩,⟨(un 4 ((.one (.dat .bool))::un 97 [])),[]⟩⟩,⟨(.exit 0),⟨0,[1,2],[],[]⟩,⟨(uu::ui::(.one (.bptr 0 [] dX))::un 99 []),lQ⟩⟩]
noncomputable def L2:LC:=⟨2,⟨2,[1,2,5],[],[]⟩,qI,eR,pre2,fn2⟩
noncomputable def H:List LC:=[L2]
noncomputable def code(i:Nat):Code:=(bF (cA Tryz.f188)).getD i .skip
theorem jG:bM E H (code 0) L2:=⟨kY,fun⟨x1,x2,x3,()⟩ hp=>aU (show L2.step E H (code 0) (x1,(x2,(x3,())))=cW x1 x2 x3 from by kernel_rfl) (qO x1 x2 x3 hp)⟩
theorem bZ:aS Tryz.prog E:=aD dW.aPz (aI gO)
theorem loops:∀c,Tryz.f188.body=some c->aH E H c:=bC (by kernel_rfl) (by kernel_rfl) fun i l h=>match i,h with
  |0,h=>Option.some.inj h▸jG
  |n+1,h=>by cases h
theorem aPy:bA Tryz.prog 188 fs:=aF bZ aZ Tryz.func188 H loops fun⟨x0,x1,()⟩ hw hp=>(show bB E H Tryz.f188 fs.ps fs.rs (x0,(x1,()))=aR x0 x1 from by kernel_rfl).trans (eq x0 x1 hw hp)
theorem aPz:cE Tryz.prog 188 fs:=⟨aPy,_,Tryz.func188,by kernel_rfl,by kernel_rfl⟩
end dC
namespace fI
noncomputable def fs:FS:=⟨[(.val gA .f),(.val (.sl 134 dX) .f)],[(.bool,.o)],fun x=>fI.pre x.1 x.2.1,fun x=>((),((fI x.1 x.2.1),()))⟩
noncomputable def E:eI:=⟨aX,[(188,dC.fs)],[]⟩
noncomputable def qI:fG:=⟨(uu::(.one (.dat (.sl 134 dX)))::(.one (.bptr 0 [] gA))::uu::uu::ui::un 58 []),[(0,(.box gA (.dat gA)))]⟩
noncomputable def eR:List fQ:=[⟨.ret,⟨0,[4],[],[]⟩,⟨(un 4 ((.one (.dat .bool))::un 59 [])),[]⟩⟩,⟨(.exit 0),⟨0,[],[],[]⟩,⟨(un 64 []),[]⟩⟩]
noncomputable def L2:LC:=⟨2,⟨2,[1,2,5],[],[]⟩,qI,eR,pre2,fn2⟩
noncomputable def H:List LC:=[L2]
noncomputable def code(i:Nat):Code:=(bF (cA Tryz.f118)).getD i .skip
theorem jG:bM E H (code 0) L2:=⟨kY,fun⟨x1,x2,x3,()⟩ hp=>aU (show L2.step E H (code 0) (x1,(x2,(x3,())))=cW x1 x2 x3 from by kernel_rfl) (qO x1 x2 x3 hp)⟩
theorem bZ:aS Tryz.prog E:=aD dC.aPz (aI gO)
theorem loops:∀c,Tryz.f118.body=some c->aH E H c:=bC (by kernel_rfl) (by kernel_rfl) fun i l h=>match i,h with
  |0,h=>Option.some.inj h▸jG
  |n+1,h=>by cases h
theorem aPy:bA Tryz.prog 118 fs:=aF bZ aZ Tryz.func118 H loops fun⟨x0,x1,()⟩ hw hp=>(show bB E H Tryz.f118 fs.ps fs.rs (x0,(x1,()))=aR x0 x1 from by kernel_rfl).trans (eq x0 x1 hw hp)
theorem aPz:cE Tryz.prog 118 fs:=⟨aPy,_,Tryz.func118,by kernel_rfl,by kernel_rfl⟩
end fI
namespace mK
noncomputable def fs:FS:=⟨[(.val pM .f)],[(.bool,.o)],fun x=>mK.pre x.1,fun x=>((),((mK x.1),()))⟩
noncomputable def E:eI:=⟨aX,[(49,dW.fs),(187,jH.fs)],[]⟩
noncomputable def H:List LC:=[]
theorem bZ:aS Tryz.prog E:=aD dW.aPz (aD jH.aPz (aI gO))
theorem loops:∀c,Tryz.f189.body=some c->aH E H c:=aO (by kernel_rfl)
theorem aPy:bA Tryz.prog 189 fs:=aF bZ aZ Tryz.func189 H loops fun⟨x0,()⟩ hw hp=>(show bB E H Tryz.f189 fs.ps fs.rs (x0,())=aR x0 from by kernel_rfl).trans (eq x0 hw hp)
theorem aPz:cE Tryz.prog 189 fs:=⟨aPy,_,Tryz.func189,by kernel_rfl,by kernel_rfl⟩
end mK
namespace lE
noncomputable def lQ:List (Nat×uN):=[(0,(.box dZ (.dat dZ)))]
noncomputable def fs:FS:=⟨[(.val dZ .f)],[(.bool,.o)],fun x=>lE.pre x.1,fun x=>((),((lE x.1),()))⟩
noncomputable def E:eI:=⟨aX,[(49,dW.fs),(189,mK.fs)],[]⟩
noncomputable def qI:fG:=⟨(uu::(.one (.bptr 0 [] dZ))::uu::ui::un 65 []),lQ⟩
noncomputable def eR:List fQ:=[⟨.ret,⟨0,[2],[],[]⟩,⟨(uu::uu::(.one (.dat .bool))::un 66 []),[]⟩⟩,⟨(.exit 0),⟨0,[1],[],[]⟩,⟨(uu::(.one (.bptr 0 [] dZ))::un 67 []),lQ⟩⟩]
noncomputable def L2:LC:=⟨2,⟨2,[1,3],[],[]⟩,qI,eR,pre2,fn2⟩
noncomputable def H:List LC:=[L2]
noncomputable def code(i:Nat):Code:=(bF (cA Tryz.f119)).getD i .skip
theorem jG:bM E H (code 0) L2:=⟨kY,fun⟨x1,x2,()⟩ hp=>aU (show L2.step E H (code 0) (x1,(x2,()))=cW x1 x2 from by kernel_rfl) (qO x1 x2 hp)⟩
theorem bZ:aS Tryz.prog E:=aD dW.aPz (aD mK.aPz (aI gO))
theorem loops:∀c,Tryz.f119.body=some c->aH E H c:=bC (by kernel_rfl) (by kernel_rfl) fun i l h=>match i,h with
  |0,h=>Option.some.inj h▸jG
  |n+1,h=>by cases h
theorem aPy:bA Tryz.prog 119 fs:=aF bZ aZ Tryz.func119 H loops fun⟨x0,()⟩ hw hp=>(show bB E H Tryz.f119 fs.ps fs.rs (x0,())=aR x0 from by kernel_rfl).trans (eq x0 hw hp)
theorem aPz:cE Tryz.prog 119 fs:=⟨aPy,_,Tryz.func119,by kernel_rfl,by kernel_rfl⟩
end lE
namespace gY
noncomputable def lQ:List (Nat×uN):=[(0,(.box cV (.dat cV)))]
noncomputable def fs:FS:=⟨[(.val cV .f),(.val (.int .i64) .f)],[(.bool,.o)],fun x=>gY.pre x.1 x.2.1,fun x=>((),((gY x.1 x.2.1),()))⟩
noncomputable def E:eI:=⟨aX,[(49,dW.fs)],[]⟩
noncomputable def yZ:fG:=⟨(uu::uu::(.one (.bptr 0 [] cV))::uu::uu::ui::un 76 []),lQ⟩
noncomputable def kT:List fQ:=[⟨.ret,⟨0,[4],[],[]⟩,⟨(un 4 ((.one (.dat .bool))::un 77 [])),[]⟩⟩,⟨(.exit 0),⟨0,[2],[],[]⟩,⟨(uu::uu::(.one (.bptr 0 [] cV))::un 79 []),lQ⟩⟩]
noncomputable def L4:LC:=⟨4,⟨4,[2,5],[],[]⟩,yZ,kT,pre4,fn4⟩
noncomputable def sh9:fG:=⟨(uu::uu::(.one (.bptr 0 [] cV))::uu::uu::uu::ui::un 75 []),lQ⟩
noncomputable def aI8:List fQ:=[⟨.ret,⟨0,[4],[],[]⟩,⟨(un 4 ((.one (.dat .bool))::un 77 [])),[]⟩⟩,⟨(.exit 2),⟨0,[],[],[]⟩,⟨(un 82 []),[]⟩⟩]
noncomputable def L9:LC:=⟨9,⟨9,[2,6],[],[]⟩,sh9,aI8,pre9,fn9⟩
noncomputable def H:List LC:=[L4,L9]
noncomputable def code(i:Nat):Code:=(bF (cA Tryz.f120)).getD i .skip
theorem oZ:bM E H (code 0) L4:=⟨qD,fun⟨x1,x2,()⟩ hp=>aU (show L4.step E H (code 0) (x1,(x2,()))=hJ x1 x2 from by kernel_rfl) (zE x1 x2 hp)⟩
theorem aLl:bM E H (code 1) L9:=⟨mu9,fun⟨x1,x2,()⟩ hp=>aU (show L9.step E H (code 1) (x1,(x2,()))=aEd x1 x2 from by kernel_rfl) (ok9 x1 x2 hp)⟩
theorem bZ:aS Tryz.prog E:=aD dW.aPz (aI gO)
theorem loops:∀c,Tryz.f120.body=some c->aH E H c:=bC (by kernel_rfl) (by kernel_rfl) fun i l h=>match i,h with
  |0,h=>Option.some.inj h▸oZ
  |1,h=>Option.some.inj h▸aLl
  |n+2,h=>by cases h
theorem aPy:bA Tryz.prog 120 fs:=aF bZ aZ Tryz.func120 H loops fun⟨x0,x1,()⟩ hw hp=>(show bB E H Tryz.f120 fs.ps fs.rs (x0,(x1,()))=aR x0 x1 from by kernel_rfl).trans (eq x0 x1 hw hp)
theorem aPz:cE Tryz.prog 120 fs:=⟨aPy,_,Tryz.func120,by kernel_rfl,by kernel_rfl⟩
end gY
namespace jJ
noncomputable def fs:FS:=⟨[(.val dK .f)],[(.bool,.o)],fun x=>jJ.pre x.1,fun x=>((),((jJ x.1),()))⟩
noncomputable def E:eI:=⟨aX,[(49,dW.fs),(187,jH.fs)],[]⟩
noncomputable def H:List LC:=[]
theorem bZ:aS Tryz.prog E:=aD dW.aPz (aD jH.aPz (aI gO))
theorem loops:∀c,Tryz.f121.body=some c->aH E H c:=aO (by kernel_rfl)
theorem aPy:bA Tryz.prog 121 fs:=aF bZ aZ Tryz.func121 H loops fun⟨x0,()⟩ hw hp=>(show bB E H Tryz.f121 fs.ps fs.rs (x0,())=aR x0 from by kernel_rfl).trans (eq x0 hw hp)
theorem aPz:cE Tryz.prog 121 fs:=⟨aPy,_,Tryz.func121,by kernel_rfl,by kernel_rfl⟩
end jJ
namespace bX
noncomputable def lQ:List (Nat×uN):=[(0,(.box gA (.dat gA))),(32,(.box bU (.dat bU)))]
noncomputable def ob2:List (Nat×uN):=[(32,(.box bU (.dat bU)))]
noncomputable def fs:FS:=⟨[(.val gA .f),(.val bU .f)],[(.bool,.o)],fun x=>bX.pre x.1 x.2.1,fun x=>((),((bX x.1 x.2.1),()))⟩
noncomputable def E:eI:=⟨aX,[(49,dW.fs),(68,iG.fs),(118,fI.fs),(119,lE.fs),(120,gY.fs),(121,jJ.fs)],[]⟩
noncomputable def yZ:fG:=⟨(uu::uu::(.one (.bptr 0 [] gA))::(.one (.bptr 32 [] bU))::uu::ui::un 90 []),lQ⟩
noncomputable def kT:List fQ:=[⟨.ret,⟨0,[4],[],[]⟩,⟨(un 4 ((.one (.dat .bool))::un 91 [])),[]⟩⟩,⟨(.exit 0),⟨0,[2,3],[],[]⟩,⟨(uu::uu::(.one (.bptr 0 [] gA))::(.one (.bptr 32 [] bU))::un 92 []),lQ⟩⟩]
noncomputable def L4:LC:=⟨4,⟨4,[2,3,5],[],[]⟩,yZ,kT,pre4,fn4⟩
noncomputable def sh9:fG:=⟨(uu::uu::(.one (.bptr 0 [] gA))::(.one (.bptr 32 [] bU))::uu::uu::ui::un 89 []),lQ⟩
noncomputable def aI8:List fQ:=[⟨.ret,⟨0,[4],[],[]⟩,⟨(un 4 ((.one (.dat .bool))::un 91 [])),[]⟩⟩,⟨(.exit 2),⟨0,[3],[],[]⟩,⟨(uu::uu::uu::(.one (.bptr 32 [] bU))::un 92 []),ob2⟩⟩]
noncomputable def L9:LC:=⟨9,⟨9,[2,3,6],[],[]⟩,sh9,aI8,pre9,fn9⟩
noncomputable def aPb:fG:=⟨(uu::uu::uu::(.one (.bptr 32 [] bU))::uu::uu::uu::ui::un 88 []),ob2⟩
noncomputable def aNT:List fQ:=[⟨.ret,⟨0,[4],[],[]⟩,⟨(un 4 ((.one (.dat .bool))::un 91 [])),[]⟩⟩,⟨(.exit 4),⟨0,[],[],[]⟩,⟨(un 96 []),[]⟩⟩]
noncomputable def L14:LC:=⟨14,⟨14,[3,7],[],[]⟩,aPb,aNT,pre14,fn14⟩
noncomputable def H:List LC:=[L4,L9,L14]
noncomputable def code(i:Nat):Code:=(bF (cA Tryz.f51)).getD i .skip
theorem oZ:bM E H (code 0) L4:=⟨qD,fun⟨x1,x2,x3,()⟩ hp=>aU (show L4.step E H (code 0) (x1,(x2,(x3,())))=hJ x1 x2 x3 from by kernel_rfl) (zE x1 x2 x3 hp)⟩
theorem aLl:bM E H (code 1) L9:=⟨mu9,fun⟨x1,x2,x3,()⟩ hp=>aU (show L9.step E H (code 1) (x1,(x2,(x3,())))=aEd x1 x2 x3 from by kernel_rfl) (ok9 x1 x2 x3 hp)⟩
theorem aOp:bM E H (code 2) L14:=⟨aMq,fun⟨x1,x2,()⟩ hp=>aU (show L14.step E H (code 2) (x1,(x2,()))=aLk x1 x2 from by kernel_rfl) (aPf x1 x2 hp)⟩
theorem bZ:aS Tryz.prog E:=aD dW.aPz (aD iG.aPz (aD fI.aPz (aD lE.aPz (aD gY.aPz (aD jJ.aPz (aI gO))))))
theorem loops:∀c,Tryz.f51.body=some c->aH E H c:=bC (by kernel_rfl) (by kernel_rfl) fun i l h=>match i,h with
  |0,h=>Option.some.inj h▸oZ
  |1,h=>Option.some.inj h▸aLl
  |2,h=>Option.some.inj h▸aOp
  |n+3,h=>by cases h
theorem aPy:bA Tryz.prog 51 fs:=aF bZ aZ Tryz.func51 H loops fun⟨x0,x1,()⟩ hw hp=>(show bB E H Tryz.f51 fs.ps fs.rs (x0,(x1,()))=aR x0 x1 from by kernel_rfl).trans (eq x0 x1 hw hp)
theorem aPz:cE Tryz.prog 51 fs:=⟨aPy,_,Tryz.func51,by kernel_rfl,by kernel_rfl⟩
end bX
namespace cO
noncomputable def fs:FS:=⟨[(.val gA .f),(.val iI .f)],[(.bool,.o)],fun x=>cO.pre x.1 x.2.1,fun x=>((),((cO x.1 x.2.1),()))⟩
noncomputable def E:eI:=⟨aX,[(49,dW.fs),(48,mQ.fs),(50,lZ.fs),(51,bX.fs)],[]⟩
noncomputable def H:List LC:=[]
theorem bZ:aS Tryz.prog E:=aD dW.aPz (aD mQ.aPz (aD lZ.aPz (aD bX.aPz (aI gO))))
theorem loops:∀c,Tryz.f19.body=some c->aH E H c:=aO (by kernel_rfl)
theorem aPy:bA Tryz.prog 19 fs:=aF bZ aZ Tryz.func19 H loops fun⟨x0,x1,()⟩ hw hp=>(show bB E H Tryz.f19 fs.ps fs.rs (x0,(x1,()))=aR x0 x1 from by kernel_rfl).trans (eq x0 x1 hw hp)
theorem aPz:cE Tryz.prog 19 fs:=⟨aPy,_,Tryz.func19,by kernel_rfl,by kernel_rfl⟩
end cO
namespace aT
noncomputable def fs:FS:=⟨[(.val iS .f)],[(iS,.o)],fun x=>aT.pre x.1,fun x=>((),((aT x.1),()))⟩
noncomputable def E:eI:=⟨aX,[],[]⟩
noncomputable def H:List LC:=[]
theorem bZ:aS Tryz.prog E:=aI gO
theorem loops:∀c,Tryz.f142.body=some c->aH E H c:=aO (by kernel_rfl)
theorem aPy:bA Tryz.prog 142 fs:=aF bZ aZ Tryz.func142 H loops fun⟨x0,()⟩ hw hp=>(show bB E H Tryz.f142 fs.ps fs.rs (x0,())=aR x0 from by kernel_rfl).trans (eq x0 hw hp)
theorem aPz:cE Tryz.prog 142 fs:=⟨aPy,_,Tryz.func142,by kernel_rfl,by kernel_rfl⟩
end aT
namespace jX
noncomputable def fs:FS:=⟨[(.val dZ .f)],[(dZ,.o)],fun x=>jX.pre x.1,fun x=>((),((jX x.1),()))⟩
noncomputable def E:eI:=⟨aX,[],[]⟩
noncomputable def H:List LC:=[]
theorem bZ:aS Tryz.prog E:=aI gO
theorem loops:∀c,Tryz.f203.body=some c->aH E H c:=aO (by kernel_rfl)
theorem aPy:bA Tryz.prog 203 fs:=aF bZ aZ Tryz.func203 H loops fun⟨x0,()⟩ hw hp=>(show bB E H Tryz.f203 fs.ps fs.rs (x0,())=aR x0 from by kernel_rfl).trans (eq x0 hw hp)
theorem aPz:cE Tryz.prog 203 fs:=⟨aPy,_,Tryz.func203,by kernel_rfl,by kernel_rfl⟩
end jX
namespace jZ
noncomputable def fs:FS:=⟨[(.val dX .f)],[(dX,.o)],fun x=>jZ.pre x.1,fun x=>((),((jZ x.1),()))⟩
noncomputable def E:eI:=⟨aX,[],[]⟩
noncomputable def H:List LC:=[]
theorem bZ:aS Tryz.prog E:=aI gO
theorem loops:∀c,Tryz.f204.body=some c->aH E H c:=aO (by kernel_rfl)
theorem aPy:bA Tryz.prog 204 fs:=aF bZ aZ Tryz.func204 H loops fun⟨x0,()⟩ hw hp=>(show bB E H Tryz.f204 fs.ps fs.rs (x0,())=aR x0 from by kernel_rfl).trans (eq x0 hw hp)
theorem aPz:cE Tryz.prog 204 fs:=⟨aPy,_,Tryz.func204,by kernel_rfl,by kernel_rfl⟩
end jZ
namespace jY
noncomputable def fs:FS:=⟨[(.val cV .f)],[(cV,.o)],fun x=>jY.pre x.1,fun x=>((),((jY x.1),()))⟩
noncomputable def E:eI:=⟨aX,[],[]⟩
noncomputable def H:List LC:=[]
theorem bZ:aS Tryz.prog E:=aI gO
theorem loops:∀c,Tryz.f205.body=some c->aH E H c:=aO (by kernel_rfl)
theorem aPy:bA Tryz.prog 205 fs:=aF bZ aZ Tryz.func205 H loops fun⟨x0,()⟩ hw hp=>(show bB E H Tryz.f205 fs.ps fs.rs (x0,())=aR x0 from by kernel_rfl).trans (eq x0 hw hp)
theorem aPz:cE Tryz.prog 205 fs:=⟨aPy,_,Tryz.func205,by kernel_rfl,by kernel_rfl⟩
end jY
namespace gT
noncomputable def lQ:List (Nat×uN):=[(0,(.box bU (.dat bU))),(32,(.box bU (.pair (.arr 20000000) (.pair (.arr 20000001) (.pair (.arr 20000002) (.pair (.dat (.int .i64)) (.pair (.arr 20000003) (.pair (.arr 20000004) (.dat .unit))))))))),(20000000,(.arr 130 dZ)),(20000001,(.arr 134 dX)),(20000002,(.arr 95 cV)),(20000003,(.arr 3 (.int .i64))),(20000004,(.arr 138 dK)),(8544,(.box bU (.pair (.arr 20000005) (.pair (.arr 20000006) (.pair (.arr 20000007) (.pair (.dat (.int .i64)) (.pair (.arr 20000008) (.pair (.arr 20000009) (.dat .unit))))))))),(20000005,(.arr 130 dZ)),(20000006,(.arr 134 dX)),(20000007,(.arr 95 cV)),(20000008,(.arr 3 (.int .i64))),(20000009,(.arr 138 dK))]
noncomputable def fs:FS:=⟨[(.val bU .f)],[(bU,.o)],fun x=>gT.pre x.1,fun x=>((),((gT x.1),()))⟩
noncomputable def E:eI:=⟨aX,[(203,jX.fs),(204,jZ.fs),(205,jY.fs)],[]⟩
noncomputable def sh3:fG:=⟨(uu::(.one (.bptr 0 [] bU))::(.one (.bptr 32 [] bU))::(.one (.bptr 8544 [] bU))::ui::un 68 []),lQ⟩
noncomputable def sX:List fQ:=[⟨(.exit 0),⟨0,[1,2,3],[],[]⟩,⟨(uu::(.one (.bptr 0 [] bU))::(.one (.bptr 32 [] bU))::(.one (.bptr 8544 [] bU))::un 69 []),lQ⟩⟩]
noncomputable def L3:LC:=⟨3,⟨3,[1,2,3,4],[],[]⟩,sh3,sX,pre3,fn3⟩
noncomputable def sh7:fG:=⟨(uu::(.one (.bptr 0 [] bU))::(.one (.bptr 32 [] bU))::(.one (.bptr 8544 [] bU))::uu::ui::un 67 []),lQ⟩
noncomputable def aHE:List fQ:=[⟨(.exit 2),⟨0,[1,2,3],[],[]⟩,⟨(uu::(.one (.bptr 0 [] bU))::(.one (.bptr 32 [] bU))::(.one (.bptr 8544 [] bU))::un 69 []),lQ⟩⟩]
noncomputable def L7:LC:=⟨7,⟨7,[1,2,3,5],[],[]⟩,sh7,aHE,pre7,fn7⟩
noncomputable def aNM:fG:=⟨(uu::(.one (.bptr 0 [] bU))::(.one (.bptr 32 [] bU))::(.one (.bptr 8544 [] bU))::uu::uu::ui::un 66 []),lQ⟩
noncomputable def aJ1:List fQ:=[⟨(.exit 4),⟨0,[2,3],[],[]⟩,⟨(uu::uu::(.one (.bptr 32 [] bU))::(.one (.bptr 8544 [] bU))::un 69 []),[(32,(.box bU (.pair (.arr 20000000) (.pair (.arr 20000001) (.pair (.arr 20000002) (.pair (.dat (.int .i64)) (.pair (.arr 20000003) (.pair (.arr 20000004) (.dat .unit))))))))),(20000000,(.arr 130 dZ)),(20000001,(.arr 134 dX)),(20000002,(.arr 95 cV)),(20000003,(.arr 3 (.int .i64))),(20000004,(.arr 138 dK)),(8544,(.box bU (.pair (.arr 20000005) (.pair (.arr 20000006) (.pair (.arr 20000007) (.pair (.dat (.int .i64)) (.pair (.arr 20000008) (.pair (.arr 20000009) (.dat .unit))))))))),(20000005,(.arr 130 dZ)),(20000006,(.arr 134 dX)),(20000007,(.arr 95 cV)),(20000008,(.arr 3 (.int .i64))),(20000009,(.arr 138 dK))]⟩⟩]
noncomputable def L11:LC:=⟨11,⟨11,[1,2,3,6],[],[]⟩,aNM,aJ1,pre11,fn11⟩
noncomputable def H:List LC:=[L3,L7,L11]
noncomputable def code(i:Nat):Code:=(bF (cA Tryz.f143)).getD i .skip
theorem zR:bM E H (code 0) L3:=⟨mu3,fun⟨x1,x2,x3,x4,x5,x6,x7,x8,x9,x10,x11,x12,x13,x14,x15,x16,()⟩ hp=>aU (show L3.step E H (code 0) (x1,(x2,(x3,(x4,(x5,(x6,(x7,(x8,(x9,(x10,(x11,(x12,(x13,(x14,(x15,(x16,()))))))))))))))))=pK x1 x2 x3 x4 x5 x6 x7 x8 x9 x10 x11 x12 x13 x14 x15 x16 from by kernel_rfl) (ok3 x1 x2 x3 x4 x5 x6 x7 x8 x9 x10 x11 x12 x13 x14 x15 x16 hp)⟩
theorem aM5:bM E H (code 1) L7:=⟨mu7,fun⟨x1,x2,x3,x4,x5,x6,x7,x8,x9,x10,x11,x12,x13,x14,x15,x16,()⟩ hp=>aU (show L7.step E H (code 1) (x1,(x2,(x3,(x4,(x5,(x6,(x7,(x8,(x9,(x10,(x11,(x12,(x13,(x14,(x15,(x16,()))))))))))))))))=aDV x1 x2 x3 x4 x5 x6 x7 x8 x9 x10 x11 x12 x13 x14 x15 x16 from by kernel_rfl) (ok7 x1 x2 x3 x4 x5 x6 x7 x8 x9 x10 x11 x12 x13 x14 x15 x16 hp)⟩
theorem aLc:bM E H (code 2) L11:=⟨aKr,fun⟨x1,x2,x3,x4,x5,x6,x7,x8,x9,x10,x11,x12,x13,x14,x15,x16,()⟩ hp=>aU (show L11.step E H (code 2) (x1,(x2,(x3,(x4,(x5,(x6,(x7,(x8,(x9,(x10,(x11,(x12,(x13,(x14,(x15,(x16,()))))))))))))))))=aDZ x1 x2 x3 x4 x5 x6 x7 x8 x9 x10 x11 x12 x13 x14 x15 x16 from by kernel_rfl) (aO4 x1 x2 x3 x4 x5 x6 x7 x8 x9 x10 x11 x12 x13 x14 x15 x16 hp)⟩
theorem bZ:aS Tryz.prog E:=aD jX.aPz (aD jZ.aPz (aD jY.aPz (aI gO)))
theorem loops:∀c,Tryz.f143.body=some c->aH E H c:=bC (by kernel_rfl) (by kernel_rfl) fun i l h=>match i,h with
  |0,h=>Option.some.inj h▸zR
  |1,h=>Option.some.inj h▸aM5
  |2,h=>Option.some.inj h▸aLc
  |n+3,h=>by cases h
theorem aPy:bA Tryz.prog 143 fs:=aF bZ aZ Tryz.func143 H loops fun⟨x0,()⟩ hw hp=>(show bB E H Tryz.f143 fs.ps fs.rs (x0,())=aR x0 from by kernel_rfl).trans (eq x0 hw hp)
theorem aPz:cE Tryz.prog 143 fs:=⟨aPy,_,Tryz.func143,by kernel_rfl,by kernel_rfl⟩
end gT
namespace gH
noncomputable def fs:FS:=⟨[(.val iI .f)],[(iI,.o)],fun x=>gH.pre x.1,fun x=>((),((gH x.1),()))⟩
noncomputable def E:eI:=⟨aX,[(142,aT.fs),(143,gT.fs)],[]⟩
noncomputable def H:List LC:=[]
theorem bZ:aS Tryz.prog E:=aD aT.aPz (aD gT.aPz (aI gO))
theorem loops:∀c,Tryz.f65.body=some c->aH E H c:=aO (by kernel_rfl)
theorem aPy:bA Tryz.prog 65 fs:=aF bZ aZ Tryz.func65 H loops fun⟨x0,()⟩ hw hp=>(show bB E H Tryz.f65 fs.ps fs.rs (x0,())=aR x0 from by kernel_rfl).trans (eq x0 hw hp)
theorem aPz:cE Tryz.prog 65 fs:=⟨aPy,_,Tryz.func65,by kernel_rfl,by kernel_rfl⟩
end gH
namespace cG
noncomputable def fs:FS:=⟨[(.val iS .f),(.val (.int .i64) .f)],[((.int .i64),.o)],fun _=>true,fun x=>((),((cG x.1 x.2.1),()))⟩
noncomputable def E:eI:=⟨aX,[],[]⟩
noncomputable def H:List LC:=[]
theorem bZ:aS Tryz.prog E:=aI gO
theorem loops:∀c,Tryz.f207.body=some c->aH E H c:=aO (by kernel_rfl)
theorem aPy:bA Tryz.prog 207 fs:=aF bZ aZ Tryz.func207 H loops fun⟨x0,x1,()⟩ hw _=>(show bB E H Tryz.f207 fs.ps fs.rs (x0,(x1,()))=aR x0 x1 from by kernel_rfl).trans (eq x0 x1 hw)
theorem aPz:cE Tryz.prog 207 fs:=⟨aPy,_,Tryz.func207,by kernel_rfl,by kernel_rfl⟩
end cG
namespace mI
noncomputable def fs:FS:=⟨[(.val iS .f),(.val (.int .i64) .f)],[((.int .i64),.o)],fun _=>true,fun x=>((),((mI x.1 x.2.1),()))⟩
noncomputable def E:eI:=⟨aX,[(207,cG.fs)],[]⟩
noncomputable def H:List LC:=[]
theorem bZ:aS Tryz.prog E:=aD cG.aPz (aI gO)
theorem loops:∀c,Tryz.f146.body=some c->aH E H c:=aO (by kernel_rfl)
theorem aPy:bA Tryz.prog 146 fs:=aF bZ aZ Tryz.func146 H loops fun⟨x0,x1,()⟩ hw _=>(show bB E H Tryz.f146 fs.ps fs.rs (x0,(x1,()))=aR x0 x1 from by kernel_rfl).trans (eq x0 x1 hw)
theorem aPz:cE Tryz.prog 146 fs:=⟨aPy,_,Tryz.func146,by kernel_rfl,by kernel_rfl⟩
end mI
namespace eB
noncomputable def lQ:List (Nat×uN):=[(0,(.box iS (.dat iS))),(32,(.box iS (.pair (.dat (.int .i64)) (.pair (.dat (.int .i64)) (.pair (.arr 20000000) (.dat .unit)))))),(20000000,(.arr 122 jN)),(24640,(.box iS (.pair (.dat (.int .i64)) (.pair (.dat (.int .i64)) (.pair (.arr 20000001) (.dat .unit)))))),(20000001,(.arr 122 jN))]
noncomputable def fs:FS:=⟨[(.val iS .f),(.val (.int .i64) .f),(.val (.int .i64) .f),(.val (.sl 122 jN) .f)],[(iS,.o),(.bool,.o)],fun x=>eB.pre x.1 x.2.1 x.2.2.1 x.2.2.2.1,fun x=>((),((eB x.1 x.2.1 x.2.2.1 x.2.2.2.1).1,((eB x.1 x.2.1 x.2.2.1 x.2.2.2.1).2,())))⟩
noncomputable def E:eI:=⟨aX,[(50,lZ.fs),(142,aT.fs),(146,mI.fs)],[]⟩
noncomputable def sh7:fG:=⟨(uu::ui::uu::(.one (.dat (.sl 122 jN)))::(.one (.bptr 0 [] iS))::uu::uu::uu::(.one (.bptr 32 [] iS))::uu::(.one (.bptr 24640 [] iS))::ui::un 68 []),lQ⟩
noncomputable def aHE:List fQ:=[⟨(.exit 0),⟨0,[4,8,10],[],[]⟩,⟨(un 4 ((.one (.bptr 0 [] iS))::uu::uu::uu::(.one (.bptr 32 [] iS))::uu::(.one (.bptr 24640 [] iS))::un 69 [])),lQ⟩⟩]
noncomputable def L7:LC:=⟨7,⟨7,[1,3,4,8,10,11],[],[]⟩,sh7,aHE,pre7,fn7⟩
noncomputable def H:List LC:=[L7]
noncomputable def code(i:Nat):Code:=(bF (cA Tryz.f144)).getD i .skip
theorem aM5:bM E H (code 0) L7:=⟨mu7,fun⟨x1,x2,x3,x4,x5,x6,x7,x8,x9,x10,x11,x12,()⟩ hp=>aU (show L7.step E H (code 0) (x1,(x2,(x3,(x4,(x5,(x6,(x7,(x8,(x9,(x10,(x11,(x12,()))))))))))))=aDV x1 x2 x3 x4 x5 x6 x7 x8 x9 x10 x11 x12 from by kernel_rfl) (ok7 x1 x2 x3 x4 x5 x6 x7 x8 x9 x10 x11 x12 hp)⟩
theorem bZ:aS Tryz.prog E:=aD lZ.aPz (aD aT.aPz (aD mI.aPz (aI gO)))
theorem loops:∀c,Tryz.f144.body=some c->aH E H c:=bC (by kernel_rfl) (by kernel_rfl) fun i l h=>match i,h with
  |0,h=>Option.some.inj h▸aM5
  |n+1,h=>by cases h
theorem aPy:bA Tryz.prog 144 fs:=aF bZ aZ Tryz.func144 H loops fun⟨x0,x1,x2,x3,()⟩ hw hp=>(show bB E H Tryz.f144 fs.ps fs.rs (x0,(x1,(x2,(x3,()))))=aR x0 x1 x2 x3 from by kernel_rfl).trans (eq x0 x1 x2 x3 hw hp)
theorem aPz:cE Tryz.prog 144 fs:=⟨aPy,_,Tryz.func144,by kernel_rfl,by kernel_rfl⟩
end eB
namespace lO
noncomputable def fs:FS:=⟨[(.val iS .f),(.val (.int .i64) .f)],[(iS,.o)],fun x=>lO.pre x.1 x.2.1,fun x=>((),((lO x.1 x.2.1),()))⟩
noncomputable def E:eI:=⟨aX,[(142,aT.fs),(207,cG.fs)],[]⟩
noncomputable def H:List LC:=[]
theorem bZ:aS Tryz.prog E:=aD aT.aPz (aD cG.aPz (aI gO))
theorem loops:∀c,Tryz.f147.body=some c->aH E H c:=aO (by kernel_rfl)
theorem aPy:bA Tryz.prog 147 fs:=aF bZ aZ Tryz.func147 H loops fun⟨x0,x1,()⟩ hw hp=>(show bB E H Tryz.f147 fs.ps fs.rs (x0,(x1,()))=aR x0 x1 from by kernel_rfl).trans (eq x0 x1 hw hp)
theorem aPz:cE Tryz.prog 147 fs:=⟨aPy,_,Tryz.func147,by kernel_rfl,by kernel_rfl⟩
end lO
namespace aB
noncomputable def fs:FS:=⟨[(.val (.int .i64) .f),(.val (.int .i64) .f),(.val (.int .i64) .f)],[(.bool,.o)],fun _=>true,fun x=>((),((aB x.1 x.2.1 x.2.2.1),()))⟩
noncomputable def E:eI:=⟨aX,[],[]⟩
noncomputable def H:List LC:=[]
theorem bZ:aS Tryz.prog E:=aI gO
theorem loops:∀c,Tryz.f45.body=some c->aH E H c:=aO (by kernel_rfl)
theorem aPy:bA Tryz.prog 45 fs:=aF bZ aZ Tryz.func45 H loops fun⟨x0,x1,x2,()⟩ hw _=>(show bB E H Tryz.f45 fs.ps fs.rs (x0,(x1,(x2,())))=aR x0 x1 x2 from by kernel_rfl).trans (eq x0 x1 x2 hw)
theorem aPz:cE Tryz.prog 45 fs:=⟨aPy,_,Tryz.func45,by kernel_rfl,by kernel_rfl⟩
end aB
namespace iC
noncomputable def fs:FS:=⟨[(.val gA .f)],[(.bool,.o)],fun _=>true,fun x=>((),((iC x.1),()))⟩
noncomputable def E:eI:=⟨aX,[(45,aB.fs)],[]⟩
noncomputable def H:List LC:=[]
theorem bZ:aS Tryz.prog E:=aD aB.aPz (aI gO)
theorem loops:∀c,Tryz.f67.body=some c->aH E H c:=aO (by kernel_rfl)
theorem aPy:bA Tryz.prog 67 fs:=aF bZ aZ Tryz.func67 H loops fun⟨x0,()⟩ hw _=>(show bB E H Tryz.f67 fs.ps fs.rs (x0,())=aR x0 from by kernel_rfl).trans (eq x0 hw)
theorem aPz:cE Tryz.prog 67 fs:=⟨aPy,_,Tryz.func67,by kernel_rfl,by kernel_rfl⟩
end iC
namespace jM
noncomputable def fs:FS:=⟨[(.val (.int .i64) .f)],[(cV,.o)],fun x=>jM.pre x.1,fun x=>((),((jM x.1),()))⟩
noncomputable def E:eI:=⟨aX,[(45,aB.fs)],[]⟩
noncomputable def H:List LC:=[]
theorem bZ:aS Tryz.prog E:=aD aB.aPz (aI gO)
theorem loops:∀c,Tryz.f71.body=some c->aH E H c:=aO (by kernel_rfl)
theorem aPy:bA Tryz.prog 71 fs:=aF bZ aZ Tryz.func71 H loops fun⟨x0,()⟩ hw hp=>(show bB E H Tryz.f71 fs.ps fs.rs (x0,())=aR x0 from by kernel_rfl).trans (eq x0 hw hp)
theorem aPz:cE Tryz.prog 71 fs:=⟨aPy,_,Tryz.func71,by kernel_rfl,by kernel_rfl⟩
end jM
namespace iY
noncomputable def fs:FS:=⟨[(.val gA .f)],[(bU,.o)],fun x=>iY.pre x.1,fun x=>((),((iY x.1),()))⟩
noncomputable def E:eI:=⟨aX,[(67,iC.fs),(71,jM.fs)],[]⟩
noncomputable def sh5:fG:=⟨(uu::(.one (.bptr 0 [] gA))::(.one (.bptr 32 [] bU))::(.one (.bptr 24768 [] bU))::ui::un 23 []),[(0,(.box gA (.dat gA))),(32,(.box bU (.pair (.arr 20000000) (.pair (.arr 20000001) (.pair (.arr 20000002) (.pair (.dat (.int .i64)) (.pair (.arr 20000003) (.pair (.arr 20000004) (.dat .unit))))))))),(20000000,(.arr 130 dZ)),(20000001,(.arr 134 dX)),(20000002,(.arr 95 cV)),(20000003,(.arr 3 (.int .i64))),(20000004,(.arr 138 dK)),(24768,(.box bU (.pair (.arr 20000005) (.pair (.arr 20000006) (.pair (.arr 20000007) (.pair (.dat (.int .i64)) (.pair (.arr 20000008) (.pair (.arr 20000009) (.dat .unit))))))))),(20000005,(.arr 130 dZ)),(20000006,(.arr 134 dX)),(20000007,(.arr 95 cV)),(20000008,(.arr 3 (.int .i64))),(20000009,(.arr 138 dK))]⟩
noncomputable def zG:List fQ:=[⟨(.exit 0),⟨0,[2,3],[],[]⟩,⟨(uu::uu::(.one (.bptr 32 [] bU))::(.one (.bptr 24768 [] bU))::un 24 []),[(32,(.box bU (.pair (.arr 20000000) (.pair (.arr 20000001) (.pair (.arr 20000002) (.pair (.dat (.int .i64)) (.pair (.arr 20000003) (.pair (.arr 20000004) (.dat .unit))))))))),(20000000,(.arr 130 dZ)),(20000001,(.arr 134 dX)),(20000002,(.arr 95 cV)),(20000003,(.arr 3 (.int .i64))),(20000004,(.arr 138 dK)),(24768,(.box bU (.pair (.arr 20000005) (.pair (.arr 20000006) (.pair (.arr 20000007) (.pair (.dat (.int .i64)) (.pair (.arr 20000008) (.pair (.arr 20000009) (.dat .unit))))))))),(20000005,(.arr 130 dZ)),(20000006,(.arr 134 dX)),(20000007,(.arr 95 cV)),(20000008,(.arr 3 (.int .i64))),(20000009,(.arr 138 dK))]⟩⟩]
noncomputable def L5:LC:=⟨5,⟨5,[1,2,3,4],[],[]⟩,sh5,zG,pre5,fn5⟩
noncomputable def H:List LC:=[L5]
noncomputable def code(i:Nat):Code:=(bF (cA Tryz.f29)).getD i .skip
theorem aCL:bM E H (code 0) L5:=⟨mu5,fun⟨x1,x2,x3,x4,x5,x6,x7,x8,x9,x10,x11,x12,x13,x14,x15,x16,()⟩ hp=>aU (show L5.step E H (code 0) (x1,(x2,(x3,(x4,(x5,(x6,(x7,(x8,(x9,(x10,(x11,(x12,(x13,(x14,(x15,(x16,()))))))))))))))))=tX x1 x2 x3 x4 x5 x6 x7 x8 x9 x10 x11 x12 x13 x14 x15 x16 from by kernel_rfl) (ok5 x1 x2 x3 x4 x5 x6 x7 x8 x9 x10 x11 x12 x13 x14 x15 x16 hp)⟩
theorem bZ:aS Tryz.prog E:=aD iC.aPz (aD jM.aPz (aI gO))
theorem loops:∀c,Tryz.f29.body=some c->aH E H c:=bC (by kernel_rfl) (by kernel_rfl) fun i l h=>match i,h with
  |0,h=>Option.some.inj h▸aCL
  |n+1,h=>by cases h
theorem aPy:bA Tryz.prog 29 fs:=aF bZ aZ Tryz.func29 H loops fun⟨x0,()⟩ hw hp=>(show bB E H Tryz.f29 fs.ps fs.rs (x0,())=aR x0 from by kernel_rfl).trans (eq x0 hw hp)
theorem aPz:cE Tryz.prog 29 fs:=⟨aPy,_,Tryz.func29,by kernel_rfl,by kernel_rfl⟩
end iY
namespace kN
noncomputable def fs:FS:=⟨[(.val gA .f)],[(iI,.o)],fun x=>kN.pre x.1,fun x=>((),((kN x.1),()))⟩
noncomputable def E:eI:=⟨aX,[(67,iC.fs),(29,iY.fs)],[]⟩
noncomputable def H:List LC:=[]
theorem bZ:aS Tryz.prog E:=aD iC.aPz (aD iY.aPz (aI gO))
theorem loops:∀c,Tryz.f26.body=some c->aH E H c:=aO (by kernel_rfl)
theorem aPy:bA Tryz.prog 26 fs:=aF bZ aZ Tryz.func26 H loops fun⟨x0,()⟩ hw hp=>(show bB E H Tryz.f26 fs.ps fs.rs (x0,())=aR x0 from by kernel_rfl).trans (eq x0 hw hp)
theorem aPz:cE Tryz.prog 26 fs:=⟨aPy,_,Tryz.func26,by kernel_rfl,by kernel_rfl⟩
end kN
namespace bW
noncomputable def fs:FS:=⟨[(.val (.sl 5 (.int .u8)) .f),(.val (.int .i64) .f)],[((.int .i64),.o),((.int .i64),.o),(.bool,.o)],fun _=>true,fun x=>((),((bW x.1 x.2.1).1,((bW x.1 x.2.1).2.1,((bW x.1 x.2.1).2.2,()))))⟩
noncomputable def E:eI:=⟨aX,[],[]⟩
noncomputable def sh5:fG:=⟨((.one (.dat (.sl 5 (.int .u8))))::ui::un 5 (ui::ui::un 50 [])),[]⟩
noncomputable def zG:List fQ:=[⟨.ret,⟨0,[4,5,6],[],[]⟩,⟨(un 4 (ui::ui::(.one (.dat .bool))::un 52 [])),[]⟩⟩,⟨(.exit 0),⟨0,[],[],[]⟩,⟨(un 59 []),[]⟩⟩]
noncomputable def L5:LC:=⟨5,⟨5,[0,1,7,8],[],[]⟩,sh5,zG,pre5,fn5⟩
noncomputable def H:List LC:=[L5]
noncomputable def code(i:Nat):Code:=(bF (cA Tryz.f156)).getD i .skip
theorem aCL:bM E H (code 0) L5:=⟨mu5,fun⟨x1,x2,x3,x4,()⟩ hp=>aU (show L5.step E H (code 0) (x1,(x2,(x3,(x4,()))))=tX x1 x2 x3 x4 from by kernel_rfl) (ok5 x1 x2 x3 x4 hp)⟩
theorem bZ:aS Tryz.prog E:=aI gO
theorem loops:∀c,Tryz.f156.body=some c->aH E H c:=bC (by kernel_rfl) (by kernel_rfl) fun i l h=>match i,h with
  |0,h=>Option.some.inj h▸aCL
  |n+1,h=>by cases h
theorem aPy:bA Tryz.prog 156 fs:=aF bZ aZ Tryz.func156 H loops fun⟨x0,x1,()⟩ hw _=>(show bB E H Tryz.f156 fs.ps fs.rs (x0,(x1,()))=aR x0 x1 from by kernel_rfl).trans (eq x0 x1 hw)
theorem aPz:cE Tryz.prog 156 fs:=⟨aPy,_,Tryz.func156,by kernel_rfl,by kernel_rfl⟩
end bW
namespace aC
noncomputable def fs:FS:=⟨[(.ref bS .f)],[((.int .i64),.o)],fun _=>true,fun x=>(((aC x.1).1,()),((aC x.1).2,()))⟩
noncomputable def E:eI:=⟨aX,[(156,bW.fs)],[]⟩
noncomputable def H:List LC:=[]
theorem bZ:aS Tryz.prog E:=aD bW.aPz (aI gO)
theorem loops:∀c,Tryz.f136.body=some c->aH E H c:=aO (by kernel_rfl)
theorem aPy:bA Tryz.prog 136 fs:=aF bZ aZ Tryz.func136 H loops fun⟨x0,()⟩ hw _=>(show bB E H Tryz.f136 fs.ps fs.rs (x0,())=aR x0 from by kernel_rfl).trans (eq x0 hw)
theorem aPz:cE Tryz.prog 136 fs:=⟨aPy,_,Tryz.func136,by kernel_rfl,by kernel_rfl⟩
end aC
namespace iD
noncomputable def fs:FS:=⟨[(.val (.sl 5 (.int .u8)) .f),(.val (.int .i64) .f)],[(.str,.o),((.int .i64),.o),(.bool,.o)],fun _=>true,fun x=>((),((iD x.1 x.2.1).1,((iD x.1 x.2.1).2.1,((iD x.1 x.2.1).2.2,()))))⟩
noncomputable def E:eI:=⟨aX,[(156,bW.fs)],[]⟩
noncomputable def H:List LC:=[]
theorem bZ:aS Tryz.prog E:=aD bW.aPz (aI gO)
theorem loops:∀c,Tryz.f201.body=some c->aH E H c:=aO (by kernel_rfl)
theorem aPy:bA Tryz.prog 201 fs:=aF bZ aZ Tryz.func201 H loops fun⟨x0,x1,()⟩ hw _=>(show bB E H Tryz.f201 fs.ps fs.rs (x0,(x1,()))=aR x0 x1 from by kernel_rfl).trans (eq x0 x1 hw)
theorem aPz:cE Tryz.prog 201 fs:=⟨aPy,_,Tryz.func201,by kernel_rfl,by kernel_rfl⟩
end iD
namespace aV
noncomputable def fs:FS:=⟨[(.ref bS .f)],[(.str,.o)],fun _=>true,fun x=>(((aV x.1).1,()),((aV x.1).2,()))⟩
noncomputable def E:eI:=⟨aX,[(201,iD.fs)],[]⟩
noncomputable def H:List LC:=[]
theorem bZ:aS Tryz.prog E:=aD iD.aPz (aI gO)
theorem loops:∀c,Tryz.f137.body=some c->aH E H c:=aO (by kernel_rfl)
theorem aPy:bA Tryz.prog 137 fs:=aF bZ aZ Tryz.func137 H loops fun⟨x0,()⟩ hw _=>(show bB E H Tryz.f137 fs.ps fs.rs (x0,())=aR x0 from by kernel_rfl).trans (eq x0 hw)
theorem aPz:cE Tryz.prog 137 fs:=⟨aPy,_,Tryz.func137,by kernel_rfl,by kernel_rfl⟩
end aV
namespace iF
noncomputable def fs:FS:=⟨[(.val .str .f)],[(.bool,.o)],fun _=>true,fun x=>((),((iF x.1),()))⟩
noncomputable def E:eI:=⟨aX,[],[]⟩
noncomputable def qI:fG:=⟨((.one (.dat .str))::uu::uu::ui::un 31 []),[]⟩
noncomputable def eR:List fQ:=[⟨.ret,⟨0,[2],[],[]⟩,⟨(uu::uu::(.one (.dat .bool))::un 32 []),[]⟩⟩,⟨(.exit 0),⟨0,[0],[],[]⟩,⟨((.one (.dat .str))::un 34 []),[]⟩⟩]
noncomputable def L2:LC:=⟨2,⟨2,[0,3],[],[]⟩,qI,eR,pre2,fn2⟩
noncomputable def H:List LC:=[L2]
noncomputable def code(i:Nat):Code:=(bF (cA Tryz.f180)).getD i .skip
theorem jG:bM E H (code 0) L2:=⟨kY,fun⟨x1,x2,()⟩ hp=>aU (show L2.step E H (code 0) (x1,(x2,()))=cW x1 x2 from by kernel_rfl) (qO x1 x2 hp)⟩
theorem bZ:aS Tryz.prog E:=aI gO
theorem loops:∀c,Tryz.f180.body=some c->aH E H c:=bC (by kernel_rfl) (by kernel_rfl) fun i l h=>match i,h with
  |0,h=>Option.some.inj h▸jG
  |n+1,h=>by cases h
theorem aPy:bA Tryz.prog 180 fs:=aF bZ aZ Tryz.func180 H loops fun⟨x0,()⟩ hw _=>(show bB E H Tryz.f180 fs.ps fs.rs (x0,())=aR x0 from by kernel_rfl).trans (eq x0 hw)
theorem aPz:cE Tryz.prog 180 fs:=⟨aPy,_,Tryz.func180,by kernel_rfl,by kernel_rfl⟩
end iF
namespace kQ
noncomputable def fs:FS:=⟨[(.val (.pair (.int .i64) (.pair (.int .i64) (.pair (.int .i64) (.pair (.int .i64) dK)))) .f)],[(.bool,.o)],fun _=>true,fun x=>((),((kQ x.1),()))⟩
noncomputable def E:eI:=⟨aX,[(45,aB.fs),(180,iF.fs)],[]⟩
noncomputable def H:List LC:=[]
theorem bZ:aS Tryz.prog E:=aD aB.aPz (aD iF.aPz (aI gO))
theorem loops:∀c,Tryz.f105.body=some c->aH E H c:=aO (by kernel_rfl)
theorem aPy:bA Tryz.prog 105 fs:=aF bZ aZ Tryz.func105 H loops fun⟨x0,()⟩ hw _=>(show bB E H Tryz.f105 fs.ps fs.rs (x0,())=aR x0 from by kernel_rfl).trans (eq x0 hw)
theorem aPz:cE Tryz.prog 105 fs:=⟨aPy,_,Tryz.func105,by kernel_rfl,by kernel_rfl⟩
end kQ
namespace eQ
noncomputable def fs:FS:=⟨[(.ref bS .f)],[((.pair (.int .i64) (.pair (.int .i64) (.pair (.int .i64) (.pair (.int .i64) dK)))),.o)],fun _=>true,fun x=>(((eQ x.1).1,()),((eQ x.1).2,()))⟩
noncomputable def E:eI:=⟨aX,[(136,aC.fs),(137,aV.fs),(105,kQ.fs)],[]⟩
noncomputable def H:List LC:=[]
theorem bZ:aS Tryz.prog E:=aD aC.aPz (aD aV.aPz (aD kQ.aPz (aI gO)))
theorem loops:∀c,Tryz.f213.body=some c->aH E H c:=aO (by kernel_rfl)
theorem aPy:bA Tryz.prog 213 fs:=aF bZ aZ Tryz.func213 H loops fun⟨x0,()⟩ hw _=>(show bB E H Tryz.f213 fs.ps fs.rs (x0,())=aR x0 from by kernel_rfl).trans (eq x0 hw)
theorem aPz:cE Tryz.prog 213 fs:=⟨aPy,_,Tryz.func213,by kernel_rfl,by kernel_rfl⟩
end eQ
namespace fK
noncomputable def fs:FS:=⟨[(.cell 1 bS),(.ref bS .f),(.ref lU .o)],[],fun x=>fK.pre x.1 x.2.1,fun x=>(((fK x.1 x.2.1).1,((fK x.1 x.2.1).2,())),())⟩
noncomputable def we:uX:=⟨212,212,fs,[(.par 0),(.par 2)],[(.arg 0),(.of 0),(.arg 1)]⟩
noncomputable def E:eI:=⟨aX,[(136,aC.fs),(213,eQ.fs)],[]⟩
noncomputable def H:List LC:=[]
theorem bZ:aS Tryz.prog E:=aD aC.aPz (aD eQ.aPz (aI gO))
theorem loops:∀c,Tryz.f212.body=some c->aH E H c:=aO (by kernel_rfl)
theorem aPy:pU Tryz.prog 212 fs we.real:=fn_soundW bZ aZ Tryz.func212 H loops fun⟨x0,x1,()⟩ hw hp=>(show qL E H Tryz.f212 fs.ps fs.rs we.real (x0,(x1,()))=aR x0 x1 from by kernel_rfl).trans (eq x0 x1 hw hp)
theorem aPz:wF Tryz.prog we:=⟨aPy,_,Tryz.func212,by kernel_rfl,by kernel_rfl⟩
end fK
namespace fB
noncomputable def lQ:List (Nat×uN):=[(10000000,(.box bS (.dat bS))),(10000064,(.box .op (.bptr 10000000 [] bS))),(10000128,(.box lU (.pair (.dat (.int .i64)) (.pair (.dat (.int .i64)) (.pair (.dat (.int .i64)) (.pair (.dat (.int .i64)) (.pair (.arr 20000000) (.dat (.pair .str .unit))))))))),(20000000,(.arr 122 jN))]
noncomputable def fs:FS:=⟨[(.ref bS .f),(.cell 0 bS),(.ref lU .o)],[],fun x=>fB.pre x.1 x.2.1,fun x=>(((fB x.1 x.2.1).1,((fB x.1 x.2.1).2,())),())⟩
noncomputable def we:uX:=⟨129,212,fs,[(.par 0),(.clo 212 [1,2])],[(.arg 0),(.cap 1 0),(.cap 1 1)]⟩
noncomputable def E:eI:=⟨aX,[(136,aC.fs)],[fK.we]⟩
noncomputable def qI:fG:=⟨((.one (.bptr 10000000 [] bS))::(.one (.clo 212 (.pair (.bptr 10000064 [] .op) (.pair (.bptr 10000128 [] lU) .unit))))::uu::uu::ui::ui::un 16 []),lQ⟩
noncomputable def eR:List fQ:=[⟨(.exit 0),⟨0,[0,1],[],[]⟩,⟨((.one (.bptr 10000000 [] bS))::(.one (.clo 212 (.pair (.bptr 10000064 [] .op) (.pair (.bptr 10000128 [] lU) .unit))))::un 20 []),lQ⟩⟩]
noncomputable def L2:LC:=⟨2,⟨2,[0,1,4,5],[],[]⟩,qI,eR,pre2,fn2⟩
noncomputable def H:List LC:=[L2]
noncomputable def code(i:Nat):Code:=(bF (cA Tryz.f129)).getD i .skip
theorem jG:bM E H (code 0) L2:=⟨kY,fun⟨x1,x2,x3,x4,x5,x6,x7,x8,x9,()⟩ hp=>aU (show L2.step E H (code 0) (x1,(x2,(x3,(x4,(x5,(x6,(x7,(x8,(x9,())))))))))=cW x1 x2 x3 x4 x5 x6 x7 x8 x9 from by kernel_rfl) (qO x1 x2 x3 x4 x5 x6 x7 x8 x9 hp)⟩
theorem bZ:aS Tryz.prog E:=aD aC.aPz (oK fK.aPz (aI gO))
theorem loops:∀c,Tryz.f129.body=some c->aH E H c:=bC (by kernel_rfl) (by kernel_rfl) fun i l h=>match i,h with
  |0,h=>Option.some.inj h▸jG
  |n+1,h=>by cases h
theorem aPy:pU Tryz.prog 129 fs we.real:=fn_soundW bZ aZ Tryz.func129 H loops fun⟨x0,x1,()⟩ hw hp=>(show qL E H Tryz.f129 fs.ps fs.rs we.real (x0,(x1,()))=aR x0 x1 from by kernel_rfl).trans (eq x0 x1 hw hp)
theorem aPz:wF Tryz.prog we:=⟨aPy,_,Tryz.func129,by kernel_rfl,by kernel_rfl⟩
end fB
namespace cH
noncomputable def fs:FS:=⟨[(.val (.sl 122 jN) .f),(.fn jN .bool)],[((.int .i64),.o)],fun x=>cH.pre x.1 x.2.1,fun x=>((),((cH x.1 x.2.1),()))⟩
noncomputable def E:eI:=⟨aX,[],[]⟩
noncomputable def qI:fG:=⟨((.one (.dat (.sl 122 jN)))::(.one (.fn jN .bool))::un 5 (ui::ui::un 10 [])),[]⟩
noncomputable def eR:List fQ:=[⟨.ret,⟨0,[4],[],[]⟩,⟨(un 4 (ui::un 14 [])),[]⟩⟩,⟨(.exit 0),⟨0,[],[],[]⟩,⟨(un 19 []),[]⟩⟩]
noncomputable def L2:LC:=⟨2,⟨2,[0,1,7,8],[],[]⟩,qI,eR,pre2,fn2⟩
noncomputable def H:List LC:=[L2]
noncomputable def code(i:Nat):Code:=(bF (cA Tryz.f193)).getD i .skip
theorem jG:bM E H (code 0) L2:=⟨kY,fun⟨x1,x2,x3,x4,x5,()⟩ hp=>aU (show L2.step E H (code 0) (x1,(x2,(x3,(x4,(x5,())))))=cW x1 x2 x3 x4 x5 from by kernel_rfl) (qO x1 x2 x3 x4 x5 hp)⟩
theorem bZ:aS Tryz.prog E:=aI gO
theorem loops:∀c,Tryz.f193.body=some c->aH E H c:=bC (by kernel_rfl) (by kernel_rfl) fun i l h=>match i,h with
  |0,h=>Option.some.inj h▸jG
  |n+1,h=>by cases h
theorem aPy:bA Tryz.prog 193 fs:=aF bZ aZ Tryz.func193 H loops fun⟨x0,x1,()⟩ hw hp=>(show bB E H Tryz.f193 fs.ps fs.rs (x0,(x1,()))=aR x0 x1 from by kernel_rfl).trans (eq x0 x1 hw hp)
theorem aPz:cE Tryz.prog 193 fs:=⟨aPy,_,Tryz.func193,by kernel_rfl,by kernel_rfl⟩
end cH
namespace bR
noncomputable def fs:FS:=⟨[(.val (.sl 122 jN) .f),(.fn jN .bool)],[(.bool,.o)],fun x=>bR.pre x.1 x.2.1,fun x=>((),((bR x.1 x.2.1),()))⟩
noncomputable def E:eI:=⟨aX,[(193,cH.fs)],[]⟩
noncomputable def H:List LC:=[]
theorem bZ:aS Tryz.prog E:=aD cH.aPz (aI gO)
theorem loops:∀c,Tryz.f125.body=some c->aH E H c:=aO (by kernel_rfl)
theorem aPy:bA Tryz.prog 125 fs:=aF bZ aZ Tryz.func125 H loops fun⟨x0,x1,()⟩ hw hp=>(show bB E H Tryz.f125 fs.ps fs.rs (x0,(x1,()))=aR x0 x1 from by kernel_rfl).trans (eq x0 x1 hw hp)
theorem aPz:cE Tryz.prog 125 fs:=⟨aPy,_,Tryz.func125,by kernel_rfl,by kernel_rfl⟩
end bR
namespace iM
noncomputable def fs:FS:=⟨[(.val jN .f)],[(.bool,.o)],fun _=>true,fun x=>((),((iM x.1),()))⟩
noncomputable def E:eI:=⟨aX,[(45,aB.fs),(105,kQ.fs)],[]⟩
noncomputable def H:List LC:=[]
theorem bZ:aS Tryz.prog E:=aD aB.aPz (aD kQ.aPz (aI gO))
theorem loops:∀c,Tryz.f126.body=some c->aH E H c:=aO (by kernel_rfl)
theorem aPy:bA Tryz.prog 126 fs:=aF bZ aZ Tryz.func126 H loops fun⟨x0,()⟩ hw _=>(show bB E H Tryz.f126 fs.ps fs.rs (x0,())=aR x0 from by kernel_rfl).trans (eq x0 hw)
theorem aPz:cE Tryz.prog 126 fs:=⟨aPy,_,Tryz.func126,by kernel_rfl,by kernel_rfl⟩
end iM
namespace kS
noncomputable def fs:FS:=⟨[(.val lU .f)],[(.bool,.o)],fun _=>true,fun x=>((),((kS x.1),()))⟩
noncomputable def E:eI:=⟨aX,[(45,aB.fs),(125,bR.fs),(126,iM.fs)],[]⟩
noncomputable def H:List LC:=[]
theorem bZ:aS Tryz.prog E:=aD aB.aPz (aD bR.aPz (aD iM.aPz (aI gO)))
theorem loops:∀c,Tryz.f54.body=some c->aH E H c:=aO (by kernel_rfl)
theorem aPy:bA Tryz.prog 54 fs:=aF bZ aZ Tryz.func54 H loops fun⟨x0,()⟩ hw _=>(show bB E H Tryz.f54 fs.ps fs.rs (x0,())=aR x0 from by kernel_rfl).trans (eq x0 hw)
theorem aPz:cE Tryz.prog 54 fs:=⟨aPy,_,Tryz.func54,by kernel_rfl,by kernel_rfl⟩
end kS
namespace eC
noncomputable def fs:FS:=⟨[(.val (.sl 5 (.int .u8)) .f)],[(lU,.o),(.bool,.o)],fun x=>eC.pre x.1,fun x=>((),((eC x.1).1,((eC x.1).2,())))⟩
noncomputable def E:eI:=⟨aX,[(136,aC.fs),(137,aV.fs),(54,kS.fs)],[fB.we]⟩
noncomputable def H:List LC:=[]
theorem bZ:aS Tryz.prog E:=aD aC.aPz (aD aV.aPz (aD kS.aPz (oK fB.aPz (aI gO))))
theorem loops:∀c,Tryz.f157.body=some c->aH E H c:=aO (by kernel_rfl)
theorem aPy:bA Tryz.prog 157 fs:=aF bZ aZ Tryz.func157 H loops fun⟨x0,()⟩ hw hp=>(show bB E H Tryz.f157 fs.ps fs.rs (x0,())=aR x0 from by kernel_rfl).trans (eq x0 hw hp)
theorem aPz:cE Tryz.prog 157 fs:=⟨aPy,_,Tryz.func157,by kernel_rfl,by kernel_rfl⟩
end eC
namespace iN
noncomputable def fs:FS:=⟨[(.val (.int .i64) .f)],[((.sl 5 (.int .u8)),.o)],fun _=>true,fun x=>((),((iN x.1),()))⟩
noncomputable def E:eI:=⟨aX,[(45,aB.fs)],[]⟩
noncomputable def yZ:fG:=⟨(ui::uu::uu::(.one (.arr 20000000))::un 19 []),[(20000000,(.arr 5 (.int .u8)))]⟩
noncomputable def kT:List fQ:=[⟨(.exit 0),⟨0,[0,3],[(3,(5,(.int .u8)))],[]⟩,⟨(ui::uu::uu::(.one (.arr 20000000))::un 19 []),[(20000000,(.arr 5 (.int .u8)))]⟩⟩]
noncomputable def L4:LC:=⟨4,⟨4,[0,3],[(3,(5,(.int .u8)))],[]⟩,yZ,kT,pre4,fn4⟩
noncomputable def H:List LC:=[L4]
noncomputable def code(i:Nat):Code:=(bF (cA Tryz.f174)).getD i .skip
theorem oZ:bM E H (code 0) L4:=⟨qD,fun⟨x1,x2,()⟩ hp=>aU (show L4.step E H (code 0) (x1,(x2,()))=hJ x1 x2 from by kernel_rfl) (zE x1 x2 hp)⟩
theorem bZ:aS Tryz.prog E:=aD aB.aPz (aI gO)
theorem loops:∀c,Tryz.f174.body=some c->aH E H c:=bC (by kernel_rfl) (by kernel_rfl) fun i l h=>match i,h with
  |0,h=>Option.some.inj h▸oZ
  |n+1,h=>by cases h
theorem aPy:bA Tryz.prog 174 fs:=aF bZ aZ Tryz.func174 H loops fun⟨x0,()⟩ hw _=>(show bB E H Tryz.f174 fs.ps fs.rs (x0,())=aR x0 from by kernel_rfl).trans (eq x0 hw)
theorem aPz:cE Tryz.prog 174 fs:=⟨aPy,_,Tryz.func174,by kernel_rfl,by kernel_rfl⟩
end iN
namespace gB
noncomputable def fs:FS:=⟨[(.val (.sl 3 (.int .i64)) .f)],[((.sl 5 (.int .u8)),.o)],fun x=>gB.pre x.1,fun x=>((),((gB x.1),()))⟩
noncomputable def E:eI:=⟨aX,[(174,iN.fs)],[]⟩
noncomputable def sh3:fG:=⟨(uu::uu::uu::(.one (.arr 20000000))::uu::uu::(.one (.dat (.sl 3 (.int .i64))))::ui::ui::un 9 []),[(20000000,(.arr 5 (.int .u8)))]⟩
noncomputable def sX:List fQ:=[⟨(.exit 0),⟨0,[3],[(3,(5,(.int .u8)))],[]⟩,⟨(uu::uu::uu::(.one (.arr 20000000))::un 14 []),[(20000000,(.arr 5 (.int .u8)))]⟩⟩]
noncomputable def L3:LC:=⟨3,⟨3,[3,6,7,8],[(3,(5,(.int .u8)))],[]⟩,sh3,sX,pre3,fn3⟩
noncomputable def H:List LC:=[L3]
noncomputable def code(i:Nat):Code:=(bF (cA Tryz.f96)).getD i .skip
theorem zR:bM E H (code 0) L3:=⟨mu3,fun⟨x1,x2,x3,x4,()⟩ hp=>aU (show L3.step E H (code 0) (x1,(x2,(x3,(x4,()))))=pK x1 x2 x3 x4 from by kernel_rfl) (ok3 x1 x2 x3 x4 hp)⟩
theorem bZ:aS Tryz.prog E:=aD iN.aPz (aI gO)
theorem loops:∀c,Tryz.f96.body=some c->aH E H c:=bC (by kernel_rfl) (by kernel_rfl) fun i l h=>match i,h with
  |0,h=>Option.some.inj h▸zR
  |n+1,h=>by cases h
theorem aPy:bA Tryz.prog 96 fs:=aF bZ aZ Tryz.func96 H loops fun⟨x0,()⟩ hw hp=>(show bB E H Tryz.f96 fs.ps fs.rs (x0,())=aR x0 from by kernel_rfl).trans (eq x0 hw hp)
theorem aPz:cE Tryz.prog 96 fs:=⟨aPy,_,Tryz.func96,by kernel_rfl,by kernel_rfl⟩
end gB
namespace eX
noncomputable def fs:FS:=⟨[(.val .str .f)],[((.sl 5 (.int .u8)),.o)],fun x=>eX.pre x.1,fun x=>((),((eX x.1),()))⟩
noncomputable def E:eI:=⟨aX,[(174,iN.fs)],[]⟩
noncomputable def H:List LC:=[]
theorem bZ:aS Tryz.prog E:=aD iN.aPz (aI gO)
theorem loops:∀c,Tryz.f99.body=some c->aH E H c:=aO (by kernel_rfl)
theorem aPy:bA Tryz.prog 99 fs:=aF bZ aZ Tryz.func99 H loops fun⟨x0,()⟩ hw hp=>(show bB E H Tryz.f99 fs.ps fs.rs (x0,())=aR x0 from by kernel_rfl).trans (eq x0 hw hp)
theorem aPz:cE Tryz.prog 99 fs:=⟨aPy,_,Tryz.func99,by kernel_rfl,by kernel_rfl⟩
end eX
namespace dN
noncomputable def fs:FS:=⟨[(.nil 5 (.int .u8)),(.val (.int .i64) .f)],[((.sl 5 (.int .u8)),.o)],fun x=>dN.pre x.1,fun x=>((),((dN x.1),()))⟩
noncomputable def E:eI:=⟨aX,[],[]⟩
noncomputable def H:List LC:=[]
theorem bZ:aS Tryz.prog E:=aI gO
theorem loops:∀c,Tryz.f175.body=some c->aH E H c:=aO (by kernel_rfl)
theorem aPy:bA Tryz.prog 175 fs:=aF bZ aZ Tryz.func175 H loops fun⟨x0,()⟩ hw hp=>(show bB E H Tryz.f175 fs.ps fs.rs (x0,())=aR x0 from by kernel_rfl).trans (eq x0 hw hp)
theorem aPz:cE Tryz.prog 175 fs:=⟨aPy,_,Tryz.func175,by kernel_rfl,by kernel_rfl⟩
end dN
namespace aY
noncomputable def fs:FS:=⟨[(.val (.sl 24 (.sl 5 (.int .u8))) .f)],[((.sl 5 (.int .u8)),.o)],fun x=>aY.pre x.1,fun x=>((),((aY x.1),()))⟩
noncomputable def E:eI:=⟨aX,[(175,dN.fs)],[]⟩
noncomputable def sh3:fG:=⟨((.one (.dat (.sl 24 (.sl 5 (.int .u8)))))::uu::uu::ui::un 5 ((.one (.dat (.sl 24 (.sl 5 (.int .u8)))))::ui::ui::un 24 [])),[]⟩
noncomputable def sX:List fQ:=[⟨(.exit 0),⟨0,[0,3],[],[]⟩,⟨((.one (.dat (.sl 24 (.sl 5 (.int .u8)))))::uu::uu::ui::un 32 []),[]⟩⟩]
noncomputable def L3:LC:=⟨3,⟨3,[0,3,9,10,11],[],[]⟩,sh3,sX,pre3,fn3⟩
noncomputable def aNM:fG:=⟨(un 6 ((.one (.arr 20000000))::un 18 ((.one (.dat (.sl 24 (.sl 5 (.int .u8)))))::ui::ui::un 8 []))),[(20000000,(.arr 5 (.int .u8)))]⟩
noncomputable def aJ1:List fQ:=[⟨(.exit 2),⟨0,[6],[(6,(5,(.int .u8)))],[]⟩,⟨(un 6 ((.one (.arr 20000000))::un 29 [])),[(20000000,(.arr 5 (.int .u8)))]⟩⟩]
noncomputable def L11:LC:=⟨11,⟨11,[6,25,26,27],[(6,(5,(.int .u8)))],[]⟩,aNM,aJ1,pre11,fn11⟩
noncomputable def H:List LC:=[L3,L11]
noncomputable def code(i:Nat):Code:=(bF (cA Tryz.f97)).getD i .skip
theorem zR:bM E H (code 0) L3:=⟨mu3,fun⟨x1,x2,x3,x4,x5,()⟩ hp=>aU (show L3.step E H (code 0) (x1,(x2,(x3,(x4,(x5,())))))=pK x1 x2 x3 x4 x5 from by kernel_rfl) (ok3 x1 x2 x3 x4 x5 hp)⟩
theorem aLc:bM E H (code 1) L11:=⟨aKr,fun⟨x1,x2,x3,x4,()⟩ hp=>aU (show L11.step E H (code 1) (x1,(x2,(x3,(x4,()))))=aDZ x1 x2 x3 x4 from by kernel_rfl) (aO4 x1 x2 x3 x4 hp)⟩
theorem bZ:aS Tryz.prog E:=aD dN.aPz (aI gO)
theorem loops:∀c,Tryz.f97.body=some c->aH E H c:=bC (by kernel_rfl) (by kernel_rfl) fun i l h=>match i,h with
  |0,h=>Option.some.inj h▸zR
  |1,h=>Option.some.inj h▸aLc
  |n+2,h=>by cases h
theorem aPy:bA Tryz.prog 97 fs:=aF bZ aZ Tryz.func97 H loops fun⟨x0,()⟩ hw hp=>(show bB E H Tryz.f97 fs.ps fs.rs (x0,())=aR x0 from by kernel_rfl).trans (eq x0 hw hp)
theorem aPz:cE Tryz.prog 97 fs:=⟨aPy,_,Tryz.func97,by kernel_rfl,by kernel_rfl⟩
end aY
namespace lA
noncomputable def fs:FS:=⟨[(.val (.pair (.int .i64) (.pair (.int .i64) (.pair (.int .i64) (.pair (.int .i64) dK)))) .f)],[((.sl 5 (.int .u8)),.o)],fun _=>true,fun x=>((),((lA x.1),()))⟩
noncomputable def E:eI:=⟨aX,[(105,kQ.fs),(96,gB.fs),(99,eX.fs),(97,aY.fs)],[]⟩
noncomputable def H:List LC:=[]
theorem bZ:aS Tryz.prog E:=aD kQ.aPz (aD gB.aPz (aD eX.aPz (aD aY.aPz (aI gO))))
theorem loops:∀c,Tryz.f98.body=some c->aH E H c:=aO (by kernel_rfl)
theorem aPy:bA Tryz.prog 98 fs:=aF bZ aZ Tryz.func98 H loops fun⟨x0,()⟩ hw _=>(show bB E H Tryz.f98 fs.ps fs.rs (x0,())=aR x0 from by kernel_rfl).trans (eq x0 hw)
theorem aPz:cE Tryz.prog 98 fs:=⟨aPy,_,Tryz.func98,by kernel_rfl,by kernel_rfl⟩
end lA
namespace nR
noncomputable def fs:FS:=⟨[(.val (.sl 5 (.int .u8)) .f)],[((.int .i64),.o)],fun _=>true,fun x=>((),((nR x.1),()))⟩
noncomputable def E:eI:=⟨aX,[],[]⟩
noncomputable def sh3:fG:=⟨(uu::uu::uu::ui::ui::uu::uu::(.one (.dat (.sl 5 (.int .u8))))::ui::ui::un 17 []),[]⟩
noncomputable def sX:List fQ:=[⟨(.exit 0),⟨0,[3,4],[],[]⟩,⟨(uu::uu::uu::ui::ui::un 22 []),[]⟩⟩]
noncomputable def L3:LC:=⟨3,⟨3,[3,4,7,8,9],[],[]⟩,sh3,sX,pre3,fn3⟩
noncomputable def H:List LC:=[L3]
noncomputable def code(i:Nat):Code:=(bF (cA Tryz.f100)).getD i .skip
theorem zR:bM E H (code 0) L3:=⟨mu3,fun⟨x1,x2,x3,x4,x5,()⟩ hp=>aU (show L3.step E H (code 0) (x1,(x2,(x3,(x4,(x5,())))))=pK x1 x2 x3 x4 x5 from by kernel_rfl) (ok3 x1 x2 x3 x4 x5 hp)⟩
theorem bZ:aS Tryz.prog E:=aI gO
theorem loops:∀c,Tryz.f100.body=some c->aH E H c:=bC (by kernel_rfl) (by kernel_rfl) fun i l h=>match i,h with
  |0,h=>Option.some.inj h▸zR
  |n+1,h=>by cases h
theorem aPy:bA Tryz.prog 100 fs:=aF bZ aZ Tryz.func100 H loops fun⟨x0,()⟩ hw _=>(show bB E H Tryz.f100 fs.ps fs.rs (x0,())=aR x0 from by kernel_rfl).trans (eq x0 hw)
theorem aPz:cE Tryz.prog 100 fs:=⟨aPy,_,Tryz.func100,by kernel_rfl,by kernel_rfl⟩
end nR
namespace iK
noncomputable def lQ:List (Nat×uN):=[(0,(.box lU (.dat lU))),(20000000,(.arr 5 (.int .u8)))]
noncomputable def fs:FS:=⟨[(.val lU .f)],[((.sl 5 (.int .u8)),.o)],fun _=>true,fun x=>((),((iK x.1),()))⟩
noncomputable def E:eI:=⟨aX,[(54,kS.fs),(96,gB.fs),(99,eX.fs),(97,aY.fs),(98,lA.fs),(100,nR.fs)],[]⟩
noncomputable def sh5:fG:=⟨(uu::(.one (.bptr 0 [] lU))::uu::(.one (.arr 20000000))::un 21 ((.one (.dat (.sl 122 jN)))::ui::ui::un 40 [])),lQ⟩
noncomputable def zG:List fQ:=[⟨(.exit 0),⟨0,[1,3],[(3,(5,(.int .u8)))],[]⟩,⟨(uu::(.one (.bptr 0 [] lU))::uu::(.one (.arr 20000000))::un 64 []),lQ⟩⟩]
noncomputable def L5:LC:=⟨5,⟨5,[1,3,25,26,27],[(3,(5,(.int .u8)))],[]⟩,sh5,zG,pre5,fn5⟩
noncomputable def H:List LC:=[L5]
noncomputable def code(i:Nat):Code:=(bF (cA Tryz.f40)).getD i .skip
theorem aCL:bM E H (code 0) L5:=⟨mu5,fun⟨x1,x2,x3,x4,x5,()⟩ hp=>aU (show L5.step E H (code 0) (x1,(x2,(x3,(x4,(x5,())))))=tX x1 x2 x3 x4 x5 from by kernel_rfl) (ok5 x1 x2 x3 x4 x5 hp)⟩
theorem bZ:aS Tryz.prog E:=aD kS.aPz (aD gB.aPz (aD eX.aPz (aD aY.aPz (aD lA.aPz (aD nR.aPz (aI gO))))))
theorem loops:∀c,Tryz.f40.body=some c->aH E H c:=bC (by kernel_rfl) (by kernel_rfl) fun i l h=>match i,h with
  |0,h=>Option.some.inj h▸aCL
  |n+1,h=>by cases h
theorem aPy:bA Tryz.prog 40 fs:=aF bZ aZ Tryz.func40 H loops fun⟨x0,()⟩ hw _=>(show bB E H Tryz.f40 fs.ps fs.rs (x0,())=aR x0 from by kernel_rfl).trans (eq x0 hw)
theorem aPz:cE Tryz.prog 40 fs:=⟨aPy,_,Tryz.func40,by kernel_rfl,by kernel_rfl⟩
end iK
namespace gK
noncomputable def fs:FS:=⟨[(.val (.sl 5 (.int .u8)) .f),(.val (.int .i64) .f)],[(lU,.o),((.int .i64),.o),(.bool,.o)],fun x=>gK.pre x.1 x.2.1,fun x=>((),((gK x.1 x.2.1).1,((gK x.1 x.2.1).2.1,((gK x.1 x.2.1).2.2,()))))⟩
noncomputable def E:eI:=⟨aX,[(156,bW.fs),(157,eC.fs),(40,iK.fs)],[]⟩
noncomputable def H:List LC:=[]
theorem bZ:aS Tryz.prog E:=aD bW.aPz (aD eC.aPz (aD iK.aPz (aI gO)))
theorem loops:∀c,Tryz.f73.body=some c->aH E H c:=aO (by kernel_rfl)
theorem aPy:bA Tryz.prog 73 fs:=aF bZ aZ Tryz.func73 H loops fun⟨x0,x1,()⟩ hw hp=>(show bB E H Tryz.f73 fs.ps fs.rs (x0,(x1,()))=aR x0 x1 from by kernel_rfl).trans (eq x0 x1 hw hp)
theorem aPz:cE Tryz.prog 73 fs:=⟨aPy,_,Tryz.func73,by kernel_rfl,by kernel_rfl⟩
end gK
namespace kO
noncomputable def lQ:List (Nat×uN):=[(20000000,(.arr 52 lU))]
noncomputable def fs:FS:=⟨[(.val (.sl 5 (.int .u8)) .f)],[((.sl 52 lU),.o),((.int .i64),.o)],fun x=>kO.pre x.1,fun x=>((),((kO x.1).1,((kO x.1).2,())))⟩
noncomputable def E:eI:=⟨aX,[(73,gK.fs)],[]⟩
noncomputable def sh3:fG:=⟨((.one (.dat (.sl 5 (.int .u8))))::uu::uu::uu::(.one (.arr 20000000))::ui::un 19 []),lQ⟩
noncomputable def sX:List fQ:=[⟨.ret,⟨0,[2,3],[(2,(52,lU))],[]⟩,⟨(uu::uu::(.one (.arr 20000000))::ui::un 21 []),lQ⟩⟩]
noncomputable def L3:LC:=⟨3,⟨3,[0,4,5],[(4,(52,lU))],[]⟩,sh3,sX,pre3,fn3⟩
noncomputable def H:List LC:=[L3]
noncomputable def code(i:Nat):Code:=(bF (cA Tryz.f31)).getD i .skip
theorem zR:bM E H (code 0) L3:=⟨mu3,fun⟨x1,x2,x3,()⟩ hp=>aU (show L3.step E H (code 0) (x1,(x2,(x3,())))=pK x1 x2 x3 from by kernel_rfl) (ok3 x1 x2 x3 hp)⟩
theorem bZ:aS Tryz.prog E:=aD gK.aPz (aI gO)
theorem loops:∀c,Tryz.f31.body=some c->aH E H c:=bC (by kernel_rfl) (by kernel_rfl) fun i l h=>match i,h with
  |0,h=>Option.some.inj h▸zR
  |n+1,h=>by cases h
theorem aPy:bA Tryz.prog 31 fs:=aF bZ aZ Tryz.func31 H loops fun⟨x0,()⟩ hw hp=>(show bB E H Tryz.f31 fs.ps fs.rs (x0,())=aR x0 from by kernel_rfl).trans (eq x0 hw hp)
theorem aPz:cE Tryz.prog 31 fs:=⟨aPy,_,Tryz.func31,by kernel_rfl,by kernel_rfl⟩
end kO
namespace mO
noncomputable def fs:FS:=⟨[(.val iS .f)],[((.int .i64),.o),((.int .i64),.o)],fun _=>true,fun x=>((),((mO x.1).1,((mO x.1).2,())))⟩
noncomputable def E:eI:=⟨aX,[],[]⟩
noncomputable def H:List LC:=[]
theorem bZ:aS Tryz.prog E:=aI gO
theorem loops:∀c,Tryz.f44.body=some c->aH E H c:=aO (by kernel_rfl)
theorem aPy:bA Tryz.prog 44 fs:=aF bZ aZ Tryz.func44 H loops fun⟨x0,()⟩ hw _=>(show bB E H Tryz.f44 fs.ps fs.rs (x0,())=aR x0 from by kernel_rfl).trans (eq x0 hw)
theorem aPz:cE Tryz.prog 44 fs:=⟨aPy,_,Tryz.func44,by kernel_rfl,by kernel_rfl⟩
end mO
namespace mA
noncomputable def fs:FS:=⟨[(.val iS .f)],[(.bool,.o)],fun _=>true,fun x=>((),((mA x.1),()))⟩
noncomputable def E:eI:=⟨aX,[(45,aB.fs),(105,kQ.fs)],[]⟩
noncomputable def sh5:fG:=⟨(uu::uu::uu::ui::un 24 ((.one (.dat (.sl 122 jN)))::ui::ui::un 17 [])),[]⟩
noncomputable def zG:List fQ:=[⟨.ret,⟨0,[2],[],[]⟩,⟨(uu::uu::(.one (.dat .bool))::un 45 []),[]⟩⟩,⟨(.exit 0),⟨0,[],[],[]⟩,⟨(un 48 []),[]⟩⟩]
noncomputable def L5:LC:=⟨5,⟨5,[3,28,29,30],[],[]⟩,sh5,zG,pre5,fn5⟩
noncomputable def H:List LC:=[L5]
noncomputable def code(i:Nat):Code:=(bF (cA Tryz.f46)).getD i .skip
theorem aCL:bM E H (code 0) L5:=⟨mu5,fun⟨x1,x2,x3,x4,()⟩ hp=>aU (show L5.step E H (code 0) (x1,(x2,(x3,(x4,()))))=tX x1 x2 x3 x4 from by kernel_rfl) (ok5 x1 x2 x3 x4 hp)⟩
theorem bZ:aS Tryz.prog E:=aD aB.aPz (aD kQ.aPz (aI gO))
theorem loops:∀c,Tryz.f46.body=some c->aH E H c:=bC (by kernel_rfl) (by kernel_rfl) fun i l h=>match i,h with
  |0,h=>Option.some.inj h▸aCL
  |n+1,h=>by cases h
theorem aPy:bA Tryz.prog 46 fs:=aF bZ aZ Tryz.func46 H loops fun⟨x0,()⟩ hw _=>(show bB E H Tryz.f46 fs.ps fs.rs (x0,())=aR x0 from by kernel_rfl).trans (eq x0 hw)
theorem aPz:cE Tryz.prog 46 fs:=⟨aPy,_,Tryz.func46,by kernel_rfl,by kernel_rfl⟩
end mA
namespace eW
noncomputable def fs:FS:=⟨[(.val (.int .i64) .f),(.peek (.int .i64)),(.peek (.int .i64))],[(.bool,.o)],fun x=>eW.pre x.1 x.2.1 x.2.2.1,fun x=>((),((eW x.1 x.2.1 x.2.2.1),()))⟩
noncomputable def E:eI:=⟨aX,[(45,aB.fs)],[]⟩
noncomputable def H:List LC:=[]
theorem bZ:aS Tryz.prog E:=aD aB.aPz (aI gO)
theorem loops:∀c,Tryz.f182.body=some c->aH E H c:=aO (by kernel_rfl)
theorem aPy:bA Tryz.prog 182 fs:=aF bZ aZ Tryz.func182 H loops fun⟨x0,x1,x2,()⟩ hw hp=>(show bB E H Tryz.f182 fs.ps fs.rs (x0,(x1,(x2,())))=aR x0 x1 x2 from by kernel_rfl).trans (eq x0 x1 x2 hw hp)
theorem aPz:cE Tryz.prog 182 fs:=⟨aPy,_,Tryz.func182,by kernel_rfl,by kernel_rfl⟩
end eW
namespace dB
noncomputable def fs:FS:=⟨[(.val (.sl 3 (.int .i64)) .f),(.fn (.int .i64) .bool)],[((.int .i64),.o)],fun x=>dB.pre x.1 x.2.1,fun x=>((),((dB x.1 x.2.1),()))⟩
noncomputable def E:eI:=⟨aX,[],[]⟩
noncomputable def qI:fG:=⟨((.one (.dat (.sl 3 (.int .i64))))::(.one (.fn (.int .i64) .bool))::un 5 (ui::ui::un 10 [])),[]⟩
noncomputable def eR:List fQ:=[⟨.ret,⟨0,[4],[],[]⟩,⟨(un 4 (ui::un 14 [])),[]⟩⟩,⟨(.exit 0),⟨0,[],[],[]⟩,⟨(un 19 []),[]⟩⟩]
noncomputable def L2:LC:=⟨2,⟨2,[0,1,7,8],[],[]⟩,qI,eR,pre2,fn2⟩
noncomputable def H:List LC:=[L2]
noncomputable def code(i:Nat):Code:=(bF (cA Tryz.f222)).getD i .skip
theorem jG:bM E H (code 0) L2:=⟨kY,fun⟨x1,x2,x3,x4,x5,()⟩ hp=>aU (show L2.step E H (code 0) (x1,(x2,(x3,(x4,(x5,())))))=cW x1 x2 x3 x4 x5 from by kernel_rfl) (qO x1 x2 x3 x4 x5 hp)⟩
theorem bZ:aS Tryz.prog E:=aI gO
theorem loops:∀c,Tryz.f222.body=some c->aH E H c:=bC (by kernel_rfl) (by kernel_rfl) fun i l h=>match i,h with
  |0,h=>Option.some.inj h▸jG
  |n+1,h=>by cases h
theorem aPy:bA Tryz.prog 222 fs:=aF bZ aZ Tryz.func222 H loops fun⟨x0,x1,()⟩ hw hp=>(show bB E H Tryz.f222 fs.ps fs.rs (x0,(x1,()))=aR x0 x1 from by kernel_rfl).trans (eq x0 x1 hw hp)
theorem aPz:cE Tryz.prog 222 fs:=⟨aPy,_,Tryz.func222,by kernel_rfl,by kernel_rfl⟩
end dB
namespace cP
noncomputable def fs:FS:=⟨[(.val (.sl 3 (.int .i64)) .f),(.fn (.int .i64) .bool)],[(.bool,.o)],fun x=>cP.pre x.1 x.2.1,fun x=>((),((cP x.1 x.2.1),()))⟩
noncomputable def E:eI:=⟨aX,[(222,dB.fs)],[]⟩
noncomputable def H:List LC:=[]
theorem bZ:aS Tryz.prog E:=aD dB.aPz (aI gO)
theorem loops:∀c,Tryz.f181.body=some c->aH E H c:=aO (by kernel_rfl)
theorem aPy:bA Tryz.prog 181 fs:=aF bZ aZ Tryz.func181 H loops fun⟨x0,x1,()⟩ hw hp=>(show bB E H Tryz.f181 fs.ps fs.rs (x0,(x1,()))=aR x0 x1 from by kernel_rfl).trans (eq x0 x1 hw hp)
theorem aPz:cE Tryz.prog 181 fs:=⟨aPy,_,Tryz.func181,by kernel_rfl,by kernel_rfl⟩
end cP
namespace bD
noncomputable def fs:FS:=⟨[(.val (.sl 3 (.int .i64)) .f),(.val (.int .i64) .f),(.val (.int .i64) .f)],[(.bool,.o)],fun x=>bD.pre x.1 x.2.1 x.2.2.1,fun x=>((),((bD x.1 x.2.1 x.2.2.1),()))⟩
noncomputable def E:eI:=⟨aX,[(182,eW.fs),(181,cP.fs)],[]⟩
noncomputable def H:List LC:=[]
theorem bZ:aS Tryz.prog E:=aD eW.aPz (aD cP.aPz (aI gO))
theorem loops:∀c,Tryz.f106.body=some c->aH E H c:=aO (by kernel_rfl)
theorem aPy:bA Tryz.prog 106 fs:=aF bZ aZ Tryz.func106 H loops fun⟨x0,x1,x2,()⟩ hw hp=>(show bB E H Tryz.f106 fs.ps fs.rs (x0,(x1,(x2,())))=aR x0 x1 x2 from by kernel_rfl).trans (eq x0 x1 x2 hw hp)
theorem aPz:cE Tryz.prog 106 fs:=⟨aPy,_,Tryz.func106,by kernel_rfl,by kernel_rfl⟩
end bD
namespace dF
noncomputable def fs:FS:=⟨[(.val dX .f),(.val (.int .i64) .f)],[(.bool,.o)],fun x=>dF.pre x.1 x.2.1,fun x=>((),((dF x.1 x.2.1),()))⟩
noncomputable def E:eI:=⟨aX,[(45,aB.fs)],[]⟩
noncomputable def yZ:fG:=⟨(uu::uu::(.one (.bptr 0 [] dX))::un 44 ((.one (.dat (.sl 136 (.pair (.int .i64) (.pair (.int .i64) .unit)))))::ui::ui::un 39 [])),[(0,(.box dX (.dat dX)))]⟩
noncomputable def kT:List fQ:=[⟨.ret,⟨0,[4],[],[]⟩,⟨(un 4 ((.one (.dat .bool))::un 84 [])),[]⟩⟩,⟨(.exit 0),⟨0,[],[],[]⟩,⟨(un 89 []),[]⟩⟩]
noncomputable def L4:LC:=⟨4,⟨4,[2,47,48,49],[],[]⟩,yZ,kT,pre4,fn4⟩
noncomputable def H:List LC:=[L4]
noncomputable def code(i:Nat):Code:=(bF (cA Tryz.f107)).getD i .skip
theorem oZ:bM E H (code 0) L4:=⟨qD,fun⟨x1,x2,x3,x4,()⟩ hp=>aU (show L4.step E H (code 0) (x1,(x2,(x3,(x4,()))))=hJ x1 x2 x3 x4 from by kernel_rfl) (zE x1 x2 x3 x4 hp)⟩
theorem bZ:aS Tryz.prog E:=aD aB.aPz (aI gO)
theorem loops:∀c,Tryz.f107.body=some c->aH E H c:=bC (by kernel_rfl) (by kernel_rfl) fun i l h=>match i,h with
  |0,h=>Option.some.inj h▸oZ
  |n+1,h=>by cases h
theorem aPy:bA Tryz.prog 107 fs:=aF bZ aZ Tryz.func107 H loops fun⟨x0,x1,()⟩ hw hp=>(show bB E H Tryz.f107 fs.ps fs.rs (x0,(x1,()))=aR x0 x1 from by kernel_rfl).trans (eq x0 x1 hw hp)
theorem aPz:cE Tryz.prog 107 fs:=⟨aPy,_,Tryz.func107,by kernel_rfl,by kernel_rfl⟩
end dF
namespace dA
noncomputable def fs:FS:=⟨[(.val (.sl 130 dZ) .f),(.fn dZ .bool)],[((.int .i64),.o)],fun x=>dA.pre x.1 x.2.1,fun x=>((),((dA x.1 x.2.1),()))⟩
noncomputable def E:eI:=⟨aX,[],[]⟩
noncomputable def qI:fG:=⟨((.one (.dat (.sl 130 dZ)))::(.one (.fn dZ .bool))::un 5 (ui::ui::un 10 [])),[]⟩
noncomputable def eR:List fQ:=[⟨.ret,⟨0,[4],[],[]⟩,⟨(un 4 (ui::un 14 [])),[]⟩⟩,⟨(.exit 0),⟨0,[],[],[]⟩,⟨(un 19 []),[]⟩⟩]
noncomputable def L2:LC:=⟨2,⟨2,[0,1,7,8],[],[]⟩,qI,eR,pre2,fn2⟩
noncomputable def H:List LC:=[L2]
noncomputable def code(i:Nat):Code:=(bF (cA Tryz.f183)).getD i .skip
theorem jG:bM E H (code 0) L2:=⟨kY,fun⟨x1,x2,x3,x4,x5,()⟩ hp=>aU (show L2.step E H (code 0) (x1,(x2,(x3,(x4,(x5,())))))=cW x1 x2 x3 x4 x5 from by kernel_rfl) (qO x1 x2 x3 x4 x5 hp)⟩
theorem bZ:aS Tryz.prog E:=aI gO
theorem loops:∀c,Tryz.f183.body=some c->aH E H c:=bC (by kernel_rfl) (by kernel_rfl) fun i l h=>match i,h with
  |0,h=>Option.some.inj h▸jG
  |n+1,h=>by cases h
theorem aPy:bA Tryz.prog 183 fs:=aF bZ aZ Tryz.func183 H loops fun⟨x0,x1,()⟩ hw hp=>(show bB E H Tryz.f183 fs.ps fs.rs (x0,(x1,()))=aR x0 x1 from by kernel_rfl).trans (eq x0 x1 hw hp)
theorem aPz:cE Tryz.prog 183 fs:=⟨aPy,_,Tryz.func183,by kernel_rfl,by kernel_rfl⟩
end dA
namespace cQ
noncomputable def fs:FS:=⟨[(.val (.sl 130 dZ) .f),(.fn dZ .bool)],[(.bool,.o)],fun x=>cQ.pre x.1 x.2.1,fun x=>((),((cQ x.1 x.2.1),()))⟩
noncomputable def E:eI:=⟨aX,[(183,dA.fs)],[]⟩
noncomputable def H:List LC:=[]
theorem bZ:aS Tryz.prog E:=aD dA.aPz (aI gO)
theorem loops:∀c,Tryz.f108.body=some c->aH E H c:=aO (by kernel_rfl)
theorem aPy:bA Tryz.prog 108 fs:=aF bZ aZ Tryz.func108 H loops fun⟨x0,x1,()⟩ hw hp=>(show bB E H Tryz.f108 fs.ps fs.rs (x0,(x1,()))=aR x0 x1 from by kernel_rfl).trans (eq x0 x1 hw hp)
theorem aPz:cE Tryz.prog 108 fs:=⟨aPy,_,Tryz.func108,by kernel_rfl,by kernel_rfl⟩
end cQ
namespace lD
noncomputable def fs:FS:=⟨[(.val dZ .f)],[(.bool,.o)],fun x=>lD.pre x.1,fun x=>((),((lD x.1),()))⟩
noncomputable def E:eI:=⟨aX,[(45,aB.fs),(180,iF.fs)],[]⟩
noncomputable def yZ:fG:=⟨(uu::(.one (.bptr 0 [] dZ))::un 21 ((.one (.dat (.sl 195 pM)))::ui::ui::un 54 [])),[(0,(.box dZ (.dat dZ)))]⟩
noncomputable def kT:List fQ:=[⟨.ret,⟨0,[2],[],[]⟩,⟨(uu::uu::(.one (.dat .bool))::un 77 []),[]⟩⟩,⟨(.exit 0),⟨0,[],[],[]⟩,⟨(un 80 []),[]⟩⟩]
noncomputable def L4:LC:=⟨4,⟨4,[1,23,24,25],[],[]⟩,yZ,kT,pre4,fn4⟩
noncomputable def H:List LC:=[L4]
noncomputable def code(i:Nat):Code:=(bF (cA Tryz.f110)).getD i .skip
theorem oZ:bM E H (code 0) L4:=⟨qD,fun⟨x1,x2,x3,x4,()⟩ hp=>aU (show L4.step E H (code 0) (x1,(x2,(x3,(x4,()))))=hJ x1 x2 x3 x4 from by kernel_rfl) (zE x1 x2 x3 x4 hp)⟩
theorem bZ:aS Tryz.prog E:=aD aB.aPz (aD iF.aPz (aI gO))
theorem loops:∀c,Tryz.f110.body=some c->aH E H c:=bC (by kernel_rfl) (by kernel_rfl) fun i l h=>match i,h with
  |0,h=>Option.some.inj h▸oZ
  |n+1,h=>by cases h
theorem aPy:bA Tryz.prog 110 fs:=aF bZ aZ Tryz.func110 H loops fun⟨x0,()⟩ hw hp=>(show bB E H Tryz.f110 fs.ps fs.rs (x0,())=aR x0 from by kernel_rfl).trans (eq x0 hw hp)
theorem aPz:cE Tryz.prog 110 fs:=⟨aPy,_,Tryz.func110,by kernel_rfl,by kernel_rfl⟩
end lD
namespace fL
noncomputable def fs:FS:=⟨[(.val dZ .f)],[(.bool,.o)],fun x=>fL.pre x.1,fun x=>((),((fL x.1),()))⟩
noncomputable def E:eI:=⟨aX,[(110,lD.fs)],[]⟩
noncomputable def H:List LC:=[]
theorem bZ:aS Tryz.prog E:=aD lD.aPz (aI gO)
theorem loops:∀c,Tryz.f109.body=some c->aH E H c:=aO (by kernel_rfl)
theorem aPy:bA Tryz.prog 109 fs:=aF bZ aZ Tryz.func109 H loops fun⟨x0,()⟩ hw hp=>(show bB E H Tryz.f109 fs.ps fs.rs (x0,())=aR x0 from by kernel_rfl).trans (eq x0 hw hp)
theorem aPz:cE Tryz.prog 109 fs:=⟨aPy,_,Tryz.func109,by kernel_rfl,by kernel_rfl⟩
end fL
namespace gL
noncomputable def fs:FS:=⟨[(.val (.int .i64) .f)],[(.bool,.o)],fun x=>gL.pre x.1,fun x=>((),((gL x.1),()))⟩
noncomputable def E:eI:=⟨aX,[(45,aB.fs)],[]⟩
noncomputable def H:List LC:=[]
theorem bZ:aS Tryz.prog E:=aD aB.aPz (aI gO)
theorem loops:∀c,Tryz.f185.body=some c->aH E H c:=aO (by kernel_rfl)
theorem aPy:bA Tryz.prog 185 fs:=aF bZ aZ Tryz.func185 H loops fun⟨x0,()⟩ hw hp=>(show bB E H Tryz.f185 fs.ps fs.rs (x0,())=aR x0 from by kernel_rfl).trans (eq x0 hw hp)
theorem aPz:cE Tryz.prog 185 fs:=⟨aPy,_,Tryz.func185,by kernel_rfl,by kernel_rfl⟩
end gL
namespace iZ
noncomputable def lQ:List (Nat×uN):=[(0,(.box cV (.dat cV)))]
noncomputable def fs:FS:=⟨[(.val cV .f),(.val (.int .i64) .f)],[(.bool,.o)],fun x=>iZ.pre x.1 x.2.1,fun x=>((),((iZ x.1 x.2.1),()))⟩
noncomputable def E:eI:=⟨aX,[(45,aB.fs),(106,bD.fs),(185,gL.fs)],[]⟩
noncomputable def qI:fG:=⟨(uu::ui::(.one (.bptr 0 [] cV))::un 5 ((.one (.dat (.sl 3 (.int .i64))))::ui::ui::un 51 [])),lQ⟩
noncomputable def eR:List fQ:=[⟨.ret,⟨0,[4],[],[]⟩,⟨(un 4 ((.one (.dat .bool))::un 57 [])),[]⟩⟩,⟨(.exit 0),⟨0,[1,2],[],[]⟩,⟨(uu::ui::(.one (.bptr 0 [] cV))::un 59 []),lQ⟩⟩]
noncomputable def L2:LC:=⟨2,⟨2,[1,2,8,9,10],[],[]⟩,qI,eR,pre2,fn2⟩
noncomputable def H:List LC:=[L2]
noncomputable def code(i:Nat):Code:=(bF (cA Tryz.f113)).getD i .skip
theorem jG:bM E H (code 0) L2:=⟨kY,fun⟨x1,x2,x3,x4,x5,()⟩ hp=>aU (show L2.step E H (code 0) (x1,(x2,(x3,(x4,(x5,())))))=cW x1 x2 x3 x4 x5 from by kernel_rfl) (qO x1 x2 x3 x4 x5 hp)⟩
theorem bZ:aS Tryz.prog E:=aD aB.aPz (aD bD.aPz (aD gL.aPz (aI gO)))
theorem loops:∀c,Tryz.f113.body=some c->aH E H c:=bC (by kernel_rfl) (by kernel_rfl) fun i l h=>match i,h with
  |0,h=>Option.some.inj h▸jG
  |n+1,h=>by cases h
theorem aPy:bA Tryz.prog 113 fs:=aF bZ aZ Tryz.func113 H loops fun⟨x0,x1,()⟩ hw hp=>(show bB E H Tryz.f113 fs.ps fs.rs (x0,(x1,()))=aR x0 x1 from by kernel_rfl).trans (eq x0 x1 hw hp)
theorem aPz:cE Tryz.prog 113 fs:=⟨aPy,_,Tryz.func113,by kernel_rfl,by kernel_rfl⟩
end iZ
namespace fM
noncomputable def fs:FS:=⟨[(.val cV .f),(.peek gA)],[(.bool,.o)],fun x=>fM.pre x.1 x.2.1,fun x=>((),((fM x.1 x.2.1),()))⟩
noncomputable def E:eI:=⟨aX,[(113,iZ.fs)],[]⟩
noncomputable def H:List LC:=[]
theorem bZ:aS Tryz.prog E:=aD iZ.aPz (aI gO)
theorem loops:∀c,Tryz.f112.body=some c->aH E H c:=aO (by kernel_rfl)
theorem aPy:bA Tryz.prog 112 fs:=aF bZ aZ Tryz.func112 H loops fun⟨x0,x1,()⟩ hw hp=>(show bB E H Tryz.f112 fs.ps fs.rs (x0,(x1,()))=aR x0 x1 from by kernel_rfl).trans (eq x0 x1 hw hp)
theorem aPz:cE Tryz.prog 112 fs:=⟨aPy,_,Tryz.func112,by kernel_rfl,by kernel_rfl⟩
end fM
namespace cN
noncomputable def fs:FS:=⟨[(.val (.sl 95 cV) .f),(.fn cV .bool)],[((.int .i64),.o)],fun x=>cN.pre x.1 x.2.1,fun x=>((),((cN x.1 x.2.1),()))⟩
noncomputable def E:eI:=⟨aX,[],[]⟩
noncomputable def qI:fG:=⟨((.one (.dat (.sl 95 cV)))::(.one (.fn cV .bool))::un 5 (ui::ui::un 10 [])),[]⟩
noncomputable def eR:List fQ:=[⟨.ret,⟨0,[4],[],[]⟩,⟨(un 4 (ui::un 14 [])),[]⟩⟩,⟨(.exit 0),⟨0,[],[],[]⟩,⟨(un 19 []),[]⟩⟩]
noncomputable def L2:LC:=⟨2,⟨2,[0,1,7,8],[],[]⟩,qI,eR,pre2,fn2⟩
noncomputable def H:List LC:=[L2]
noncomputable def code(i:Nat):Code:=(bF (cA Tryz.f184)).getD i .skip
theorem jG:bM E H (code 0) L2:=⟨kY,fun⟨x1,x2,x3,x4,x5,()⟩ hp=>aU (show L2.step E H (code 0) (x1,(x2,(x3,(x4,(x5,())))))=cW x1 x2 x3 x4 x5 from by kernel_rfl) (qO x1 x2 x3 x4 x5 hp)⟩
theorem bZ:aS Tryz.prog E:=aI gO
theorem loops:∀c,Tryz.f184.body=some c->aH E H c:=bC (by kernel_rfl) (by kernel_rfl) fun i l h=>match i,h with
  |0,h=>Option.some.inj h▸jG
  |n+1,h=>by cases h
theorem aPy:bA Tryz.prog 184 fs:=aF bZ aZ Tryz.func184 H loops fun⟨x0,x1,()⟩ hw hp=>(show bB E H Tryz.f184 fs.ps fs.rs (x0,(x1,()))=aR x0 x1 from by kernel_rfl).trans (eq x0 x1 hw hp)
theorem aPz:cE Tryz.prog 184 fs:=⟨aPy,_,Tryz.func184,by kernel_rfl,by kernel_rfl⟩
end cN
namespace cF
noncomputable def fs:FS:=⟨[(.val (.sl 95 cV) .f),(.fn cV .bool)],[(.bool,.o)],fun x=>cF.pre x.1 x.2.1,fun x=>((),((cF x.1 x.2.1),()))⟩
noncomputable def E:eI:=⟨aX,[(184,cN.fs)],[]⟩
noncomputable def H:List LC:=[]
theorem bZ:aS Tryz.prog E:=aD cN.aPz (aI gO)
theorem loops:∀c,Tryz.f111.body=some c->aH E H c:=aO (by kernel_rfl)
theorem aPy:bA Tryz.prog 111 fs:=aF bZ aZ Tryz.func111 H loops fun⟨x0,x1,()⟩ hw hp=>(show bB E H Tryz.f111 fs.ps fs.rs (x0,(x1,()))=aR x0 x1 from by kernel_rfl).trans (eq x0 x1 hw hp)
theorem aPz:cE Tryz.prog 111 fs:=⟨aPy,_,Tryz.func111,by kernel_rfl,by kernel_rfl⟩
end cF
namespace cJ
noncomputable def fs:FS:=⟨[(.val (.sl 138 dK) .f),(.fn dK .bool)],[((.int .i64),.o)],fun x=>cJ.pre x.1 x.2.1,fun x=>((),((cJ x.1 x.2.1),()))⟩
noncomputable def E:eI:=⟨aX,[],[]⟩
noncomputable def qI:fG:=⟨((.one (.dat (.sl 138 dK)))::(.one (.fn dK .bool))::un 5 (ui::ui::un 10 [])),[]⟩
noncomputable def eR:List fQ:=[⟨.ret,⟨0,[4],[],[]⟩,⟨(un 4 (ui::un 14 [])),[]⟩⟩,⟨(.exit 0),⟨0,[],[],[]⟩,⟨(un 19 []),[]⟩⟩]
noncomputable def L2:LC:=⟨2,⟨2,[0,1,7,8],[],[]⟩,qI,eR,pre2,fn2⟩
noncomputable def H:List LC:=[L2]
noncomputable def code(i:Nat):Code:=(bF (cA Tryz.f186)).getD i .skip
theorem jG:bM E H (code 0) L2:=⟨kY,fun⟨x1,x2,x3,x4,x5,()⟩ hp=>aU (show L2.step E H (code 0) (x1,(x2,(x3,(x4,(x5,())))))=cW x1 x2 x3 x4 x5 from by kernel_rfl) (qO x1 x2 x3 x4 x5 hp)⟩
theorem bZ:aS Tryz.prog E:=aI gO
theorem loops:∀c,Tryz.f186.body=some c->aH E H c:=bC (by kernel_rfl) (by kernel_rfl) fun i l h=>match i,h with
  |0,h=>Option.some.inj h▸jG
  |n+1,h=>by cases h
theorem aPy:bA Tryz.prog 186 fs:=aF bZ aZ Tryz.func186 H loops fun⟨x0,x1,()⟩ hw hp=>(show bB E H Tryz.f186 fs.ps fs.rs (x0,(x1,()))=aR x0 x1 from by kernel_rfl).trans (eq x0 x1 hw hp)
theorem aPz:cE Tryz.prog 186 fs:=⟨aPy,_,Tryz.func186,by kernel_rfl,by kernel_rfl⟩
end cJ
namespace bT
noncomputable def fs:FS:=⟨[(.val (.sl 138 dK) .f),(.fn dK .bool)],[(.bool,.o)],fun x=>bT.pre x.1 x.2.1,fun x=>((),((bT x.1 x.2.1),()))⟩
noncomputable def E:eI:=⟨aX,[(186,cJ.fs)],[]⟩
noncomputable def H:List LC:=[]
theorem bZ:aS Tryz.prog E:=aD cJ.aPz (aI gO)
theorem loops:∀c,Tryz.f114.body=some c->aH E H c:=aO (by kernel_rfl)
theorem aPy:bA Tryz.prog 114 fs:=aF bZ aZ Tryz.func114 H loops fun⟨x0,x1,()⟩ hw hp=>(show bB E H Tryz.f114 fs.ps fs.rs (x0,(x1,()))=aR x0 x1 from by kernel_rfl).trans (eq x0 x1 hw hp)
theorem aPz:cE Tryz.prog 114 fs:=⟨aPy,_,Tryz.func114,by kernel_rfl,by kernel_rfl⟩
end bT
namespace jI
noncomputable def fs:FS:=⟨[(.val dK .f)],[(.bool,.o)],fun x=>jI.pre x.1,fun x=>((),((jI x.1),()))⟩
noncomputable def E:eI:=⟨aX,[(45,aB.fs),(180,iF.fs)],[]⟩
noncomputable def H:List LC:=[]
theorem bZ:aS Tryz.prog E:=aD aB.aPz (aD iF.aPz (aI gO))
theorem loops:∀c,Tryz.f116.body=some c->aH E H c:=aO (by kernel_rfl)
theorem aPy:bA Tryz.prog 116 fs:=aF bZ aZ Tryz.func116 H loops fun⟨x0,()⟩ hw hp=>(show bB E H Tryz.f116 fs.ps fs.rs (x0,())=aR x0 from by kernel_rfl).trans (eq x0 hw hp)
theorem aPz:cE Tryz.prog 116 fs:=⟨aPy,_,Tryz.func116,by kernel_rfl,by kernel_rfl⟩
end jI
namespace fD
noncomputable def fs:FS:=⟨[(.val dK .f)],[(.bool,.o)],fun x=>fD.pre x.1,fun x=>((),((fD x.1),()))⟩
noncomputable def E:eI:=⟨aX,[(116,jI.fs)],[]⟩
noncomputable def H:List LC:=[]
theorem bZ:aS Tryz.prog E:=aD jI.aPz (aI gO)
theorem loops:∀c,Tryz.f115.body=some c->aH E H c:=aO (by kernel_rfl)
theorem aPy:bA Tryz.prog 115 fs:=aF bZ aZ Tryz.func115 H loops fun⟨x0,()⟩ hw hp=>(show bB E H Tryz.f115 fs.ps fs.rs (x0,())=aR x0 from by kernel_rfl).trans (eq x0 hw hp)
theorem aPz:cE Tryz.prog 115 fs:=⟨aPy,_,Tryz.func115,by kernel_rfl,by kernel_rfl⟩
end fD
namespace dO
noncomputable def lQ:List (Nat×uN):=[(0,(.box gA (.dat gA))),(32,(.box bU (.dat bU)))]
noncomputable def fs:FS:=⟨[(.val gA .f),(.val bU .f)],[(.bool,.o)],fun x=>dO.pre x.1 x.2.1,fun x=>((),((dO x.1 x.2.1),()))⟩
noncomputable def E:eI:=⟨aX,[(45,aB.fs),(67,iC.fs),(106,bD.fs),(107,dF.fs),(108,cQ.fs),(109,fL.fs),(112,fM.fs),(111,cF.fs),(114,bT.fs),(115,fD.fs)],[]⟩
noncomputable def yZ:fG:=⟨(uu::uu::(.one (.bptr 0 [] gA))::(.one (.bptr 32 [] bU))::un 48 ((.one (.dat (.sl 134 dX)))::ui::ui::un 75 [])),lQ⟩
noncomputable def kT:List fQ:=[⟨.ret,⟨0,[4],[],[]⟩,⟨(un 4 ((.one (.dat .bool))::un 125 [])),[]⟩⟩,⟨(.exit 0),⟨0,[2,3],[],[]⟩,⟨(uu::uu::(.one (.bptr 0 [] gA))::(.one (.bptr 32 [] bU))::un 126 []),lQ⟩⟩]
noncomputable def L4:LC:=⟨4,⟨4,[2,3,52,53,54],[],[]⟩,yZ,kT,pre4,fn4⟩
noncomputable def H:List LC:=[L4]
noncomputable def code(i:Nat):Code:=(bF (cA Tryz.f47)).getD i .skip
theorem oZ:bM E H (code 0) L4:=⟨qD,fun⟨x1,x2,x3,x4,x5,()⟩ hp=>aU (show L4.step E H (code 0) (x1,(x2,(x3,(x4,(x5,())))))=hJ x1 x2 x3 x4 x5 from by kernel_rfl) (zE x1 x2 x3 x4 x5 hp)⟩
theorem bZ:aS Tryz.prog E:=aD aB.aPz (aD iC.aPz (aD bD.aPz (aD dF.aPz (aD cQ.aPz (aD fL.aPz (aD fM.aPz (aD cF.aPz (aD bT.aPz (aD fD.aPz (aI gO))))))))))
theorem loops:∀c,Tryz.f47.body=some c->aH E H c:=bC (by kernel_rfl) (by kernel_rfl) fun i l h=>match i,h with
  |0,h=>Option.some.inj h▸oZ
  |n+1,h=>by cases h
theorem aPy:bA Tryz.prog 47 fs:=aF bZ aZ Tryz.func47 H loops fun⟨x0,x1,()⟩ hw hp=>(show bB E H Tryz.f47 fs.ps fs.rs (x0,(x1,()))=aR x0 x1 from by kernel_rfl).trans (eq x0 x1 hw hp)
theorem aPz:cE Tryz.prog 47 fs:=⟨aPy,_,Tryz.func47,by kernel_rfl,by kernel_rfl⟩
end dO
namespace cM
noncomputable def fs:FS:=⟨[(.val gA .f),(.val iI .f)],[(.bool,.o)],fun x=>cM.pre x.1 x.2.1,fun x=>((),((cM x.1 x.2.1),()))⟩
noncomputable def E:eI:=⟨aX,[(45,aB.fs),(44,mO.fs),(46,mA.fs),(47,dO.fs)],[]⟩
noncomputable def H:List LC:=[]
theorem bZ:aS Tryz.prog E:=aD aB.aPz (aD mO.aPz (aD mA.aPz (aD dO.aPz (aI gO))))
theorem loops:∀c,Tryz.f18.body=some c->aH E H c:=aO (by kernel_rfl)
theorem aPy:bA Tryz.prog 18 fs:=aF bZ aZ Tryz.func18 H loops fun⟨x0,x1,()⟩ hw hp=>(show bB E H Tryz.f18 fs.ps fs.rs (x0,(x1,()))=aR x0 x1 from by kernel_rfl).trans (eq x0 x1 hw hp)
theorem aPz:cE Tryz.prog 18 fs:=⟨aPy,_,Tryz.func18,by kernel_rfl,by kernel_rfl⟩
end cM
namespace aN
noncomputable def fs:FS:=⟨[(.val iS .f)],[(iS,.o)],fun x=>aN.pre x.1,fun x=>((),((aN x.1),()))⟩
noncomputable def E:eI:=⟨aX,[],[]⟩
noncomputable def H:List LC:=[]
theorem bZ:aS Tryz.prog E:=aI gO
theorem loops:∀c,Tryz.f127.body=some c->aH E H c:=aO (by kernel_rfl)
theorem aPy:bA Tryz.prog 127 fs:=aF bZ aZ Tryz.func127 H loops fun⟨x0,()⟩ hw hp=>(show bB E H Tryz.f127 fs.ps fs.rs (x0,())=aR x0 from by kernel_rfl).trans (eq x0 hw hp)
theorem aPz:cE Tryz.prog 127 fs:=⟨aPy,_,Tryz.func127,by kernel_rfl,by kernel_rfl⟩
end aN
namespace iX
noncomputable def fs:FS:=⟨[(.val dZ .f)],[(dZ,.o)],fun x=>iX.pre x.1,fun x=>((),((iX x.1),()))⟩
noncomputable def E:eI:=⟨aX,[],[]⟩
noncomputable def H:List LC:=[]
theorem bZ:aS Tryz.prog E:=aI gO
theorem loops:∀c,Tryz.f194.body=some c->aH E H c:=aO (by kernel_rfl)
theorem aPy:bA Tryz.prog 194 fs:=aF bZ aZ Tryz.func194 H loops fun⟨x0,()⟩ hw hp=>(show bB E H Tryz.f194 fs.ps fs.rs (x0,())=aR x0 from by kernel_rfl).trans (eq x0 hw hp)
theorem aPz:cE Tryz.prog 194 fs:=⟨aPy,_,Tryz.func194,by kernel_rfl,by kernel_rfl⟩
end iX
namespace eD
noncomputable def fs:FS:=⟨[(.val (.sl 3 (.int .i64)) .f)],[((.sl 3 (.int .i64)),.o)],fun x=>eD.pre x.1,fun x=>((),((eD x.1),()))⟩
noncomputable def E:eI:=⟨aX,[],[]⟩
noncomputable def H:List LC:=[]
theorem bZ:aS Tryz.prog E:=aI gO
theorem loops:∀c,Tryz.f197.body=some c->aH E H c:=aO (by kernel_rfl)
theorem aPy:bA Tryz.prog 197 fs:=aF bZ aZ Tryz.func197 H loops fun⟨x0,()⟩ hw hp=>(show bB E H Tryz.f197 fs.ps fs.rs (x0,())=aR x0 from by kernel_rfl).trans (eq x0 hw hp)
theorem aPz:cE Tryz.prog 197 fs:=⟨aPy,_,Tryz.func197,by kernel_rfl,by kernel_rfl⟩
end eD
namespace gD
noncomputable def fs:FS:=⟨[(.val cV .f)],[(cV,.o)],fun x=>gD.pre x.1,fun x=>((),((gD x.1),()))⟩
noncomputable def E:eI:=⟨aX,[(197,eD.fs)],[]⟩
noncomputable def H:List LC:=[]
theorem bZ:aS Tryz.prog E:=aD eD.aPz (aI gO)
theorem loops:∀c,Tryz.f195.body=some c->aH E H c:=aO (by kernel_rfl)
theorem aPy:bA Tryz.prog 195 fs:=aF bZ aZ Tryz.func195 H loops fun⟨x0,()⟩ hw hp=>(show bB E H Tryz.f195 fs.ps fs.rs (x0,())=aR x0 from by kernel_rfl).trans (eq x0 hw hp)
theorem aPz:cE Tryz.prog 195 fs:=⟨aPy,_,Tryz.func195,by kernel_rfl,by kernel_rfl⟩
end gD
namespace fS
noncomputable def fs:FS:=⟨[(.val dX .f)],[(dX,.o)],fun x=>fS.pre x.1,fun x=>((),((fS x.1),()))⟩
noncomputable def E:eI:=⟨aX,[],[]⟩
noncomputable def H:List LC:=[]
theorem bZ:aS Tryz.prog E:=aI gO
theorem loops:∀c,Tryz.f224.body=some c->aH E H c:=aO (by kernel_rfl)
theorem aPy:bA Tryz.prog 224 fs:=aF bZ aZ Tryz.func224 H loops fun⟨x0,()⟩ hw hp=>(show bB E H Tryz.f224 fs.ps fs.rs (x0,())=aR x0 from by kernel_rfl).trans (eq x0 hw hp)
theorem aPz:cE Tryz.prog 224 fs:=⟨aPy,_,Tryz.func224,by kernel_rfl,by kernel_rfl⟩
end fS
namespace fF
noncomputable def lQ:List (Nat×uN):=[(20000000,(.arr 134 dX))]
noncomputable def fs:FS:=⟨[(.val (.sl 134 dX) .f)],[((.sl 134 dX),.o)],fun x=>fF.pre x.1,fun x=>((),((fF x.1),()))⟩
noncomputable def E:eI:=⟨aX,[(224,fS.fs)],[]⟩
noncomputable def sh3:fG:=⟨(uu::uu::uu::(.one (.arr 20000000))::uu::uu::(.one (.dat (.sl 134 dX)))::ui::ui::un 10 []),lQ⟩
noncomputable def sX:List fQ:=[⟨(.exit 0),⟨0,[3],[(3,(134,dX))],[]⟩,⟨(uu::uu::uu::(.one (.arr 20000000))::un 15 []),lQ⟩⟩]
noncomputable def L3:LC:=⟨3,⟨3,[3,6,7,8],[(3,(134,dX))],[]⟩,sh3,sX,pre3,fn3⟩
noncomputable def H:List LC:=[L3]
noncomputable def code(i:Nat):Code:=(bF (cA Tryz.f196)).getD i .skip
theorem zR:bM E H (code 0) L3:=⟨mu3,fun⟨x1,x2,x3,x4,()⟩ hp=>aU (show L3.step E H (code 0) (x1,(x2,(x3,(x4,()))))=pK x1 x2 x3 x4 from by kernel_rfl) (ok3 x1 x2 x3 x4 hp)⟩
theorem bZ:aS Tryz.prog E:=aD fS.aPz (aI gO)
theorem loops:∀c,Tryz.f196.body=some c->aH E H c:=bC (by kernel_rfl) (by kernel_rfl) fun i l h=>match i,h with
  |0,h=>Option.some.inj h▸zR
  |n+1,h=>by cases h
theorem aPy:bA Tryz.prog 196 fs:=aF bZ aZ Tryz.func196 H loops fun⟨x0,()⟩ hw hp=>(show bB E H Tryz.f196 fs.ps fs.rs (x0,())=aR x0 from by kernel_rfl).trans (eq x0 hw hp)
theorem aPz:cE Tryz.prog 196 fs:=⟨aPy,_,Tryz.func196,by kernel_rfl,by kernel_rfl⟩
end fF
namespace fY
noncomputable def lQ:List (Nat×uN):=[(0,(.box bU (.pair (.arr 20000000) (.pair (.dat (.sl 134 dX)) (.pair (.arr 20000001) (.dat (.pair (.int .i64) (.pair (.sl 3 (.int .i64)) (.pair (.sl 138 dK) .unit))))))))),(20000000,(.arr 130 dZ)),(20000001,(.arr 95 cV)),(32,(.box bU (.pair (.arr 20000002) (.pair (.arr 20000003) (.pair (.arr 20000004) (.pair (.dat (.int .i64)) (.pair (.arr 20000005) (.pair (.arr 20000006) (.dat .unit))))))))),(20000002,(.arr 130 dZ)),(20000003,(.arr 134 dX)),(20000004,(.arr 95 cV)),(20000005,(.arr 3 (.int .i64))),(20000006,(.arr 138 dK))]
noncomputable def fs:FS:=⟨[(.val bU .f)],[(bU,.o)],fun x=>fY.pre x.1,fun x=>((),((fY x.1),()))⟩
noncomputable def E:eI:=⟨aX,[(194,iX.fs),(197,eD.fs),(195,gD.fs),(196,fF.fs)],[]⟩
noncomputable def yZ:fG:=⟨(uu::(.one (.bptr 0 [] bU))::(.one (.bptr 32 [] bU))::uu::(.one (.dat (.sl 95 cV)))::un 10 ((.one (.dat (.sl 130 dZ)))::ui::ui::un 38 [])),lQ⟩
noncomputable def kT:List fQ:=[⟨(.exit 0),⟨0,[1,2,4],[],[]⟩,⟨(uu::(.one (.bptr 0 [] bU))::(.one (.bptr 32 [] bU))::uu::(.one (.dat (.sl 95 cV)))::un 51 []),lQ⟩⟩]
noncomputable def L4:LC:=⟨4,⟨4,[1,2,4,15,16,17],[],[]⟩,yZ,kT,pre4,fn4⟩
noncomputable def sh9:fG:=⟨(uu::(.one (.bptr 0 [] bU))::(.one (.bptr 32 [] bU))::un 26 ((.one (.dat (.sl 95 cV)))::ui::ui::un 24 [])),lQ⟩
noncomputable def aI8:List fQ:=[⟨(.exit 2),⟨0,[1,2],[],[]⟩,⟨(uu::(.one (.bptr 0 [] bU))::(.one (.bptr 32 [] bU))::un 53 []),lQ⟩⟩]
noncomputable def L9:LC:=⟨9,⟨9,[1,2,29,30,31],[],[]⟩,sh9,aI8,pre9,fn9⟩
noncomputable def H:List LC:=[L4,L9]
noncomputable def code(i:Nat):Code:=(bF (cA Tryz.f128)).getD i .skip
theorem oZ:bM E H (code 0) L4:=⟨qD,fun⟨x1,x2,x3,x4,x5,x6,x7,x8,x9,x10,x11,x12,x13,x14,x15,()⟩ hp=>aU (show L4.step E H (code 0) (x1,(x2,(x3,(x4,(x5,(x6,(x7,(x8,(x9,(x10,(x11,(x12,(x13,(x14,(x15,())))))))))))))))=hJ x1 x2 x3 x4 x5 x6 x7 x8 x9 x10 x11 x12 x13 x14 x15 from by kernel_rfl) (zE x1 x2 x3 x4 x5 x6 x7 x8 x9 x10 x11 x12 x13 x14 x15 hp)⟩
theorem aLl:bM E H (code 1) L9:=⟨mu9,fun⟨x1,x2,x3,x4,x5,x6,x7,x8,x9,x10,x11,x12,x13,x14,()⟩ hp=>aU (show L9.step E H (code 1) (x1,(x2,(x3,(x4,(x5,(x6,(x7,(x8,(x9,(x10,(x11,(x12,(x13,(x14,()))))))))))))))=aEd x1 x2 x3 x4 x5 x6 x7 x8 x9 x10 x11 x12 x13 x14 from by kernel_rfl) (ok9 x1 x2 x3 x4 x5 x6 x7 x8 x9 x10 x11 x12 x13 x14 hp)⟩
theorem bZ:aS Tryz.prog E:=aD iX.aPz (aD eD.aPz (aD gD.aPz (aD fF.aPz (aI gO))))
theorem loops:∀c,Tryz.f128.body=some c->aH E H c:=bC (by kernel_rfl) (by kernel_rfl) fun i l h=>match i,h with
  |0,h=>Option.some.inj h▸oZ
  |1,h=>Option.some.inj h▸aLl
  |n+2,h=>by cases h
theorem aPy:bA Tryz.prog 128 fs:=aF bZ aZ Tryz.func128 H loops fun⟨x0,()⟩ hw hp=>(show bB E H Tryz.f128 fs.ps fs.rs (x0,())=aR x0 from by kernel_rfl).trans (eq x0 hw hp)
theorem aPz:cE Tryz.prog 128 fs:=⟨aPy,_,Tryz.func128,by kernel_rfl,by kernel_rfl⟩
end fY
end
end Go.Aw.Pl
