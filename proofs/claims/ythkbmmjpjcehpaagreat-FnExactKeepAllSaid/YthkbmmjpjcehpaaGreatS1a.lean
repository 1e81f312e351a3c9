/-
  These laws hold: FnExactKeepAll: each answers true for every input, and nothing of its arguments is changed. Conditions: those of the given statements alone.
  Printed by a program of the proof's author: what each function does, by the plain machine (the texts Aw.. and Ax..), and the rows at the end.
-/
import Derived.Test.YthkbmmjpjcehpaaGreatRows
import Derived.JoinedOf
import Derived.Test.YthkbmmjpjcehpaaGreatPkc
import Derived.Test.YthkbmmjpjcehpaaGreatAxN
namespace Go.Aw.Pl
open Go Go.Aw Go.Proofs
set_option linter.unusedVariables false
set_option maxRecDepth 20000
set_option maxHeartbeats 2000000
noncomputable section
noncomputable abbrev uu:ShS:=.one .undef
noncomputable abbrev ui:ShS:=.one (.dat (.int .i64))
noncomputable def un:Nat->List ShS->List ShS
  |0,l=>l
  |n+1,l=>uu::un n l
abbrev cJ:Ty:=.pair (.int .i64) (.pair (.int .i64) (.pair (.int .i64) (.pair (.int .i64) (.pair (.sl 118 (.pair (.int .i64) (.pair (.int .i64) .unit))) .unit))))
abbrev bY:Ty:=.pair (.int .i64) (.pair (.sl 3 (.int .i64)) (.pair (.sl 3 (.int .i64)) (.pair (.sl 3 (.int .i64)) .unit)))
abbrev dU:Ty:=.pair (.int .i64) (.pair (.int .i64) (.pair .str (.pair .str .unit)))
abbrev fH:Ty:=.pair (.int .i64) (.pair .str (.pair .str (.pair (.int .i64) (.pair (.int .i64) .unit))))
abbrev bJ:Ty:=.pair (.int .i64) (.pair (.int .i64) (.pair (.sl 44 fH) .unit))
abbrev bX:Ty:=.pair (.sl 42 bJ) (.pair (.sl 80 cJ) (.pair (.sl 83 bY) (.pair (.int .i64) (.pair (.sl 3 (.int .i64)) (.pair (.sl 48 dU) .unit)))))
abbrev jR:Ty:=.pair (.int .i64) (.pair (.int .i64) (.pair (.int .i64) (.pair (.int .i64) dU)))
abbrev kA:Ty:=.pair (.int .i64) (.pair (.int .i64) (.pair (.int .i64) (.pair (.int .i64) .unit)))
noncomputable def bE:List (TypeId×Ty):=[(1,.op),
  (2,(.int .i64)),
  (3,(.int .i64)),
  (4,.bool),
  (5,(.int .u8)),
  (6,(.int .u8)),
  (7,(.pair (.int .i64) (.pair (.int .i64) (.pair .bool (.pair (.int .u8) .unit))))),
  (8,(.pair (.int .i64) (.pair (.int .i64) (.pair .bool (.pair (.int .u8) .unit))))),
  (9,.str),
  (10,.str),
  (11,.str),
  (12,(.int .u64)),
  (15,.op),
  (16,.op),
  (17,.op),
  (21,(.int .i32)),
  (22,(.sl 5 (.int .u8))),
  (23,.op),
  (24,kA),
  (25,kA),
  (26,(.sl 46 jR)),
  (28,.op),
  (29,(.sl 42 bJ)),
  (30,(.sl 80 cJ)),
  (31,(.sl 83 bY)),
  (32,(.sl 3 (.int .i64))),
  (33,(.sl 48 dU)),
  (34,bX),
  (35,bX),
  (37,.op),
  (38,.op),
  (39,.op),
  (40,(.sl 44 fH)),
  (41,bJ),
  (42,bJ),
  (43,fH),
  (44,fH),
  (45,jR),
  (46,jR),
  (47,dU),
  (48,dU),
  (50,.op),
  (51,.op),
  (52,.op),
  (53,.op),
  (54,.op),
  (55,.op),
  (56,.op),
  (57,kA),
  (58,(.sl 102 jR)),
  (59,.op),
  (60,.op),
  (61,.op),
  (62,.op),
  (63,.op),
  (64,.op),
  (65,.op),
  (66,.op),
  (67,.op),
  (68,.op),
  (69,.op),
  (70,.op),
  (71,.op),
  (72,.op),
  (73,.op),
  (74,.op),
  (75,.op),
  (76,.op),
  (77,.op),
  (78,(.sl 118 (.pair (.int .i64) (.pair (.int .i64) .unit)))),
  (79,cJ),
  (80,cJ),
  (81,.op),
  (82,bY),
  (83,bY),
  (84,.op),
  (85,.op),
  (86,.op),
  (87,.op),
  (88,.op),
  (89,.op),
  (90,(.sl 9 .str)),
  (91,.op),
  (92,.op),
  (93,.op),
  (94,.op),
  (95,.op),
  (96,.op),
  (97,.op),
  (98,.op),
  (99,.op),
  (100,.op),
  (101,.op),
  (102,jR),
  (103,.op),
  (104,.op),
  (105,.op),
  (106,.op),
  (107,.op),
  (108,.op),
  (109,.op),
  (110,.op),
  (111,.op),
  (112,.op),
  (113,.op),
  (114,(.pair (.sl 5 (.int .u8)) (.pair (.int .i64) (.pair (.int .i64) .unit)))),
  (115,(.pair (.sl 5 (.int .u8)) (.pair (.int .i64) (.pair (.int .i64) .unit)))),
  (116,.op),
  (117,(.pair (.int .i64) (.pair (.int .i64) .unit))),
  (118,(.pair (.int .i64) (.pair (.int .i64) .unit))),
  (119,.op),
  (120,.op),
  (121,.op),
  (122,.op),
  (123,.op),
  (124,.op),
  (125,.op),
  (126,.op),
  (127,.op),
  (128,.op),
  (129,.op),
  (130,.op),
  (131,.op),
  (132,.op),
  (133,.op),
  (134,.op),
  (135,.op),
  (136,(.int .u64)),
  (137,.op),
  (138,.op),
  (139,.op),
  (140,.op),
  (141,.op),
  (142,.op),
  (144,.op),
  (145,.op),
  (147,.op),
  (148,.op),
  (149,.op),
  (150,.op),
  (151,.op),
  (152,.op),
  (153,.op),
  (154,.op),
  (155,.op),
  (156,.op),
  (158,.op),
  (160,.op),
  (161,.op),
  (162,.op),
  (163,.op),
  (164,.op),
  (165,.op),
  (166,.op),
  (167,.op),
  (168,.op),
  (169,.op),
  (170,.op),
  (171,.op),
  (177,.op),
  (178,(.int .u32)),
  (179,(.int .u8)),
  (180,(.int .u8)),
  (181,.op),
  (182,.op),
  (183,(.int .i32)),
  (184,(.int .i32))]
theorem jB:∀t T,find bE t=some T->oI Tryz.prog T (.t t)=true:=aLe (by kernel_rfl)
theorem mixed:Tryz.prog.follows .mixedOrders=true:=by kernel_rfl
namespace gP
noncomputable def fs:FS:=⟨[(.val jR .f),(.val (.int .i64) .f)],[((.int .i64),.o)],fun x=>gP.pre x.1 x.2.1,fun x=>((),((gP x.1 x.2.1),()))⟩
noncomputable def E:fG:=⟨bE,[],[]⟩
noncomputable def H:List LC:=[]
theorem cZ:aR Tryz.prog E:=aJ jB
theorem loops:∀c,Tryz.f66.body=some c->aI E H c:=aO (by kernel_rfl)
theorem aME:aZ Tryz.prog 66 fs:=aH cZ mixed Tryz.func66 H loops fun⟨x0,x1,()⟩ hw hp=>(show bB E H Tryz.f66 fs.ps fs.rs (x0,(x1,()))=aQ x0 x1 from by kernel_rfl).trans (eq x0 x1 hw hp)
theorem aMD:cW Tryz.prog 66 fs:=⟨aME,_,Tryz.func66,by kernel_rfl,by kernel_rfl⟩
end gP
namespace fX
noncomputable def fs:FS:=⟨[(.val (.sl 102 jR) .f),(.val (.int .i64) .f)],[((.int .i64),.o)],fun x=>fX.pre x.1 x.2.1,fun x=>((),((fX x.1 x.2.1),()))⟩
noncomputable def E:fG:=⟨bE,[(66,gP.fs)],[]⟩
noncomputable def sh5:gJ:=⟨((.one (.dat (.sl 102 jR)))::ui::uu::uu::uu::ui::un 21 []),[]⟩
noncomputable def yO:List hJ:=[⟨.ret,⟨0,[4],[],[]⟩,⟨(un 4 (ui::un 22 [])),[]⟩⟩,⟨(.exit 0),⟨0,[1],[],[]⟩,⟨(uu::ui::un 25 []),[]⟩⟩]
noncomputable def L5:LC:=⟨5,⟨5,[0,1,5],[],[]⟩,sh5,yO,pre5,fn5⟩
noncomputable def H:List LC:=[L5]
noncomputable def code(i:Nat):Code:=(bI (cU Tryz.f21)).getD i .skip
theorem aDN:cP E H (code 0) L5:=⟨mu5,fun⟨x1,x2,x3,()⟩ hp=>aV (show L5.step E H (code 0) (x1,(x2,(x3,())))=rA x1 x2 x3 from by kernel_rfl) (ok5 x1 x2 x3 hp)⟩
theorem cZ:aR Tryz.prog E:=aB gP.aMD (aJ jB)
theorem loops:∀c,Tryz.f21.body=some c->aI E H c:=bH (by kernel_rfl) (by kernel_rfl) fun i l h=>match i,h with
  |0,h=>Option.some.inj h▸aDN
  |n+1,h=>by cases h
theorem aME:aZ Tryz.prog 21 fs:=aH cZ mixed Tryz.func21 H loops fun⟨x0,x1,()⟩ hw hp=>(show bB E H Tryz.f21 fs.ps fs.rs (x0,(x1,()))=aQ x0 x1 from by kernel_rfl).trans (eq x0 x1 hw hp)
theorem aMD:cW Tryz.prog 21 fs:=⟨aME,_,Tryz.func21,by kernel_rfl,by kernel_rfl⟩
end fX
namespace kI
noncomputable def fs:FS:=⟨[(.val kA .f)],[(kA,.o)],fun _=>true,fun x=>((),((kI x.1),()))⟩
noncomputable def E:fG:=⟨bE,[],[]⟩
noncomputable def H:List LC:=[]
theorem cZ:aR Tryz.prog E:=aJ jB
theorem loops:∀c,Tryz.f22.body=some c->aI E H c:=aO (by kernel_rfl)
theorem aME:aZ Tryz.prog 22 fs:=aH cZ mixed Tryz.func22 H loops fun⟨x0,()⟩ hw _=>(show bB E H Tryz.f22 fs.ps fs.rs (x0,())=aQ x0 from by kernel_rfl).trans (eq x0 hw)
theorem aMD:cW Tryz.prog 22 fs:=⟨aME,_,Tryz.func22,by kernel_rfl,by kernel_rfl⟩
end kI
namespace oC
noncomputable def fs:FS:=⟨[(.val jR .f)],[(jR,.o)],fun _=>true,fun x=>((),((oC x.1),()))⟩
noncomputable def E:fG:=⟨bE,[],[]⟩
noncomputable def H:List LC:=[]
theorem cZ:aR Tryz.prog E:=aJ jB
theorem loops:∀c,Tryz.f67.body=some c->aI E H c:=aO (by kernel_rfl)
theorem aME:aZ Tryz.prog 67 fs:=aH cZ mixed Tryz.func67 H loops fun⟨x0,()⟩ hw _=>(show bB E H Tryz.f67 fs.ps fs.rs (x0,())=aQ x0 from by kernel_rfl).trans (eq x0 hw)
theorem aMD:cW Tryz.prog 67 fs:=⟨aME,_,Tryz.func67,by kernel_rfl,by kernel_rfl⟩
end oC
namespace eW
noncomputable def nJ:List (Nat×vN):=[(20000000,(.arr 46 jR))]
noncomputable def fs:FS:=⟨[(.val (.sl 102 jR) .f)],[((.sl 46 jR),.o)],fun x=>eW.pre x.1,fun x=>((),((eW x.1),()))⟩
noncomputable def E:fG:=⟨bE,[(67,oC.fs)],[]⟩
noncomputable def sh3:gJ:=⟨((.one (.dat (.sl 102 jR)))::uu::uu::(.one (.arr 20000000))::ui::un 18 []),nJ⟩
noncomputable def aFI:List hJ:=[⟨(.exit 0),⟨0,[3],[],[]⟩,⟨(uu::uu::uu::(.one (.arr 20000000))::un 19 []),nJ⟩⟩]
noncomputable def L3:LC:=⟨3,⟨3,[0,3,4],[],[]⟩,sh3,aFI,pre3,fn3⟩
noncomputable def H:List LC:=[L3]
noncomputable def code(i:Nat):Code:=(bI (cU Tryz.f23)).getD i .skip
theorem aJQ:cP E H (code 0) L3:=⟨mu3,fun⟨x1,x2,x3,()⟩ hp=>aV (show L3.step E H (code 0) (x1,(x2,(x3,())))=aDk x1 x2 x3 from by kernel_rfl) (ok3 x1 x2 x3 hp)⟩
theorem cZ:aR Tryz.prog E:=aB oC.aMD (aJ jB)
theorem loops:∀c,Tryz.f23.body=some c->aI E H c:=bH (by kernel_rfl) (by kernel_rfl) fun i l h=>match i,h with
  |0,h=>Option.some.inj h▸aJQ
  |n+1,h=>by cases h
theorem aME:aZ Tryz.prog 23 fs:=aH cZ mixed Tryz.func23 H loops fun⟨x0,()⟩ hw hp=>(show bB E H Tryz.f23 fs.ps fs.rs (x0,())=aQ x0 from by kernel_rfl).trans (eq x0 hw hp)
theorem aMD:cW Tryz.prog 23 fs:=⟨aME,_,Tryz.func23,by kernel_rfl,by kernel_rfl⟩
end eW
namespace fM
noncomputable def fs:FS:=⟨[(.val (.int .i64) .f),(.val (.int .i64) .f),(.val (.int .i64) .f)],[(.bool,.o)],fun _=>true,fun x=>((),((fM x.1 x.2.1 x.2.2.1),()))⟩
noncomputable def E:fG:=⟨bE,[],[]⟩
noncomputable def H:List LC:=[]
theorem cZ:aR Tryz.prog E:=aJ jB
theorem loops:∀c,Tryz.f54.body=some c->aI E H c:=aO (by kernel_rfl)
theorem aME:aZ Tryz.prog 54 fs:=aH cZ mixed Tryz.func54 H loops fun⟨x0,x1,x2,()⟩ hw _=>(show bB E H Tryz.f54 fs.ps fs.rs (x0,(x1,(x2,())))=aQ x0 x1 x2 from by kernel_rfl).trans (eq x0 x1 x2 hw)
theorem aMD:cW Tryz.prog 54 fs:=⟨aME,_,Tryz.func54,by kernel_rfl,by kernel_rfl⟩
end fM
namespace kM
noncomputable def fs:FS:=⟨[(.val kA .f)],[(.bool,.o)],fun _=>true,fun x=>((),((kM x.1),()))⟩
noncomputable def E:fG:=⟨bE,[(54,fM.fs)],[]⟩
noncomputable def H:List LC:=[]
theorem cZ:aR Tryz.prog E:=aB fM.aMD (aJ jB)
theorem loops:∀c,Tryz.f37.body=some c->aI E H c:=aO (by kernel_rfl)
theorem aME:aZ Tryz.prog 37 fs:=aH cZ mixed Tryz.func37 H loops fun⟨x0,()⟩ hw _=>(show bB E H Tryz.f37 fs.ps fs.rs (x0,())=aQ x0 from by kernel_rfl).trans (eq x0 hw)
theorem aMD:cW Tryz.prog 37 fs:=⟨aME,_,Tryz.func37,by kernel_rfl,by kernel_rfl⟩
end kM
namespace iS
noncomputable def fs:FS:=⟨[(.val (.int .i64) .f)],[(bY,.o)],fun x=>iS.pre x.1,fun x=>((),((iS x.1),()))⟩
noncomputable def E:fG:=⟨bE,[(54,fM.fs)],[]⟩
noncomputable def H:List LC:=[]
theorem cZ:aR Tryz.prog E:=aB fM.aMD (aJ jB)
theorem loops:∀c,Tryz.f52.body=some c->aI E H c:=aO (by kernel_rfl)
theorem aME:aZ Tryz.prog 52 fs:=aH cZ mixed Tryz.func52 H loops fun⟨x0,()⟩ hw hp=>(show bB E H Tryz.f52 fs.ps fs.rs (x0,())=aQ x0 from by kernel_rfl).trans (eq x0 hw hp)
theorem aMD:cW Tryz.prog 52 fs:=⟨aME,_,Tryz.func52,by kernel_rfl,by kernel_rfl⟩
end iS
namespace iE
noncomputable def fs:FS:=⟨[(.val kA .f)],[(bX,.o)],fun x=>iE.pre x.1,fun x=>((),((iE x.1),()))⟩
noncomputable def E:fG:=⟨bE,[(37,kM.fs),(52,iS.fs)],[]⟩
noncomputable def sh5:gJ:=⟨(uu::(.one (.bptr 0 [] kA))::(.one (.bptr 32 [] bX))::(.one (.bptr 24768 [] bX))::ui::un 23 []),[(0,(.box kA (.dat kA))),(32,(.box bX (.pair (.arr 20000000) (.pair (.arr 20000001) (.pair (.arr 20000002) (.pair (.dat (.int .i64)) (.pair (.arr 20000003) (.pair (.arr 20000004) (.dat .unit))))))))),(20000000,(.arr 42 bJ)),(20000001,(.arr 80 cJ)),(20000002,(.arr 83 bY)),(20000003,(.arr 3 (.int .i64))),(20000004,(.arr 48 dU)),(24768,(.box bX (.pair (.arr 20000005) (.pair (.arr 20000006) (.pair (.arr 20000007) (.pair (.dat (.int .i64)) (.pair (.arr 20000008) (.pair (.arr 20000009) (.dat .unit))))))))),(20000005,(.arr 42 bJ)),(20000006,(.arr 80 cJ)),(20000007,(.arr 83 bY)),(20000008,(.arr 3 (.int .i64))),(20000009,(.arr 48 dU))]⟩
noncomputable def yO:List hJ:=[⟨(.exit 0),⟨0,[2,3],[],[]⟩,⟨(uu::uu::(.one (.bptr 32 [] bX))::(.one (.bptr 24768 [] bX))::un 24 []),[(32,(.box bX (.pair (.arr 20000000) (.pair (.arr 20000001) (.pair (.arr 20000002) (.pair (.dat (.int .i64)) (.pair (.arr 20000003) (.pair (.arr 20000004) (.dat .unit))))))))),(20000000,(.arr 42 bJ)),(20000001,(.arr 80 cJ)),(20000002,(.arr 83 bY)),(20000003,(.arr 3 (.int .i64))),(20000004,(.arr 48 dU)),(24768,(.box bX (.pair (.arr 20000005) (.pair (.arr 20000006) (.pair (.arr 20000007) (.pair (.dat (.int .i64)) (.pair (.arr 20000008) (.pair (.arr 20000009) (.dat .unit))))))))),(20000005,(.arr 42 bJ)),(20000006,(.arr 80 cJ)),(20000007,(.arr 83 bY)),(20000008,(.arr 3 (.int .i64))),(20000009,(.arr 48 dU))]⟩⟩]
noncomputable def L5:LC:=⟨5,⟨5,[1,2,3,4],[],[]⟩,sh5,yO,pre5,fn5⟩
noncomputable def H:List LC:=[L5]
noncomputable def code(i:Nat):Code:=(bI (cU Tryz.f16)).getD i .skip
theorem aDN:cP E H (code 0) L5:=⟨mu5,fun⟨x1,x2,x3,x4,x5,x6,x7,x8,x9,x10,x11,x12,x13,x14,x15,x16,()⟩ hp=>aV (show L5.step E H (code 0) (x1,(x2,(x3,(x4,(x5,(x6,(x7,(x8,(x9,(x10,(x11,(x12,(x13,(x14,(x15,(x16,()))))))))))))))))=rA x1 x2 x3 x4 x5 x6 x7 x8 x9 x10 x11 x12 x13 x14 x15 x16 from by kernel_rfl) (ok5 x1 x2 x3 x4 x5 x6 x7 x8 x9 x10 x11 x12 x13 x14 x15 x16 hp)⟩
theorem cZ:aR Tryz.prog E:=aB kM.aMD (aB iS.aMD (aJ jB))
theorem loops:∀c,Tryz.f16.body=some c->aI E H c:=bH (by kernel_rfl) (by kernel_rfl) fun i l h=>match i,h with
  |0,h=>Option.some.inj h▸aDN
  |n+1,h=>by cases h
theorem aME:aZ Tryz.prog 16 fs:=aH cZ mixed Tryz.func16 H loops fun⟨x0,()⟩ hw hp=>(show bB E H Tryz.f16 fs.ps fs.rs (x0,())=aQ x0 from by kernel_rfl).trans (eq x0 hw hp)
theorem aMD:cW Tryz.prog 16 fs:=⟨aME,_,Tryz.func16,by kernel_rfl,by kernel_rfl⟩
end iE
namespace jW
noncomputable def fs:FS:=⟨[(.val .str .f)],[(.bool,.o)],fun _=>true,fun x=>((),((jW x.1),()))⟩
noncomputable def E:fG:=⟨bE,[],[]⟩
noncomputable def rP:gJ:=⟨((.one (.dat .str))::uu::uu::ui::un 32 []),[]⟩
noncomputable def fW:List hJ:=[⟨.ret,⟨0,[2],[],[]⟩,⟨(uu::uu::(.one (.dat .bool))::un 33 []),[]⟩⟩,⟨(.exit 0),⟨0,[0],[],[]⟩,⟨((.one (.dat .str))::un 35 []),[]⟩⟩]
noncomputable def L2:LC:=⟨2,⟨2,[0,3],[],[]⟩,rP,fW,pre2,fn2⟩
noncomputable def H:List LC:=[L2]
noncomputable def code(i:Nat):Code:=(bI (cU Tryz.f55)).getD i .skip
theorem lC:cP E H (code 0) L2:=⟨mA,fun⟨x1,x2,()⟩ hp=>aV (show L2.step E H (code 0) (x1,(x2,()))=dT x1 x2 from by kernel_rfl) (rR x1 x2 hp)⟩
theorem cZ:aR Tryz.prog E:=aJ jB
theorem loops:∀c,Tryz.f55.body=some c->aI E H c:=bH (by kernel_rfl) (by kernel_rfl) fun i l h=>match i,h with
  |0,h=>Option.some.inj h▸lC
  |n+1,h=>by cases h
theorem aME:aZ Tryz.prog 55 fs:=aH cZ mixed Tryz.func55 H loops fun⟨x0,()⟩ hw _=>(show bB E H Tryz.f55 fs.ps fs.rs (x0,())=aQ x0 from by kernel_rfl).trans (eq x0 hw)
theorem aMD:cW Tryz.prog 55 fs:=⟨aME,_,Tryz.func55,by kernel_rfl,by kernel_rfl⟩
end jW
namespace oD
noncomputable def fs:FS:=⟨[(.val jR .f)],[(.bool,.o)],fun _=>true,fun x=>((),((oD x.1),()))⟩
noncomputable def E:fG:=⟨bE,[(54,fM.fs),(55,jW.fs)],[]⟩
noncomputable def H:List LC:=[]
theorem cZ:aR Tryz.prog E:=aB fM.aMD (aB jW.aMD (aJ jB))
theorem loops:∀c,Tryz.f38.body=some c->aI E H c:=aO (by kernel_rfl)
theorem aME:aZ Tryz.prog 38 fs:=aH cZ mixed Tryz.func38 H loops fun⟨x0,()⟩ hw _=>(show bB E H Tryz.f38 fs.ps fs.rs (x0,())=aQ x0 from by kernel_rfl).trans (eq x0 hw)
theorem aMD:cW Tryz.prog 38 fs:=⟨aME,_,Tryz.func38,by kernel_rfl,by kernel_rfl⟩
end oD
namespace bP
noncomputable def fs:FS:=⟨[(.val bJ .f)],[(bJ,.o)],fun x=>bP.pre x.1,fun x=>((),((bP x.1),()))⟩
noncomputable def E:fG:=⟨bE,[],[]⟩
noncomputable def H:List LC:=[]
theorem cZ:aR Tryz.prog E:=aJ jB
theorem loops:∀c,Tryz.f107.body=some c->aI E H c:=aO (by kernel_rfl)
theorem aME:aZ Tryz.prog 107 fs:=aH cZ mixed Tryz.func107 H loops fun⟨x0,()⟩ hw hp=>(show bB E H Tryz.f107 fs.ps fs.rs (x0,())=aQ x0 from by kernel_rfl).trans (eq x0 hw hp)
theorem aMD:cW Tryz.prog 107 fs:=⟨aME,_,Tryz.func107,by kernel_rfl,by kernel_rfl⟩
end bP
namespace aK
noncomputable def fs:FS:=⟨[(.val cJ .f)],[(cJ,.o)],fun x=>aK.pre x.1,fun x=>((),((aK x.1),()))⟩
noncomputable def E:fG:=⟨bE,[],[]⟩
noncomputable def H:List LC:=[]
theorem cZ:aR Tryz.prog E:=aJ jB
theorem loops:∀c,Tryz.f108.body=some c->aI E H c:=aO (by kernel_rfl)
theorem aME:aZ Tryz.prog 108 fs:=aH cZ mixed Tryz.func108 H loops fun⟨x0,()⟩ hw hp=>(show bB E H Tryz.f108 fs.ps fs.rs (x0,())=aQ x0 from by kernel_rfl).trans (eq x0 hw hp)
theorem aMD:cW Tryz.prog 108 fs:=⟨aME,_,Tryz.func108,by kernel_rfl,by kernel_rfl⟩
end aK
namespace aU
noncomputable def fs:FS:=⟨[(.val bY .f)],[(bY,.o)],fun x=>aU.pre x.1,fun x=>((),((aU x.1),()))⟩
noncomputable def E:fG:=⟨bE,[],[]⟩
noncomputable def H:List LC:=[]
theorem cZ:aR Tryz.prog E:=aJ jB
theorem loops:∀c,Tryz.f109.body=some c->aI E H c:=aO (by kernel_rfl)
theorem aME:aZ Tryz.prog 109 fs:=aH cZ mixed Tryz.func109 H loops fun⟨x0,()⟩ hw hp=>(show bB E H Tryz.f109 fs.ps fs.rs (x0,())=aQ x0 from by kernel_rfl).trans (eq x0 hw hp)
theorem aMD:cW Tryz.prog 109 fs:=⟨aME,_,Tryz.func109,by kernel_rfl,by kernel_rfl⟩
end aU
namespace eE
noncomputable def nJ:List (Nat×vN):=[(0,(.box bX (.dat bX))),(32,(.box bX (.pair (.arr 20000000) (.pair (.arr 20000001) (.pair (.arr 20000002) (.pair (.dat (.int .i64)) (.pair (.arr 20000003) (.pair (.arr 20000004) (.dat .unit))))))))),(20000000,(.arr 42 bJ)),(20000001,(.arr 80 cJ)),(20000002,(.arr 83 bY)),(20000003,(.arr 3 (.int .i64))),(20000004,(.arr 48 dU)),(8544,(.box bX (.pair (.arr 20000005) (.pair (.arr 20000006) (.pair (.arr 20000007) (.pair (.dat (.int .i64)) (.pair (.arr 20000008) (.pair (.arr 20000009) (.dat .unit))))))))),(20000005,(.arr 42 bJ)),(20000006,(.arr 80 cJ)),(20000007,(.arr 83 bY)),(20000008,(.arr 3 (.int .i64))),(20000009,(.arr 48 dU))]
noncomputable def fs:FS:=⟨[(.val bX .f)],[(bX,.o)],fun x=>eE.pre x.1,fun x=>((),((eE x.1),()))⟩
noncomputable def E:fG:=⟨bE,[(107,bP.fs),(108,aK.fs),(109,aU.fs)],[]⟩
noncomputable def sh3:gJ:=⟨(uu::(.one (.bptr 0 [] bX))::(.one (.bptr 32 [] bX))::(.one (.bptr 8544 [] bX))::ui::un 68 []),nJ⟩
noncomputable def aFI:List hJ:=[⟨(.exit 0),⟨0,[1,2,3],[],[]⟩,⟨(uu::(.one (.bptr 0 [] bX))::(.one (.bptr 32 [] bX))::(.one (.bptr 8544 [] bX))::un 69 []),nJ⟩⟩]
noncomputable def L3:LC:=⟨3,⟨3,[1,2,3,4],[],[]⟩,sh3,aFI,pre3,fn3⟩
noncomputable def sh7:gJ:=⟨(uu::(.one (.bptr 0 [] bX))::(.one (.bptr 32 [] bX))::(.one (.bptr 8544 [] bX))::uu::ui::un 67 []),nJ⟩
noncomputable def aLU:List hJ:=[⟨(.exit 2),⟨0,[1,2,3],[],[]⟩,⟨(uu::(.one (.bptr 0 [] bX))::(.one (.bptr 32 [] bX))::(.one (.bptr 8544 [] bX))::un 69 []),nJ⟩⟩]
noncomputable def L7:LC:=⟨7,⟨7,[1,2,3,5],[],[]⟩,sh7,aLU,pre7,fn7⟩
noncomputable def aMp:gJ:=⟨(uu::(.one (.bptr 0 [] bX))::(.one (.bptr 32 [] bX))::(.one (.bptr 8544 [] bX))::uu::uu::ui::un 66 []),nJ⟩
noncomputable def aLb:List hJ:=[⟨(.exit 4),⟨0,[2,3],[],[]⟩,⟨(uu::uu::(.one (.bptr 32 [] bX))::(.one (.bptr 8544 [] bX))::un 69 []),[(32,(.box bX (.pair (.arr 20000000) (.pair (.arr 20000001) (.pair (.arr 20000002) (.pair (.dat (.int .i64)) (.pair (.arr 20000003) (.pair (.arr 20000004) (.dat .unit))))))))),(20000000,(.arr 42 bJ)),(20000001,(.arr 80 cJ)),(20000002,(.arr 83 bY)),(20000003,(.arr 3 (.int .i64))),(20000004,(.arr 48 dU)),(8544,(.box bX (.pair (.arr 20000005) (.pair (.arr 20000006) (.pair (.arr 20000007) (.pair (.dat (.int .i64)) (.pair (.arr 20000008) (.pair (.arr 20000009) (.dat .unit))))))))),(20000005,(.arr 42 bJ)),(20000006,(.arr 80 cJ)),(20000007,(.arr 83 bY)),(20000008,(.arr 3 (.int .i64))),(20000009,(.arr 48 dU))]⟩⟩]
noncomputable def L11:LC:=⟨11,⟨11,[1,2,3,6],[],[]⟩,aMp,aLb,pre11,fn11⟩
noncomputable def H:List LC:=[L3,L7,L11]
noncomputable def code(i:Nat):Code:=(bI (cU Tryz.f85)).getD i .skip
theorem aJQ:cP E H (code 0) L3:=⟨mu3,fun⟨x1,x2,x3,x4,x5,x6,x7,x8,x9,x10,x11,x12,x13,x14,x15,x16,()⟩ hp=>aV (show L3.step E H (code 0) (x1,(x2,(x3,(x4,(x5,(x6,(x7,(x8,(x9,(x10,(x11,(x12,(x13,(x14,(x15,(x16,()))))))))))))))))=aDk x1 x2 x3 x4 x5 x6 x7 x8 x9 x10 x11 x12 x13 x14 x15 x16 from by kernel_rfl) (ok3 x1 x2 x3 x4 x5 x6 x7 x8 x9 x10 x11 x12 x13 x14 x15 x16 hp)⟩
theorem aMh:cP E H (code 1) L7:=⟨mu7,fun⟨x1,x2,x3,x4,x5,x6,x7,x8,x9,x10,x11,x12,x13,x14,x15,x16,()⟩ hp=>aV (show L7.step E H (code 1) (x1,(x2,(x3,(x4,(x5,(x6,(x7,(x8,(x9,(x10,(x11,(x12,(x13,(x14,(x15,(x16,()))))))))))))))))=aLd x1 x2 x3 x4 x5 x6 x7 x8 x9 x10 x11 x12 x13 x14 x15 x16 from by kernel_rfl) (ok7 x1 x2 x3 x4 x5 x6 x7 x8 x9 x10 x11 x12 x13 x14 x15 x16 hp)⟩
theorem aLT:cP E H (code 2) L11:=⟨aLJ,fun⟨x1,x2,x3,x4,x5,x6,x7,x8,x9,x10,x11,x12,x13,x14,x15,x16,()⟩ hp=>aV (show L11.step E H (code 2) (x1,(x2,(x3,(x4,(x5,(x6,(x7,(x8,(x9,(x10,(x11,(x12,(x13,(x14,(x15,(x16,()))))))))))))))))=aJj x1 x2 x3 x4 x5 x6 x7 x8 x9 x10 x11 x12 x13 x14 x15 x16 from by kernel_rfl) (aM4 x1 x2 x3 x4 x5 x6 x7 x8 x9 x10 x11 x12 x13 x14 x15 x16 hp)⟩
theorem cZ:aR Tryz.prog E:=aB bP.aMD (aB aK.aMD (aB aU.aMD (aJ jB)))
theorem loops:∀c,Tryz.f85.body=some c->aI E H c:=bH (by kernel_rfl) (by kernel_rfl) fun i l h=>match i,h with
  |0,h=>Option.some.inj h▸aJQ
  |1,h=>Option.some.inj h▸aMh
  |2,h=>Option.some.inj h▸aLT
  |n+3,h=>by cases h
theorem aME:aZ Tryz.prog 85 fs:=aH cZ mixed Tryz.func85 H loops fun⟨x0,()⟩ hw hp=>(show bB E H Tryz.f85 fs.ps fs.rs (x0,())=aQ x0 from by kernel_rfl).trans (eq x0 hw hp)
theorem aMD:cW Tryz.prog 85 fs:=⟨aME,_,Tryz.func85,by kernel_rfl,by kernel_rfl⟩
end eE
namespace qD
noncomputable def fs:FS:=⟨[(.val (.int .i64) .f),(.val (.int .i64) .f)],[((.int .i64),.o)],fun _=>true,fun x=>((),((qD x.1 x.2.1),()))⟩
noncomputable def E:fG:=⟨bE,[],[]⟩
noncomputable def H:List LC:=[]
theorem cZ:aR Tryz.prog E:=aJ jB
theorem loops:∀c,Tryz.f110.body=some c->aI E H c:=aO (by kernel_rfl)
theorem aME:aZ Tryz.prog 110 fs:=aH cZ mixed Tryz.func110 H loops fun⟨x0,x1,()⟩ hw _=>(show bB E H Tryz.f110 fs.ps fs.rs (x0,(x1,()))=aQ x0 x1 from by kernel_rfl).trans (eq x0 x1 hw)
theorem aMD:cW Tryz.prog 110 fs:=⟨aME,_,Tryz.func110,by kernel_rfl,by kernel_rfl⟩
end qD
namespace eF
noncomputable def fs:FS:=⟨[(.val bY .f),(.val (.int .i64) .f)],[(bY,.o)],fun x=>eF.pre x.1 x.2.1,fun x=>((),((eF x.1 x.2.1),()))⟩
noncomputable def E:fG:=⟨bE,[(109,aU.fs)],[]⟩
noncomputable def H:List LC:=[]
theorem cZ:aR Tryz.prog E:=aB aU.aMD (aJ jB)
theorem loops:∀c,Tryz.f122.body=some c->aI E H c:=aO (by kernel_rfl)
theorem aME:aZ Tryz.prog 122 fs:=aH cZ mixed Tryz.func122 H loops fun⟨x0,x1,()⟩ hw hp=>(show bB E H Tryz.f122 fs.ps fs.rs (x0,(x1,()))=aQ x0 x1 from by kernel_rfl).trans (eq x0 x1 hw hp)
theorem aMD:cW Tryz.prog 122 fs:=⟨aME,_,Tryz.func122,by kernel_rfl,by kernel_rfl⟩
end eF
namespace jI
noncomputable def fs:FS:=⟨[(.val (.int .i64) .f)],[((.int .i64),.o)],fun x=>jI.pre x.1,fun x=>((),((jI x.1),()))⟩
noncomputable def E:fG:=⟨bE,[],[]⟩
noncomputable def H:List LC:=[]
theorem cZ:aR Tryz.prog E:=aJ jB
theorem loops:∀c,Tryz.f123.body=some c->aI E H c:=aO (by kernel_rfl)
theorem aME:aZ Tryz.prog 123 fs:=aH cZ mixed Tryz.func123 H loops fun⟨x0,()⟩ hw hp=>(show bB E H Tryz.f123 fs.ps fs.rs (x0,())=aQ x0 from by kernel_rfl).trans (eq x0 hw hp)
theorem aMD:cW Tryz.prog 123 fs:=⟨aME,_,Tryz.func123,by kernel_rfl,by kernel_rfl⟩
end jI
namespace gS
noncomputable def nJ:List (Nat×vN):=[(0,(.box bY (.dat bY))),(32,(.box bY (.pair (.dat (.int .i64)) (.pair (.arr 20000000) (.pair (.arr 20000001) (.pair (.arr 20000002) (.dat .unit))))))),(20000000,(.arr 3 (.int .i64))),(20000001,(.arr 3 (.int .i64))),(20000002,(.arr 3 (.int .i64))),(8256,(.box bY (.pair (.dat (.int .i64)) (.pair (.arr 20000003) (.pair (.arr 20000004) (.pair (.arr 20000005) (.dat .unit))))))),(20000003,(.arr 3 (.int .i64))),(20000004,(.arr 3 (.int .i64))),(20000005,(.arr 3 (.int .i64)))]
noncomputable def fs:FS:=⟨[(.val bY .f),(.val (.int .i64) .f)],[(bY,.o)],fun x=>gS.pre x.1 x.2.1,fun x=>((),((gS x.1 x.2.1),()))⟩
noncomputable def E:fG:=⟨bE,[(109,aU.fs),(122,eF.fs),(123,jI.fs)],[]⟩
noncomputable def uL:gJ:=⟨(uu::ui::(.one (.bptr 0 [] bY))::uu::(.one (.bptr 32 [] bY))::(.one (.bptr 8256 [] bY))::(.one (.dat .bool))::ui::un 53 []),nJ⟩
noncomputable def jD:List hJ:=[⟨(.exit 0),⟨0,[2,4,5,6],[],[]⟩,⟨(uu::uu::(.one (.bptr 0 [] bY))::uu::(.one (.bptr 32 [] bY))::(.one (.bptr 8256 [] bY))::(.one (.dat .bool))::un 54 []),nJ⟩⟩]
noncomputable def L4:LC:=⟨4,⟨4,[1,2,4,5,6,7],[],[]⟩,uL,jD,pre4,fn4⟩
noncomputable def H:List LC:=[L4]
noncomputable def code(i:Nat):Code:=(bI (cU Tryz.f111)).getD i .skip
theorem mT:cP E H (code 0) L4:=⟨lN,fun⟨x1,x2,x3,x4,x5,x6,x7,x8,x9,x10,x11,x12,x13,x14,()⟩ hp=>aV (show L4.step E H (code 0) (x1,(x2,(x3,(x4,(x5,(x6,(x7,(x8,(x9,(x10,(x11,(x12,(x13,(x14,()))))))))))))))=eA x1 x2 x3 x4 x5 x6 x7 x8 x9 x10 x11 x12 x13 x14 from by kernel_rfl) (uM x1 x2 x3 x4 x5 x6 x7 x8 x9 x10 x11 x12 x13 x14 hp)⟩
theorem cZ:aR Tryz.prog E:=aB aU.aMD (aB eF.aMD (aB jI.aMD (aJ jB)))
theorem loops:∀c,Tryz.f111.body=some c->aI E H c:=bH (by kernel_rfl) (by kernel_rfl) fun i l h=>match i,h with
  |0,h=>Option.some.inj h▸mT
  |n+1,h=>by cases h
theorem aME:aZ Tryz.prog 111 fs:=aH cZ mixed Tryz.func111 H loops fun⟨x0,x1,()⟩ hw hp=>(show bB E H Tryz.f111 fs.ps fs.rs (x0,(x1,()))=aQ x0 x1 from by kernel_rfl).trans (eq x0 x1 hw hp)
theorem aMD:cW Tryz.prog 111 fs:=⟨aME,_,Tryz.func111,by kernel_rfl,by kernel_rfl⟩
end gS
namespace kR
noncomputable def fs:FS:=⟨[(.val bY .f),(.val (.int .i64) .f)],[((.int .i64),.o)],fun x=>kR.pre x.1 x.2.1,fun x=>((),((kR x.1 x.2.1),()))⟩
noncomputable def E:fG:=⟨bE,[],[]⟩
noncomputable def rP:gJ:=⟨(uu::ui::(.one (.bptr 0 [] bY))::uu::uu::ui::un 15 []),[(0,(.box bY (.dat bY)))]⟩
noncomputable def fW:List hJ:=[⟨.ret,⟨0,[4],[],[]⟩,⟨(un 4 (ui::un 16 [])),[]⟩⟩,⟨(.exit 0),⟨0,[],[],[]⟩,⟨(un 21 []),[]⟩⟩]
noncomputable def L2:LC:=⟨2,⟨2,[1,2,5],[],[]⟩,rP,fW,pre2,fn2⟩
noncomputable def H:List LC:=[L2]
noncomputable def code(i:Nat):Code:=(bI (cU Tryz.f145)).getD i .skip
theorem lC:cP E H (code 0) L2:=⟨mA,fun⟨x1,x2,x3,()⟩ hp=>aV (show L2.step E H (code 0) (x1,(x2,(x3,())))=dT x1 x2 x3 from by kernel_rfl) (rR x1 x2 x3 hp)⟩
theorem cZ:aR Tryz.prog E:=aJ jB
theorem loops:∀c,Tryz.f145.body=some c->aI E H c:=bH (by kernel_rfl) (by kernel_rfl) fun i l h=>match i,h with
  |0,h=>Option.some.inj h▸lC
  |n+1,h=>by cases h
theorem aME:aZ Tryz.prog 145 fs:=aH cZ mixed Tryz.func145 H loops fun⟨x0,x1,()⟩ hw hp=>(show bB E H Tryz.f145 fs.ps fs.rs (x0,(x1,()))=aQ x0 x1 from by kernel_rfl).trans (eq x0 x1 hw hp)
theorem aMD:cW Tryz.prog 145 fs:=⟨aME,_,Tryz.func145,by kernel_rfl,by kernel_rfl⟩
end kR
namespace gD
noncomputable def nJ:List (Nat×vN):=[(0,(.box bY (.dat bY))),(32,(.box bY (.pair (.dat (.int .i64)) (.pair (.arr 20000000) (.pair (.arr 20000001) (.pair (.arr 20000002) (.dat .unit))))))),(20000000,(.arr 3 (.int .i64))),(20000001,(.arr 3 (.int .i64))),(20000002,(.arr 3 (.int .i64))),(8256,(.box bY (.pair (.dat (.int .i64)) (.pair (.arr 20000003) (.pair (.arr 20000004) (.pair (.arr 20000005) (.dat .unit))))))),(20000003,(.arr 3 (.int .i64))),(20000004,(.arr 3 (.int .i64))),(20000005,(.arr 3 (.int .i64)))]
noncomputable def fs:FS:=⟨[(.val bY .f),(.val (.int .i64) .f),(.val (.int .i64) .f)],[(bY,.o)],fun x=>gD.pre x.1 x.2.1 x.2.2.1,fun x=>((),((gD x.1 x.2.1 x.2.2.1),()))⟩
noncomputable def E:fG:=⟨bE,[(54,fM.fs),(109,aU.fs),(123,jI.fs),(145,kR.fs)],[]⟩
noncomputable def aMd:gJ:=⟨(uu::ui::ui::(.one (.bptr 0 [] bY))::uu::uu::(.one (.bptr 32 [] bY))::(.one (.bptr 8256 [] bY))::ui::un 86 []),nJ⟩
noncomputable def aLf:List hJ:=[⟨(.exit 0),⟨0,[1,2,3,6,7,8],[],[]⟩,⟨(uu::ui::ui::(.one (.bptr 0 [] bY))::uu::uu::(.one (.bptr 32 [] bY))::(.one (.bptr 8256 [] bY))::ui::un 86 []),nJ⟩⟩]
noncomputable def L10:LC:=⟨10,⟨10,[1,2,3,6,7,8],[],[]⟩,aMd,aLf,pre10,fn10⟩
noncomputable def H:List LC:=[L10]
noncomputable def code(i:Nat):Code:=(bI (cU Tryz.f124)).getD i .skip
theorem aLF:cP E H (code 0) L10:=⟨aKH,fun⟨x1,x2,x3,x4,x5,x6,x7,x8,x9,x10,x11,x12,x13,x14,()⟩ hp=>aV (show L10.step E H (code 0) (x1,(x2,(x3,(x4,(x5,(x6,(x7,(x8,(x9,(x10,(x11,(x12,(x13,(x14,()))))))))))))))=aJG x1 x2 x3 x4 x5 x6 x7 x8 x9 x10 x11 x12 x13 x14 from by kernel_rfl) (aMg x1 x2 x3 x4 x5 x6 x7 x8 x9 x10 x11 x12 x13 x14 hp)⟩
theorem cZ:aR Tryz.prog E:=aB fM.aMD (aB aU.aMD (aB jI.aMD (aB kR.aMD (aJ jB))))
theorem loops:∀c,Tryz.f124.body=some c->aI E H c:=bH (by kernel_rfl) (by kernel_rfl) fun i l h=>match i,h with
  |0,h=>Option.some.inj h▸aLF
  |n+1,h=>by cases h
theorem aME:aZ Tryz.prog 124 fs:=aH cZ mixed Tryz.func124 H loops fun⟨x0,x1,x2,()⟩ hw hp=>(show bB E H Tryz.f124 fs.ps fs.rs (x0,(x1,(x2,())))=aQ x0 x1 x2 from by kernel_rfl).trans (eq x0 x1 x2 hw hp)
theorem aMD:cW Tryz.prog 124 fs:=⟨aME,_,Tryz.func124,by kernel_rfl,by kernel_rfl⟩
end gD
namespace iT
noncomputable def fs:FS:=⟨[(.val bY .f),(.val (.int .i64) .f)],[(bY,.o)],fun x=>iT.pre x.1 x.2.1,fun x=>((),((iT x.1 x.2.1),()))⟩
noncomputable def E:fG:=⟨bE,[(54,fM.fs),(109,aU.fs),(122,eF.fs),(123,jI.fs),(145,kR.fs)],[]⟩
noncomputable def H:List LC:=[]
theorem cZ:aR Tryz.prog E:=aB fM.aMD (aB aU.aMD (aB eF.aMD (aB jI.aMD (aB kR.aMD (aJ jB)))))
theorem loops:∀c,Tryz.f125.body=some c->aI E H c:=aO (by kernel_rfl)
theorem aME:aZ Tryz.prog 125 fs:=aH cZ mixed Tryz.func125 H loops fun⟨x0,x1,()⟩ hw hp=>(show bB E H Tryz.f125 fs.ps fs.rs (x0,(x1,()))=aQ x0 x1 from by kernel_rfl).trans (eq x0 x1 hw hp)
theorem aMD:cW Tryz.prog 125 fs:=⟨aME,_,Tryz.func125,by kernel_rfl,by kernel_rfl⟩
end iT
namespace lJ
noncomputable def fs:FS:=⟨[(.val bY .f),(.val (.int .i64) .f)],[((.int .i64),.o)],fun x=>lJ.pre x.1 x.2.1,fun x=>((),((lJ x.1 x.2.1),()))⟩
noncomputable def E:fG:=⟨bE,[],[]⟩
noncomputable def H:List LC:=[]
theorem cZ:aR Tryz.prog E:=aJ jB
theorem loops:∀c,Tryz.f146.body=some c->aI E H c:=aO (by kernel_rfl)
theorem aME:aZ Tryz.prog 146 fs:=aH cZ mixed Tryz.func146 H loops fun⟨x0,x1,()⟩ hw hp=>(show bB E H Tryz.f146 fs.ps fs.rs (x0,(x1,()))=aQ x0 x1 from by kernel_rfl).trans (eq x0 x1 hw hp)
theorem aMD:cW Tryz.prog 146 fs:=⟨aME,_,Tryz.func146,by kernel_rfl,by kernel_rfl⟩
end lJ
namespace iN
noncomputable def fs:FS:=⟨[(.val bY .f),(.val (.int .i64) .f),(.val (.int .i64) .f),(.val (.int .i64) .f),(.val (.int .i64) .f)],[(bY,.o),(.bool,.o)],fun x=>iN.pre x.1 x.2.1 x.2.2.1 x.2.2.2.1 x.2.2.2.2.1,fun x=>((),((iN x.1 x.2.1 x.2.2.1 x.2.2.2.1 x.2.2.2.2.1).1,((iN x.1 x.2.1 x.2.2.1 x.2.2.2.1 x.2.2.2.2.1).2,())))⟩
noncomputable def E:fG:=⟨bE,[(54,fM.fs),(109,aU.fs),(146,lJ.fs)],[]⟩
noncomputable def H:List LC:=[]
theorem cZ:aR Tryz.prog E:=aB fM.aMD (aB aU.aMD (aB lJ.aMD (aJ jB)))
theorem loops:∀c,Tryz.f126.body=some c->aI E H c:=aO (by kernel_rfl)
theorem aME:aZ Tryz.prog 126 fs:=aH cZ mixed Tryz.func126 H loops fun⟨x0,x1,x2,x3,x4,()⟩ hw hp=>(show bB E H Tryz.f126 fs.ps fs.rs (x0,(x1,(x2,(x3,(x4,())))))=aQ x0 x1 x2 x3 x4 from by kernel_rfl).trans (eq x0 x1 x2 x3 x4 hw hp)
theorem aMD:cW Tryz.prog 126 fs:=⟨aME,_,Tryz.func126,by kernel_rfl,by kernel_rfl⟩
end iN
namespace lK
noncomputable def fs:FS:=⟨[(.val kA .f),(.val bX .o),(.val jR .f)],[(bX,.o),(dU,.o)],fun x=>lK.pre x.1 x.2.1 x.2.2.1,fun x=>((),((lK x.1 x.2.1 x.2.2.1).1,((lK x.1 x.2.1 x.2.2.1).2,())))⟩
noncomputable def E:fG:=⟨bE,[(124,gD.fs),(125,iT.fs),(126,iN.fs)],[]⟩
noncomputable def H:List LC:=[]
theorem cZ:aR Tryz.prog E:=aB gD.aMD (aB iT.aMD (aB iN.aMD (aJ jB)))
theorem loops:∀c,Tryz.f112.body=some c->aI E H c:=aO (by kernel_rfl)
theorem aME:aZ Tryz.prog 112 fs:=aH cZ mixed Tryz.func112 H loops fun⟨x0,x1,x2,()⟩ hw hp=>(show bB E H Tryz.f112 fs.ps fs.rs (x0,(x1,(x2,())))=aQ x0 x1 x2 from by kernel_rfl).trans (eq x0 x1 x2 hw hp)
theorem aMD:cW Tryz.prog 112 fs:=⟨aME,_,Tryz.func112,by kernel_rfl,by kernel_rfl⟩
end lK
namespace gB
noncomputable def nJ:List (Nat×vN):=[(0,(.box cJ (.pair (.dat (.int .i64)) (.pair (.dat (.int .i64)) (.pair (.dat (.int .i64)) (.pair (.dat (.int .i64)) (.pair (.arr 20000000) (.dat .unit)))))))),(20000000,(.arr 118 (.pair (.int .i64) (.pair (.int .i64) .unit))))]
noncomputable def fs:FS:=⟨[(.val (.sl 80 cJ) .f),(.val (.int .i64) .f),(.val (.int .i64) .f)],[(cJ,.o)],fun x=>gB.pre x.1 x.2.1 x.2.2.1,fun x=>((),((gB x.1 x.2.1 x.2.2.1),()))⟩
noncomputable def E:fG:=⟨bE,[(108,aK.fs)],[]⟩
noncomputable def rP:gJ:=⟨((.one (.dat (.sl 80 cJ)))::ui::ui::uu::uu::uu::(.one (.bptr 0 [] cJ))::ui::un 30 []),nJ⟩
noncomputable def fW:List hJ:=[⟨.ret,⟨0,[6],[],[]⟩,⟨(un 6 ((.one (.bptr 0 [] cJ))::un 31 [])),nJ⟩⟩,⟨(.exit 0),⟨0,[1,2,6],[],[]⟩,⟨(uu::ui::ui::uu::uu::uu::(.one (.bptr 0 [] cJ))::un 31 []),nJ⟩⟩]
noncomputable def L2:LC:=⟨2,⟨2,[0,1,2,6,7],[],[]⟩,rP,fW,pre2,fn2⟩
noncomputable def H:List LC:=[L2]
noncomputable def code(i:Nat):Code:=(bI (cU Tryz.f147)).getD i .skip
theorem lC:cP E H (code 0) L2:=⟨mA,fun⟨x1,x2,x3,x4,x5,x6,x7,x8,x9,x10,()⟩ hp=>aV (show L2.step E H (code 0) (x1,(x2,(x3,(x4,(x5,(x6,(x7,(x8,(x9,(x10,()))))))))))=dT x1 x2 x3 x4 x5 x6 x7 x8 x9 x10 from by kernel_rfl) (rR x1 x2 x3 x4 x5 x6 x7 x8 x9 x10 hp)⟩
theorem cZ:aR Tryz.prog E:=aB aK.aMD (aJ jB)
theorem loops:∀c,Tryz.f147.body=some c->aI E H c:=bH (by kernel_rfl) (by kernel_rfl) fun i l h=>match i,h with
  |0,h=>Option.some.inj h▸lC
  |n+1,h=>by cases h
theorem aME:aZ Tryz.prog 147 fs:=aH cZ mixed Tryz.func147 H loops fun⟨x0,x1,x2,()⟩ hw hp=>(show bB E H Tryz.f147 fs.ps fs.rs (x0,(x1,(x2,())))=aQ x0 x1 x2 from by kernel_rfl).trans (eq x0 x1 x2 hw hp)
theorem aMD:cW Tryz.prog 147 fs:=⟨aME,_,Tryz.func147,by kernel_rfl,by kernel_rfl⟩
end gB
namespace eS
noncomputable def fs:FS:=⟨[(.val cJ .f),(.val (.int .i64) .f),(.val (.int .i64) .f)],[((.int .i64),.o),((.int .i64),.o)],fun x=>eS.pre x.1 x.2.1 x.2.2.1,fun x=>((),((eS x.1 x.2.1 x.2.2.1).1,((eS x.1 x.2.1 x.2.2.1).2,())))⟩
noncomputable def E:fG:=⟨bE,[],[]⟩
noncomputable def aLk:gJ:=⟨(uu::uu::ui::(.one (.bptr 0 [] cJ))::un 4 (ui::un 40 [])),[(0,(.box cJ (.dat cJ)))]⟩
noncomputable def aHd:List hJ:=[⟨.ret,⟨0,[6,7],[],[]⟩,⟨(un 6 (ui::ui::un 41 [])),[]⟩⟩,⟨(.exit 0),⟨0,[],[],[]⟩,⟨(un 49 []),[]⟩⟩]
noncomputable def L12:LC:=⟨12,⟨12,[2,3,8],[],[]⟩,aLk,aHd,pre12,fn12⟩
noncomputable def H:List LC:=[L12]
noncomputable def code(i:Nat):Code:=(bI (cU Tryz.f148)).getD i .skip
theorem aJf:cP E H (code 0) L12:=⟨aGY,fun⟨x1,x2,x3,()⟩ hp=>aV (show L12.step E H (code 0) (x1,(x2,(x3,())))=aCL x1 x2 x3 from by kernel_rfl) (aL9 x1 x2 x3 hp)⟩
theorem cZ:aR Tryz.prog E:=aJ jB
theorem loops:∀c,Tryz.f148.body=some c->aI E H c:=bH (by kernel_rfl) (by kernel_rfl) fun i l h=>match i,h with
  |0,h=>Option.some.inj h▸aJf
  |n+1,h=>by cases h
theorem aME:aZ Tryz.prog 148 fs:=aH cZ mixed Tryz.func148 H loops fun⟨x0,x1,x2,()⟩ hw hp=>(show bB E H Tryz.f148 fs.ps fs.rs (x0,(x1,(x2,())))=aQ x0 x1 x2 from by kernel_rfl).trans (eq x0 x1 x2 hw hp)
theorem aMD:cW Tryz.prog 148 fs:=⟨aME,_,Tryz.func148,by kernel_rfl,by kernel_rfl⟩
end eS
namespace lQ
noncomputable def fs:FS:=⟨[(.val fH .f)],[(.bool,.o)],fun x=>lQ.pre x.1,fun x=>((),((lQ x.1),()))⟩
noncomputable def E:fG:=⟨bE,[(54,fM.fs),(55,jW.fs)],[]⟩
noncomputable def H:List LC:=[]
theorem cZ:aR Tryz.prog E:=aB fM.aMD (aB jW.aMD (aJ jB))
theorem loops:∀c,Tryz.f167.body=some c->aI E H c:=aO (by kernel_rfl)
theorem aME:aZ Tryz.prog 167 fs:=aH cZ mixed Tryz.func167 H loops fun⟨x0,()⟩ hw hp=>(show bB E H Tryz.f167 fs.ps fs.rs (x0,())=aQ x0 from by kernel_rfl).trans (eq x0 hw hp)
theorem aMD:cW Tryz.prog 167 fs:=⟨aME,_,Tryz.func167,by kernel_rfl,by kernel_rfl⟩
end lQ
namespace eP
noncomputable def nJ:List (Nat×vN):=[(0,(.box bJ (.dat bJ)))]
noncomputable def fs:FS:=⟨[(.val bJ .f)],[(.bool,.o)],fun x=>eP.pre x.1,fun x=>((),((eP x.1),()))⟩
noncomputable def E:fG:=⟨bE,[(54,fM.fs),(167,lQ.fs)],[]⟩
noncomputable def rP:gJ:=⟨(uu::(.one (.bptr 0 [] bJ))::uu::ui::un 65 []),nJ⟩
noncomputable def fW:List hJ:=[⟨.ret,⟨0,[2],[],[]⟩,⟨(uu::uu::(.one (.dat .bool))::un 66 []),[]⟩⟩,⟨(.exit 0),⟨0,[1],[],[]⟩,⟨(uu::(.one (.bptr 0 [] bJ))::un 67 []),nJ⟩⟩]
noncomputable def L2:LC:=⟨2,⟨2,[1,3],[],[]⟩,rP,fW,pre2,fn2⟩
noncomputable def H:List LC:=[L2]
noncomputable def code(i:Nat):Code:=(bI (cU Tryz.f152)).getD i .skip
theorem lC:cP E H (code 0) L2:=⟨mA,fun⟨x1,x2,()⟩ hp=>aV (show L2.step E H (code 0) (x1,(x2,()))=dT x1 x2 from by kernel_rfl) (rR x1 x2 hp)⟩
theorem cZ:aR Tryz.prog E:=aB fM.aMD (aB lQ.aMD (aJ jB))
theorem loops:∀c,Tryz.f152.body=some c->aI E H c:=bH (by kernel_rfl) (by kernel_rfl) fun i l h=>match i,h with
  |0,h=>Option.some.inj h▸lC
  |n+1,h=>by cases h
theorem aME:aZ Tryz.prog 152 fs:=aH cZ mixed Tryz.func152 H loops fun⟨x0,()⟩ hw hp=>(show bB E H Tryz.f152 fs.ps fs.rs (x0,())=aQ x0 from by kernel_rfl).trans (eq x0 hw hp)
theorem aMD:cW Tryz.prog 152 fs:=⟨aME,_,Tryz.func152,by kernel_rfl,by kernel_rfl⟩
end eP
namespace kV
noncomputable def fs:FS:=⟨[(.val bJ .f),(.val .str .f),(.val .str .f),(.val (.int .i64) .f),(.val (.int .i64) .f)],[(bJ,.o),((.int .i64),.o),(.bool,.o)],fun x=>kV.pre x.1 x.2.1 x.2.2.1 x.2.2.2.1 x.2.2.2.2.1,fun x=>((),((kV x.1 x.2.1 x.2.2.1 x.2.2.2.1 x.2.2.2.2.1).1,((kV x.1 x.2.1 x.2.2.1 x.2.2.2.1 x.2.2.2.2.1).2.1,((kV x.1 x.2.1 x.2.2.1 x.2.2.2.1 x.2.2.2.2.1).2.2,()))))⟩
noncomputable def E:fG:=⟨bE,[(107,bP.fs),(152,eP.fs)],[]⟩
noncomputable def H:List LC:=[]
theorem cZ:aR Tryz.prog E:=aB bP.aMD (aB eP.aMD (aJ jB))
theorem loops:∀c,Tryz.f149.body=some c->aI E H c:=aO (by kernel_rfl)
theorem aME:aZ Tryz.prog 149 fs:=aH cZ mixed Tryz.func149 H loops fun⟨x0,x1,x2,x3,x4,()⟩ hw hp=>(show bB E H Tryz.f149 fs.ps fs.rs (x0,(x1,(x2,(x3,(x4,())))))=aQ x0 x1 x2 x3 x4 from by kernel_rfl).trans (eq x0 x1 x2 x3 x4 hw hp)
theorem aMD:cW Tryz.prog 149 fs:=⟨aME,_,Tryz.func149,by kernel_rfl,by kernel_rfl⟩
end kV
namespace qB
noncomputable def fs:FS:=⟨[(.val (.int .i64) .f),(.val (.int .i64) .f)],[((.int .i64),.o)],fun _=>true,fun x=>((),((qB x.1 x.2.1),()))⟩
noncomputable def E:fG:=⟨bE,[],[]⟩
noncomputable def H:List LC:=[]
theorem cZ:aR Tryz.prog E:=aJ jB
theorem loops:∀c,Tryz.f166.body=some c->aI E H c:=aO (by kernel_rfl)
theorem aME:aZ Tryz.prog 166 fs:=aH cZ mixed Tryz.func166 H loops fun⟨x0,x1,()⟩ hw _=>(show bB E H Tryz.f166 fs.ps fs.rs (x0,(x1,()))=aQ x0 x1 from by kernel_rfl).trans (eq x0 x1 hw)
theorem aMD:cW Tryz.prog 166 fs:=⟨aME,_,Tryz.func166,by kernel_rfl,by kernel_rfl⟩
end qB
namespace kF
noncomputable def fs:FS:=⟨[(.val cJ .f),(.val (.int .i64) .f),(.val (.int .i64) .f),(.val (.int .i64) .f),(.val (.int .i64) .f)],[(cJ,.o)],fun x=>kF.pre x.1 x.2.1 x.2.2.1 x.2.2.2.1 x.2.2.2.2.1,fun x=>((),((kF x.1 x.2.1 x.2.2.1 x.2.2.2.1 x.2.2.2.2.1),()))⟩
noncomputable def E:fG:=⟨bE,[(108,aK.fs),(148,eS.fs),(166,qB.fs)],[]⟩
noncomputable def H:List LC:=[]
theorem cZ:aR Tryz.prog E:=aB aK.aMD (aB eS.aMD (aB qB.aMD (aJ jB)))
theorem loops:∀c,Tryz.f151.body=some c->aI E H c:=aO (by kernel_rfl)
theorem aME:aZ Tryz.prog 151 fs:=aH cZ mixed Tryz.func151 H loops fun⟨x0,x1,x2,x3,x4,()⟩ hw hp=>(show bB E H Tryz.f151 fs.ps fs.rs (x0,(x1,(x2,(x3,(x4,())))))=aQ x0 x1 x2 x3 x4 from by kernel_rfl).trans (eq x0 x1 x2 x3 x4 hw hp)
theorem aMD:cW Tryz.prog 151 fs:=⟨aME,_,Tryz.func151,by kernel_rfl,by kernel_rfl⟩
end kF
namespace gI
noncomputable def nJ:List (Nat×vN):=[(0,(.box cJ (.dat cJ))),(20000000,(.arr 80 cJ))]
noncomputable def fs:FS:=⟨[(.val (.sl 80 cJ) .f),(.val cJ .f)],[((.sl 80 cJ),.o)],fun x=>gI.pre x.1 x.2.1,fun x=>((),((gI x.1 x.2.1),()))⟩
noncomputable def E:fG:=⟨bE,[(108,aK.fs)],[]⟩
noncomputable def uL:gJ:=⟨((.one (.dat (.sl 80 cJ)))::uu::uu::(.one (.bptr 0 [] cJ))::uu::(.one (.arr 20000000))::(.one (.dat .bool))::ui::un 72 []),nJ⟩
noncomputable def jD:List hJ:=[⟨(.exit 0),⟨0,[3,5,6],[(5,(80,cJ))],[]⟩,⟨(uu::uu::uu::(.one (.bptr 0 [] cJ))::uu::(.one (.arr 20000000))::(.one (.dat .bool))::un 73 []),nJ⟩⟩]
noncomputable def L4:LC:=⟨4,⟨4,[0,3,5,6,7],[(5,(80,cJ))],[]⟩,uL,jD,pre4,fn4⟩
noncomputable def H:List LC:=[L4]
noncomputable def code(i:Nat):Code:=(bI (cU Tryz.f150)).getD i .skip
theorem mT:cP E H (code 0) L4:=⟨lN,fun⟨x1,x2,x3,x4,x5,()⟩ hp=>aV (show L4.step E H (code 0) (x1,(x2,(x3,(x4,(x5,())))))=eA x1 x2 x3 x4 x5 from by kernel_rfl) (uM x1 x2 x3 x4 x5 hp)⟩
theorem cZ:aR Tryz.prog E:=aB aK.aMD (aJ jB)
theorem loops:∀c,Tryz.f150.body=some c->aI E H c:=bH (by kernel_rfl) (by kernel_rfl) fun i l h=>match i,h with
  |0,h=>Option.some.inj h▸mT
  |n+1,h=>by cases h
theorem aME:aZ Tryz.prog 150 fs:=aH cZ mixed Tryz.func150 H loops fun⟨x0,x1,()⟩ hw hp=>(show bB E H Tryz.f150 fs.ps fs.rs (x0,(x1,()))=aQ x0 x1 from by kernel_rfl).trans (eq x0 x1 hw hp)
theorem aMD:cW Tryz.prog 150 fs:=⟨aME,_,Tryz.func150,by kernel_rfl,by kernel_rfl⟩
end gI
namespace mJ
noncomputable def fs:FS:=⟨[(.val kA .f),(.val bX .o),(.val jR .f)],[(bX,.o),(dU,.o)],fun x=>mJ.pre x.1 x.2.1 x.2.2.1,fun x=>((),((mJ x.1 x.2.1 x.2.2.1).1,((mJ x.1 x.2.1 x.2.2.1).2,())))⟩
noncomputable def E:fG:=⟨bE,[(147,gB.fs),(148,eS.fs),(149,kV.fs),(151,kF.fs),(150,gI.fs)],[]⟩
noncomputable def H:List LC:=[]
theorem cZ:aR Tryz.prog E:=aB gB.aMD (aB eS.aMD (aB kV.aMD (aB kF.aMD (aB gI.aMD (aJ jB)))))
theorem loops:∀c,Tryz.f127.body=some c->aI E H c:=aO (by kernel_rfl)
theorem aME:aZ Tryz.prog 127 fs:=aH cZ mixed Tryz.func127 H loops fun⟨x0,x1,x2,()⟩ hw hp=>(show bB E H Tryz.f127 fs.ps fs.rs (x0,(x1,(x2,())))=aQ x0 x1 x2 from by kernel_rfl).trans (eq x0 x1 x2 hw hp)
theorem aMD:cW Tryz.prog 127 fs:=⟨aME,_,Tryz.func127,by kernel_rfl,by kernel_rfl⟩
end mJ
namespace kJ
noncomputable def fs:FS:=⟨[(.val bX .o),(.val jR .f)],[(bX,.o),(dU,.o)],fun x=>kJ.pre x.1 x.2.1,fun x=>((),((kJ x.1 x.2.1).1,((kJ x.1 x.2.1).2,())))⟩
noncomputable def E:fG:=⟨bE,[(147,gB.fs),(150,gI.fs)],[]⟩
noncomputable def H:List LC:=[]
theorem cZ:aR Tryz.prog E:=aB gB.aMD (aB gI.aMD (aJ jB))
theorem loops:∀c,Tryz.f128.body=some c->aI E H c:=aO (by kernel_rfl)
theorem aME:aZ Tryz.prog 128 fs:=aH cZ mixed Tryz.func128 H loops fun⟨x0,x1,()⟩ hw hp=>(show bB E H Tryz.f128 fs.ps fs.rs (x0,(x1,()))=aQ x0 x1 from by kernel_rfl).trans (eq x0 x1 hw hp)
theorem aMD:cW Tryz.prog 128 fs:=⟨aME,_,Tryz.func128,by kernel_rfl,by kernel_rfl⟩
end kJ
namespace kB
noncomputable def nJ:List (Nat×vN):=[(32,(.box fH (.dat fH)))]
noncomputable def fs:FS:=⟨[(.val bJ .f),(.val (.int .i64) .f)],[(fH,.o),((.int .i64),.o)],fun x=>kB.pre x.1 x.2.1,fun x=>((),((kB x.1 x.2.1).1,((kB x.1 x.2.1).2,())))⟩
noncomputable def E:fG:=⟨bE,[],[]⟩
noncomputable def uL:gJ:=⟨(uu::ui::(.one (.bptr 0 [] bJ))::uu::(.one (.bptr 32 [] fH))::uu::ui::un 26 []),[(0,(.box bJ (.dat bJ))),(32,(.box fH (.dat fH)))]⟩
noncomputable def jD:List hJ:=[⟨.ret,⟨0,[4,5],[],[]⟩,⟨(un 4 ((.one (.bptr 32 [] fH))::ui::un 27 [])),nJ⟩⟩,⟨(.exit 0),⟨0,[4],[],[]⟩,⟨(un 4 ((.one (.bptr 32 [] fH))::un 28 [])),nJ⟩⟩]
noncomputable def L4:LC:=⟨4,⟨4,[1,2,4,6],[],[]⟩,uL,jD,pre4,fn4⟩
noncomputable def H:List LC:=[L4]
noncomputable def code(i:Nat):Code:=(bI (cU Tryz.f129)).getD i .skip
theorem mT:cP E H (code 0) L4:=⟨lN,fun⟨x1,x2,x3,x4,()⟩ hp=>aV (show L4.step E H (code 0) (x1,(x2,(x3,(x4,()))))=eA x1 x2 x3 x4 from by kernel_rfl) (uM x1 x2 x3 x4 hp)⟩
theorem cZ:aR Tryz.prog E:=aJ jB
theorem loops:∀c,Tryz.f129.body=some c->aI E H c:=bH (by kernel_rfl) (by kernel_rfl) fun i l h=>match i,h with
  |0,h=>Option.some.inj h▸mT
  |n+1,h=>by cases h
theorem aME:aZ Tryz.prog 129 fs:=aH cZ mixed Tryz.func129 H loops fun⟨x0,x1,()⟩ hw hp=>(show bB E H Tryz.f129 fs.ps fs.rs (x0,(x1,()))=aQ x0 x1 from by kernel_rfl).trans (eq x0 x1 hw hp)
theorem aMD:cW Tryz.prog 129 fs:=⟨aME,_,Tryz.func129,by kernel_rfl,by kernel_rfl⟩
end kB
namespace iG
noncomputable def nJ:List (Nat×vN):=[(0,(.box bJ (.dat bJ))),(32,(.box bJ (.pair (.dat (.int .i64)) (.pair (.dat (.int .i64)) (.pair (.arr 20000000) (.dat .unit)))))),(20000000,(.arr 44 fH)),(8256,(.box bJ (.pair (.dat (.int .i64)) (.pair (.dat (.int .i64)) (.pair (.arr 20000001) (.dat .unit)))))),(20000001,(.arr 44 fH))]
noncomputable def fs:FS:=⟨[(.val bJ .f),(.val (.int .i64) .f),(.val (.int .i64) .f)],[(bJ,.o)],fun x=>iG.pre x.1 x.2.1 x.2.2.1,fun x=>((),((iG x.1 x.2.1 x.2.2.1),()))⟩
noncomputable def E:fG:=⟨bE,[(107,bP.fs),(152,eP.fs)],[]⟩
noncomputable def sh9:gJ:=⟨(uu::ui::ui::(.one (.bptr 0 [] bJ))::uu::uu::(.one (.bptr 32 [] bJ))::(.one (.bptr 8256 [] bJ))::ui::ui::un 66 []),nJ⟩
noncomputable def aJl:List hJ:=[⟨(.exit 2),⟨0,[1,2,3,6,7,8,9],[],[]⟩,⟨(uu::ui::ui::(.one (.bptr 0 [] bJ))::uu::uu::(.one (.bptr 32 [] bJ))::(.one (.bptr 8256 [] bJ))::ui::ui::un 66 []),nJ⟩⟩]
noncomputable def L9:LC:=⟨9,⟨9,[1,2,3,6,7,8,9],[],[]⟩,sh9,aJl,pre9,fn9⟩
noncomputable def uL:gJ:=⟨(uu::ui::ui::(.one (.bptr 0 [] bJ))::uu::uu::(.one (.bptr 32 [] bJ))::(.one (.bptr 8256 [] bJ))::un 68 []),nJ⟩
noncomputable def jD:List hJ:=[⟨.ret,⟨0,[6],[],[]⟩,⟨(un 6 ((.one (.bptr 32 [] bJ))::un 69 [])),[(32,(.box bJ (.pair (.dat (.int .i64)) (.pair (.dat (.int .i64)) (.pair (.arr 20000000) (.dat .unit)))))),(20000000,(.arr 44 fH))]⟩⟩,⟨(.exit 0),⟨0,[6,7],[],[]⟩,⟨(un 6 ((.one (.bptr 32 [] bJ))::(.one (.bptr 8256 [] bJ))::un 68 [])),[(32,(.box bJ (.pair (.dat (.int .i64)) (.pair (.dat (.int .i64)) (.pair (.arr 20000000) (.dat .unit)))))),(20000000,(.arr 44 fH)),(8256,(.box bJ (.pair (.dat (.int .i64)) (.pair (.dat (.int .i64)) (.pair (.arr 20000001) (.dat .unit)))))),(20000001,(.arr 44 fH))]⟩⟩]
noncomputable def L4:LC:=⟨4,⟨4,[1,2,3,6,7],[],[]⟩,uL,jD,pre4,fn4⟩
noncomputable def H:List LC:=[L4,L9]
noncomputable def code(i:Nat):Code:=(bI (cU Tryz.f130)).getD i .skip
theorem mT:cP E H (code 0) L4:=⟨lN,fun⟨x1,x2,x3,x4,x5,x6,x7,x8,x9,x10,x11,()⟩ hp=>aV (show L4.step E H (code 0) (x1,(x2,(x3,(x4,(x5,(x6,(x7,(x8,(x9,(x10,(x11,())))))))))))=eA x1 x2 x3 x4 x5 x6 x7 x8 x9 x10 x11 from by kernel_rfl) (uM x1 x2 x3 x4 x5 x6 x7 x8 x9 x10 x11 hp)⟩
theorem aLg:cP E H (code 1) L9:=⟨mu9,fun⟨x1,x2,x3,x4,x5,x6,x7,x8,x9,x10,x11,x12,x13,()⟩ hp=>aV (show L9.step E H (code 1) (x1,(x2,(x3,(x4,(x5,(x6,(x7,(x8,(x9,(x10,(x11,(x12,(x13,())))))))))))))=aHA x1 x2 x3 x4 x5 x6 x7 x8 x9 x10 x11 x12 x13 from by kernel_rfl) (ok9 x1 x2 x3 x4 x5 x6 x7 x8 x9 x10 x11 x12 x13 hp)⟩
theorem cZ:aR Tryz.prog E:=aB bP.aMD (aB eP.aMD (aJ jB))
theorem loops:∀c,Tryz.f130.body=some c->aI E H c:=bH (by kernel_rfl) (by kernel_rfl) fun i l h=>match i,h with
  |0,h=>Option.some.inj h▸mT
  |1,h=>Option.some.inj h▸aLg
  |n+2,h=>by cases h
theorem aME:aZ Tryz.prog 130 fs:=aH cZ mixed Tryz.func130 H loops fun⟨x0,x1,x2,()⟩ hw hp=>(show bB E H Tryz.f130 fs.ps fs.rs (x0,(x1,(x2,())))=aQ x0 x1 x2 from by kernel_rfl).trans (eq x0 x1 x2 hw hp)
theorem aMD:cW Tryz.prog 130 fs:=⟨aME,_,Tryz.func130,by kernel_rfl,by kernel_rfl⟩
end iG
namespace gX
noncomputable def fs:FS:=⟨[(.val bJ .f),(.val (.int .i64) .f)],[(.bool,.o)],fun x=>gX.pre x.1 x.2.1,fun x=>((),((gX x.1 x.2.1),()))⟩
noncomputable def E:fG:=⟨bE,[],[]⟩
noncomputable def rP:gJ:=⟨(uu::ui::(.one (.bptr 0 [] bJ))::uu::uu::ui::un 22 []),[(0,(.box bJ (.dat bJ)))]⟩
noncomputable def fW:List hJ:=[⟨.ret,⟨0,[4],[],[]⟩,⟨(un 4 ((.one (.dat .bool))::un 23 [])),[]⟩⟩,⟨(.exit 0),⟨0,[],[],[]⟩,⟨(un 28 []),[]⟩⟩]
noncomputable def L2:LC:=⟨2,⟨2,[1,2,5],[],[]⟩,rP,fW,pre2,fn2⟩
noncomputable def H:List LC:=[L2]
noncomputable def code(i:Nat):Code:=(bI (cU Tryz.f153)).getD i .skip
theorem lC:cP E H (code 0) L2:=⟨mA,fun⟨x1,x2,x3,()⟩ hp=>aV (show L2.step E H (code 0) (x1,(x2,(x3,())))=dT x1 x2 x3 from by kernel_rfl) (rR x1 x2 x3 hp)⟩
theorem cZ:aR Tryz.prog E:=aJ jB
theorem loops:∀c,Tryz.f153.body=some c->aI E H c:=bH (by kernel_rfl) (by kernel_rfl) fun i l h=>match i,h with
  |0,h=>Option.some.inj h▸lC
  |n+1,h=>by cases h
theorem aME:aZ Tryz.prog 153 fs:=aH cZ mixed Tryz.func153 H loops fun⟨x0,x1,()⟩ hw hp=>(show bB E H Tryz.f153 fs.ps fs.rs (x0,(x1,()))=aQ x0 x1 from by kernel_rfl).trans (eq x0 x1 hw hp)
theorem aMD:cW Tryz.prog 153 fs:=⟨aME,_,Tryz.func153,by kernel_rfl,by kernel_rfl⟩
end gX
namespace jM
noncomputable def fs:FS:=⟨[(.val bJ .f),(.val (.int .i64) .f)],[(bJ,.o)],fun x=>jM.pre x.1 x.2.1,fun x=>((),((jM x.1 x.2.1),()))⟩
noncomputable def E:fG:=⟨bE,[(107,bP.fs),(152,eP.fs),(153,gX.fs)],[]⟩
noncomputable def sh5:gJ:=⟨(uu::ui::(.one (.bptr 0 [] bJ))::uu::(.one (.bptr 32 [] bJ))::(.one (.bptr 24736 [] bJ))::ui::un 55 []),[(0,(.box bJ (.dat bJ))),(32,(.box bJ (.pair (.dat (.int .i64)) (.pair (.dat (.int .i64)) (.pair (.arr 20000000) (.dat .unit)))))),(20000000,(.arr 44 fH)),(24736,(.box bJ (.pair (.dat (.int .i64)) (.pair (.dat (.int .i64)) (.pair (.arr 20000001) (.dat .unit)))))),(20000001,(.arr 44 fH))]⟩
noncomputable def yO:List hJ:=[⟨(.exit 0),⟨0,[4,5],[],[]⟩,⟨(un 4 ((.one (.bptr 32 [] bJ))::(.one (.bptr 24736 [] bJ))::un 56 [])),[(32,(.box bJ (.pair (.dat (.int .i64)) (.pair (.dat (.int .i64)) (.pair (.arr 20000000) (.dat .unit)))))),(20000000,(.arr 44 fH)),(24736,(.box bJ (.pair (.dat (.int .i64)) (.pair (.dat (.int .i64)) (.pair (.arr 20000001) (.dat .unit)))))),(20000001,(.arr 44 fH))]⟩⟩]
noncomputable def L5:LC:=⟨5,⟨5,[1,2,4,5,6],[],[]⟩,sh5,yO,pre5,fn5⟩
noncomputable def H:List LC:=[L5]
noncomputable def code(i:Nat):Code:=(bI (cU Tryz.f131)).getD i .skip
theorem aDN:cP E H (code 0) L5:=⟨mu5,fun⟨x1,x2,x3,x4,x5,x6,x7,x8,x9,x10,x11,()⟩ hp=>aV (show L5.step E H (code 0) (x1,(x2,(x3,(x4,(x5,(x6,(x7,(x8,(x9,(x10,(x11,())))))))))))=rA x1 x2 x3 x4 x5 x6 x7 x8 x9 x10 x11 from by kernel_rfl) (ok5 x1 x2 x3 x4 x5 x6 x7 x8 x9 x10 x11 hp)⟩
theorem cZ:aR Tryz.prog E:=aB bP.aMD (aB eP.aMD (aB gX.aMD (aJ jB)))
theorem loops:∀c,Tryz.f131.body=some c->aI E H c:=bH (by kernel_rfl) (by kernel_rfl) fun i l h=>match i,h with
  |0,h=>Option.some.inj h▸aDN
  |n+1,h=>by cases h
theorem aME:aZ Tryz.prog 131 fs:=aH cZ mixed Tryz.func131 H loops fun⟨x0,x1,()⟩ hw hp=>(show bB E H Tryz.f131 fs.ps fs.rs (x0,(x1,()))=aQ x0 x1 from by kernel_rfl).trans (eq x0 x1 hw hp)
theorem aMD:cW Tryz.prog 131 fs:=⟨aME,_,Tryz.func131,by kernel_rfl,by kernel_rfl⟩
end jM
namespace nF
noncomputable def fs:FS:=⟨[(.val kA .f),(.val bX .o),(.val jR .f)],[(bX,.o),(dU,.o)],fun x=>nF.pre x.1 x.2.1 x.2.2.1,fun x=>((),((nF x.1 x.2.1 x.2.2.1).1,((nF x.1 x.2.1 x.2.2.1).2,())))⟩
noncomputable def E:fG:=⟨bE,[(127,mJ.fs),(128,kJ.fs),(129,kB.fs),(130,iG.fs),(131,jM.fs)],[]⟩
noncomputable def H:List LC:=[]
theorem cZ:aR Tryz.prog E:=aB mJ.aMD (aB kJ.aMD (aB kB.aMD (aB iG.aMD (aB jM.aMD (aJ jB)))))
theorem loops:∀c,Tryz.f113.body=some c->aI E H c:=aO (by kernel_rfl)
theorem aME:aZ Tryz.prog 113 fs:=aH cZ mixed Tryz.func113 H loops fun⟨x0,x1,x2,()⟩ hw hp=>(show bB E H Tryz.f113 fs.ps fs.rs (x0,(x1,(x2,())))=aQ x0 x1 x2 from by kernel_rfl).trans (eq x0 x1 x2 hw hp)
theorem aMD:cW Tryz.prog 113 fs:=⟨aME,_,Tryz.func113,by kernel_rfl,by kernel_rfl⟩
end nF
namespace lG
noncomputable def nJ:List (Nat×vN):=[(32,(.box bX (.pair (.arr 20000000) (.pair (.arr 20000001) (.pair (.arr 20000002) (.pair (.dat (.int .i64)) (.pair (.arr 20000003) (.pair (.arr 20000004) (.dat .unit))))))))),(20000000,(.arr 42 bJ)),(20000001,(.arr 80 cJ)),(20000002,(.arr 83 bY)),(20000003,(.arr 3 (.int .i64))),(20000004,(.arr 48 dU)),(96,(.box bX (.pair (.arr 20000005) (.pair (.arr 20000006) (.pair (.arr 20000007) (.pair (.dat (.int .i64)) (.pair (.arr 20000008) (.pair (.arr 20000009) (.dat .unit))))))))),(20000005,(.arr 42 bJ)),(20000006,(.arr 80 cJ)),(20000007,(.arr 83 bY)),(20000008,(.arr 3 (.int .i64))),(20000009,(.arr 48 dU)),(128,(.box dU (.dat dU)))]
noncomputable def fs:FS:=⟨[(.val kA .f),(.val bX .o),(.val jR .f)],[(bX,.o),(dU,.o)],fun x=>lG.pre x.1 x.2.1 x.2.2.1,fun x=>((),((lG x.1 x.2.1 x.2.2.1).1,((lG x.1 x.2.1 x.2.2.1).2,())))⟩
noncomputable def E:fG:=⟨bE,[(54,fM.fs),(110,qD.fs),(111,gS.fs),(112,lK.fs),(113,nF.fs)],[]⟩
noncomputable def uL:gJ:=⟨(un 4 ((.one (.bptr 32 [] bX))::uu::(.one (.bptr 96 [] bX))::(.one (.bptr 128 [] dU))::ui::un 70 [])),nJ⟩
noncomputable def jD:List hJ:=[⟨(.exit 0),⟨0,[4,6,7],[],[]⟩,⟨(un 4 ((.one (.bptr 32 [] bX))::uu::(.one (.bptr 96 [] bX))::(.one (.bptr 128 [] dU))::un 71 [])),nJ⟩⟩]
noncomputable def L4:LC:=⟨4,⟨4,[4,6,7,8],[],[]⟩,uL,jD,pre4,fn4⟩
noncomputable def H:List LC:=[L4]
noncomputable def code(i:Nat):Code:=(bI (cU Tryz.f86)).getD i .skip
theorem mT:cP E H (code 0) L4:=⟨lN,fun⟨x1,x2,x3,x4,x5,x6,x7,x8,x9,x10,x11,x12,x13,x14,x15,x16,()⟩ hp=>aV (show L4.step E H (code 0) (x1,(x2,(x3,(x4,(x5,(x6,(x7,(x8,(x9,(x10,(x11,(x12,(x13,(x14,(x15,(x16,()))))))))))))))))=eA x1 x2 x3 x4 x5 x6 x7 x8 x9 x10 x11 x12 x13 x14 x15 x16 from by kernel_rfl) (uM x1 x2 x3 x4 x5 x6 x7 x8 x9 x10 x11 x12 x13 x14 x15 x16 hp)⟩
theorem cZ:aR Tryz.prog E:=aB fM.aMD (aB qD.aMD (aB gS.aMD (aB lK.aMD (aB nF.aMD (aJ jB)))))
theorem loops:∀c,Tryz.f86.body=some c->aI E H c:=bH (by kernel_rfl) (by kernel_rfl) fun i l h=>match i,h with
  |0,h=>Option.some.inj h▸mT
  |n+1,h=>by cases h
theorem aME:aZ Tryz.prog 86 fs:=aH cZ mixed Tryz.func86 H loops fun⟨x0,x1,x2,()⟩ hw hp=>(show bB E H Tryz.f86 fs.ps fs.rs (x0,(x1,(x2,())))=aQ x0 x1 x2 from by kernel_rfl).trans (eq x0 x1 x2 hw hp)
theorem aMD:cW Tryz.prog 86 fs:=⟨aME,_,Tryz.func86,by kernel_rfl,by kernel_rfl⟩
end lG
namespace nS
noncomputable def fs:FS:=⟨[(.val kA .f),(.val bX .f),(.val jR .f)],[(bX,.o),(dU,.o)],fun x=>nS.pre x.1 x.2.1 x.2.2.1,fun x=>((),((nS x.1 x.2.1 x.2.2.1).1,((nS x.1 x.2.1 x.2.2.1).2,())))⟩
noncomputable def E:fG:=⟨bE,[(85,eE.fs),(86,lG.fs)],[]⟩
noncomputable def H:List LC:=[]
theorem cZ:aR Tryz.prog E:=aB eE.aMD (aB lG.aMD (aJ jB))
theorem loops:∀c,Tryz.f39.body=some c->aI E H c:=aO (by kernel_rfl)
theorem aME:aZ Tryz.prog 39 fs:=aH cZ mixed Tryz.func39 H loops fun⟨x0,x1,x2,()⟩ hw hp=>(show bB E H Tryz.f39 fs.ps fs.rs (x0,(x1,(x2,())))=aQ x0 x1 x2 from by kernel_rfl).trans (eq x0 x1 x2 hw hp)
theorem aMD:cW Tryz.prog 39 fs:=⟨aME,_,Tryz.func39,by kernel_rfl,by kernel_rfl⟩
end nS
namespace gQ
noncomputable def fs:FS:=⟨[(.val kA .f),(.val (.sl 46 jR) .f)],[(bX,.o),((.sl 48 dU),.o)],fun x=>gQ.pre x.1 x.2.1,fun x=>((),((gQ x.1 x.2.1).1,((gQ x.1 x.2.1).2,())))⟩
noncomputable def E:fG:=⟨bE,[(37,kM.fs),(16,iE.fs),(38,oD.fs),(39,nS.fs)],[]⟩
noncomputable def uL:gJ:=⟨(uu::(.one (.dat (.sl 46 jR)))::(.one (.bptr 0 [] kA))::uu::(.one (.bptr 32 [] bX))::uu::(.one (.arr 20000005))::(.one (.bptr 16448 [] bX))::ui::un 40 []),[(0,(.box kA (.dat kA))),(32,(.box bX (.pair (.arr 20000000) (.pair (.arr 20000001) (.pair (.arr 20000002) (.pair (.dat (.int .i64)) (.pair (.arr 20000003) (.pair (.arr 20000004) (.dat .unit))))))))),(20000000,(.arr 42 bJ)),(20000001,(.arr 80 cJ)),(20000002,(.arr 83 bY)),(20000003,(.arr 3 (.int .i64))),(20000004,(.arr 48 dU)),(20000005,(.arr 48 dU)),(16448,(.box bX (.pair (.arr 20000006) (.pair (.arr 20000007) (.pair (.arr 20000008) (.pair (.dat (.int .i64)) (.pair (.arr 20000009) (.pair (.arr 20000010) (.dat .unit))))))))),(20000006,(.arr 42 bJ)),(20000007,(.arr 80 cJ)),(20000008,(.arr 83 bY)),(20000009,(.arr 3 (.int .i64))),(20000010,(.arr 48 dU))]⟩
noncomputable def jD:List hJ:=[⟨(.exit 0),⟨0,[4,6,7],[(6,(48,dU))],[]⟩,⟨(un 4 ((.one (.bptr 32 [] bX))::uu::(.one (.arr 20000005))::(.one (.bptr 16448 [] bX))::un 41 [])),[(32,(.box bX (.pair (.arr 20000000) (.pair (.arr 20000001) (.pair (.arr 20000002) (.pair (.dat (.int .i64)) (.pair (.arr 20000003) (.pair (.arr 20000004) (.dat .unit))))))))),(20000000,(.arr 42 bJ)),(20000001,(.arr 80 cJ)),(20000002,(.arr 83 bY)),(20000003,(.arr 3 (.int .i64))),(20000004,(.arr 48 dU)),(20000005,(.arr 48 dU)),(16448,(.box bX (.pair (.arr 20000006) (.pair (.arr 20000007) (.pair (.arr 20000008) (.pair (.dat (.int .i64)) (.pair (.arr 20000009) (.pair (.arr 20000010) (.dat .unit))))))))),(20000006,(.arr 42 bJ)),(20000007,(.arr 80 cJ)),(20000008,(.arr 83 bY)),(20000009,(.arr 3 (.int .i64))),(20000010,(.arr 48 dU))]⟩⟩]
noncomputable def L4:LC:=⟨4,⟨4,[1,2,4,6,7,8],[(6,(48,dU))],[]⟩,uL,jD,pre4,fn4⟩
noncomputable def H:List LC:=[L4]
noncomputable def code(i:Nat):Code:=(bI (cU Tryz.f9)).getD i .skip
theorem mT:cP E H (code 0) L4:=⟨lN,fun⟨x1,x2,x3,x4,x5,x6,x7,x8,x9,x10,x11,x12,x13,x14,x15,x16,x17,x18,()⟩ hp=>aV (show L4.step E H (code 0) (x1,(x2,(x3,(x4,(x5,(x6,(x7,(x8,(x9,(x10,(x11,(x12,(x13,(x14,(x15,(x16,(x17,(x18,()))))))))))))))))))=eA x1 x2 x3 x4 x5 x6 x7 x8 x9 x10 x11 x12 x13 x14 x15 x16 x17 x18 from by kernel_rfl) (uM x1 x2 x3 x4 x5 x6 x7 x8 x9 x10 x11 x12 x13 x14 x15 x16 x17 x18 hp)⟩
theorem cZ:aR Tryz.prog E:=aB kM.aMD (aB iE.aMD (aB oD.aMD (aB nS.aMD (aJ jB))))
theorem loops:∀c,Tryz.f9.body=some c->aI E H c:=bH (by kernel_rfl) (by kernel_rfl) fun i l h=>match i,h with
  |0,h=>Option.some.inj h▸mT
  |n+1,h=>by cases h
theorem aME:aZ Tryz.prog 9 fs:=aH cZ mixed Tryz.func9 H loops fun⟨x0,x1,()⟩ hw hp=>(show bB E H Tryz.f9 fs.ps fs.rs (x0,(x1,()))=aQ x0 x1 from by kernel_rfl).trans (eq x0 x1 hw hp)
theorem aMD:cW Tryz.prog 9 fs:=⟨aME,_,Tryz.func9,by kernel_rfl,by kernel_rfl⟩
end gQ
namespace aA
noncomputable def fs:FS:=⟨[(.val (.int .i64) .f),(.val (.int .i64) .f),(.val (.int .i64) .f)],[(.bool,.o)],fun _=>true,fun x=>((),((aA x.1 x.2.1 x.2.2.1),()))⟩
noncomputable def E:fG:=⟨bE,[],[]⟩
noncomputable def H:List LC:=[]
theorem cZ:aR Tryz.prog E:=aJ jB
theorem loops:∀c,Tryz.f44.body=some c->aI E H c:=aO (by kernel_rfl)
theorem aME:aZ Tryz.prog 44 fs:=aH cZ mixed Tryz.func44 H loops fun⟨x0,x1,x2,()⟩ hw _=>(show bB E H Tryz.f44 fs.ps fs.rs (x0,(x1,(x2,())))=aQ x0 x1 x2 from by kernel_rfl).trans (eq x0 x1 x2 hw)
theorem aMD:cW Tryz.prog 44 fs:=⟨aME,_,Tryz.func44,by kernel_rfl,by kernel_rfl⟩
end aA
namespace kK
noncomputable def fs:FS:=⟨[(.val kA .f)],[(.bool,.o)],fun _=>true,fun x=>((),((kK x.1),()))⟩
noncomputable def E:fG:=⟨bE,[(44,aA.fs)],[]⟩
noncomputable def H:List LC:=[]
theorem cZ:aR Tryz.prog E:=aB aA.aMD (aJ jB)
theorem loops:∀c,Tryz.f11.body=some c->aI E H c:=aO (by kernel_rfl)
theorem aME:aZ Tryz.prog 11 fs:=aH cZ mixed Tryz.func11 H loops fun⟨x0,()⟩ hw _=>(show bB E H Tryz.f11 fs.ps fs.rs (x0,())=aQ x0 from by kernel_rfl).trans (eq x0 hw)
theorem aMD:cW Tryz.prog 11 fs:=⟨aME,_,Tryz.func11,by kernel_rfl,by kernel_rfl⟩
end kK
namespace iR
noncomputable def fs:FS:=⟨[(.val (.int .i64) .f)],[(bY,.o)],fun x=>iR.pre x.1,fun x=>((),((iR x.1),()))⟩
noncomputable def E:fG:=⟨bE,[(44,aA.fs)],[]⟩
noncomputable def H:List LC:=[]
theorem cZ:aR Tryz.prog E:=aB aA.aMD (aJ jB)
theorem loops:∀c,Tryz.f51.body=some c->aI E H c:=aO (by kernel_rfl)
theorem aME:aZ Tryz.prog 51 fs:=aH cZ mixed Tryz.func51 H loops fun⟨x0,()⟩ hw hp=>(show bB E H Tryz.f51 fs.ps fs.rs (x0,())=aQ x0 from by kernel_rfl).trans (eq x0 hw hp)
theorem aMD:cW Tryz.prog 51 fs:=⟨aME,_,Tryz.func51,by kernel_rfl,by kernel_rfl⟩
end iR
namespace iC
noncomputable def fs:FS:=⟨[(.val kA .f)],[(bX,.o)],fun x=>iC.pre x.1,fun x=>((),((iC x.1),()))⟩
noncomputable def E:fG:=⟨bE,[(11,kK.fs),(51,iR.fs)],[]⟩
noncomputable def sh5:gJ:=⟨(uu::(.one (.bptr 0 [] kA))::(.one (.bptr 32 [] bX))::(.one (.bptr 24768 [] bX))::ui::un 23 []),[(0,(.box kA (.dat kA))),(32,(.box bX (.pair (.arr 20000000) (.pair (.arr 20000001) (.pair (.arr 20000002) (.pair (.dat (.int .i64)) (.pair (.arr 20000003) (.pair (.arr 20000004) (.dat .unit))))))))),(20000000,(.arr 42 bJ)),(20000001,(.arr 80 cJ)),(20000002,(.arr 83 bY)),(20000003,(.arr 3 (.int .i64))),(20000004,(.arr 48 dU)),(24768,(.box bX (.pair (.arr 20000005) (.pair (.arr 20000006) (.pair (.arr 20000007) (.pair (.dat (.int .i64)) (.pair (.arr 20000008) (.pair (.arr 20000009) (.dat .unit))))))))),(20000005,(.arr 42 bJ)),(20000006,(.arr 80 cJ)),(20000007,(.arr 83 bY)),(20000008,(.arr 3 (.int .i64))),(20000009,(.arr 48 dU))]⟩
noncomputable def yO:List hJ:=[⟨(.exit 0),⟨0,[2,3],[],[]⟩,⟨(uu::uu::(.one (.bptr 32 [] bX))::(.one (.bptr 24768 [] bX))::un 24 []),[(32,(.box bX (.pair (.arr 20000000) (.pair (.arr 20000001) (.pair (.arr 20000002) (.pair (.dat (.int .i64)) (.pair (.arr 20000003) (.pair (.arr 20000004) (.dat .unit))))))))),(20000000,(.arr 42 bJ)),(20000001,(.arr 80 cJ)),(20000002,(.arr 83 bY)),(20000003,(.arr 3 (.int .i64))),(20000004,(.arr 48 dU)),(24768,(.box bX (.pair (.arr 20000005) (.pair (.arr 20000006) (.pair (.arr 20000007) (.pair (.dat (.int .i64)) (.pair (.arr 20000008) (.pair (.arr 20000009) (.dat .unit))))))))),(20000005,(.arr 42 bJ)),(20000006,(.arr 80 cJ)),(20000007,(.arr 83 bY)),(20000008,(.arr 3 (.int .i64))),(20000009,(.arr 48 dU))]⟩⟩]
noncomputable def L5:LC:=⟨5,⟨5,[1,2,3,4],[],[]⟩,sh5,yO,pre5,fn5⟩
noncomputable def H:List LC:=[L5]
noncomputable def code(i:Nat):Code:=(bI (cU Tryz.f15)).getD i .skip
theorem aDN:cP E H (code 0) L5:=⟨mu5,fun⟨x1,x2,x3,x4,x5,x6,x7,x8,x9,x10,x11,x12,x13,x14,x15,x16,()⟩ hp=>aV (show L5.step E H (code 0) (x1,(x2,(x3,(x4,(x5,(x6,(x7,(x8,(x9,(x10,(x11,(x12,(x13,(x14,(x15,(x16,()))))))))))))))))=rA x1 x2 x3 x4 x5 x6 x7 x8 x9 x10 x11 x12 x13 x14 x15 x16 from by kernel_rfl) (ok5 x1 x2 x3 x4 x5 x6 x7 x8 x9 x10 x11 x12 x13 x14 x15 x16 hp)⟩
theorem cZ:aR Tryz.prog E:=aB kK.aMD (aB iR.aMD (aJ jB))
theorem loops:∀c,Tryz.f15.body=some c->aI E H c:=bH (by kernel_rfl) (by kernel_rfl) fun i l h=>match i,h with
  |0,h=>Option.some.inj h▸aDN
  |n+1,h=>by cases h
theorem aME:aZ Tryz.prog 15 fs:=aH cZ mixed Tryz.func15 H loops fun⟨x0,()⟩ hw hp=>(show bB E H Tryz.f15 fs.ps fs.rs (x0,())=aQ x0 from by kernel_rfl).trans (eq x0 hw hp)
theorem aMD:cW Tryz.prog 15 fs:=⟨aME,_,Tryz.func15,by kernel_rfl,by kernel_rfl⟩
end iC
namespace bC
noncomputable def fs:FS:=⟨[(.val bJ .f)],[(bJ,.o)],fun x=>bC.pre x.1,fun x=>((),((bC x.1),()))⟩
noncomputable def E:fG:=⟨bE,[],[]⟩
noncomputable def H:List LC:=[]
theorem cZ:aR Tryz.prog E:=aJ jB
theorem loops:∀c,Tryz.f87.body=some c->aI E H c:=aO (by kernel_rfl)
theorem aME:aZ Tryz.prog 87 fs:=aH cZ mixed Tryz.func87 H loops fun⟨x0,()⟩ hw hp=>(show bB E H Tryz.f87 fs.ps fs.rs (x0,())=aQ x0 from by kernel_rfl).trans (eq x0 hw hp)
theorem aMD:cW Tryz.prog 87 fs:=⟨aME,_,Tryz.func87,by kernel_rfl,by kernel_rfl⟩
end bC
namespace dX
noncomputable def fs:FS:=⟨[(.val (.sl 3 (.int .i64)) .f)],[((.sl 3 (.int .i64)),.o)],fun x=>dX.pre x.1,fun x=>((),((dX x.1),()))⟩
noncomputable def E:fG:=⟨bE,[],[]⟩
noncomputable def H:List LC:=[]
theorem cZ:aR Tryz.prog E:=aJ jB
theorem loops:∀c,Tryz.f90.body=some c->aI E H c:=aO (by kernel_rfl)
theorem aME:aZ Tryz.prog 90 fs:=aH cZ mixed Tryz.func90 H loops fun⟨x0,()⟩ hw hp=>(show bB E H Tryz.f90 fs.ps fs.rs (x0,())=aQ x0 from by kernel_rfl).trans (eq x0 hw hp)
theorem aMD:cW Tryz.prog 90 fs:=⟨aME,_,Tryz.func90,by kernel_rfl,by kernel_rfl⟩
end dX
namespace aT
noncomputable def fs:FS:=⟨[(.val bY .f)],[(bY,.o)],fun x=>aT.pre x.1,fun x=>((),((aT x.1),()))⟩
noncomputable def E:fG:=⟨bE,[(90,dX.fs)],[]⟩
noncomputable def H:List LC:=[]
theorem cZ:aR Tryz.prog E:=aB dX.aMD (aJ jB)
theorem loops:∀c,Tryz.f88.body=some c->aI E H c:=aO (by kernel_rfl)
theorem aME:aZ Tryz.prog 88 fs:=aH cZ mixed Tryz.func88 H loops fun⟨x0,()⟩ hw hp=>(show bB E H Tryz.f88 fs.ps fs.rs (x0,())=aQ x0 from by kernel_rfl).trans (eq x0 hw hp)
theorem aMD:cW Tryz.prog 88 fs:=⟨aME,_,Tryz.func88,by kernel_rfl,by kernel_rfl⟩
end aT
namespace aS
noncomputable def fs:FS:=⟨[(.val cJ .f)],[(cJ,.o)],fun x=>aS.pre x.1,fun x=>((),((aS x.1),()))⟩
noncomputable def E:fG:=⟨bE,[],[]⟩
noncomputable def H:List LC:=[]
theorem cZ:aR Tryz.prog E:=aJ jB
theorem loops:∀c,Tryz.f114.body=some c->aI E H c:=aO (by kernel_rfl)
theorem aME:aZ Tryz.prog 114 fs:=aH cZ mixed Tryz.func114 H loops fun⟨x0,()⟩ hw hp=>(show bB E H Tryz.f114 fs.ps fs.rs (x0,())=aQ x0 from by kernel_rfl).trans (eq x0 hw hp)
theorem aMD:cW Tryz.prog 114 fs:=⟨aME,_,Tryz.func114,by kernel_rfl,by kernel_rfl⟩
end aS
namespace cV
noncomputable def nJ:List (Nat×vN):=[(20000000,(.arr 80 cJ))]
noncomputable def fs:FS:=⟨[(.val (.sl 80 cJ) .f)],[((.sl 80 cJ),.o)],fun x=>cV.pre x.1,fun x=>((),((cV x.1),()))⟩
noncomputable def E:fG:=⟨bE,[(114,aS.fs)],[]⟩
noncomputable def sh3:gJ:=⟨(uu::uu::uu::(.one (.arr 20000000))::uu::uu::(.one (.dat (.sl 80 cJ)))::ui::ui::un 10 []),nJ⟩
noncomputable def aFI:List hJ:=[⟨(.exit 0),⟨0,[3],[(3,(80,cJ))],[]⟩,⟨(uu::uu::uu::(.one (.arr 20000000))::un 15 []),nJ⟩⟩]
noncomputable def L3:LC:=⟨3,⟨3,[3,6,7,8],[(3,(80,cJ))],[]⟩,sh3,aFI,pre3,fn3⟩
noncomputable def H:List LC:=[L3]
noncomputable def code(i:Nat):Code:=(bI (cU Tryz.f89)).getD i .skip
theorem aJQ:cP E H (code 0) L3:=⟨mu3,fun⟨x1,x2,x3,x4,()⟩ hp=>aV (show L3.step E H (code 0) (x1,(x2,(x3,(x4,()))))=aDk x1 x2 x3 x4 from by kernel_rfl) (ok3 x1 x2 x3 x4 hp)⟩
theorem cZ:aR Tryz.prog E:=aB aS.aMD (aJ jB)
theorem loops:∀c,Tryz.f89.body=some c->aI E H c:=bH (by kernel_rfl) (by kernel_rfl) fun i l h=>match i,h with
  |0,h=>Option.some.inj h▸aJQ
  |n+1,h=>by cases h
theorem aME:aZ Tryz.prog 89 fs:=aH cZ mixed Tryz.func89 H loops fun⟨x0,()⟩ hw hp=>(show bB E H Tryz.f89 fs.ps fs.rs (x0,())=aQ x0 from by kernel_rfl).trans (eq x0 hw hp)
theorem aMD:cW Tryz.prog 89 fs:=⟨aME,_,Tryz.func89,by kernel_rfl,by kernel_rfl⟩
end cV
namespace eB
noncomputable def nJ:List (Nat×vN):=[(0,(.box bX (.pair (.arr 20000000) (.pair (.dat (.sl 80 cJ)) (.pair (.arr 20000001) (.dat (.pair (.int .i64) (.pair (.sl 3 (.int .i64)) (.pair (.sl 48 dU) .unit))))))))),(20000000,(.arr 42 bJ)),(20000001,(.arr 83 bY)),(32,(.box bX (.pair (.arr 20000002) (.pair (.arr 20000003) (.pair (.arr 20000004) (.pair (.dat (.int .i64)) (.pair (.arr 20000005) (.pair (.arr 20000006) (.dat .unit))))))))),(20000002,(.arr 42 bJ)),(20000003,(.arr 80 cJ)),(20000004,(.arr 83 bY)),(20000005,(.arr 3 (.int .i64))),(20000006,(.arr 48 dU))]
noncomputable def fs:FS:=⟨[(.val bX .f)],[(bX,.o)],fun x=>eB.pre x.1,fun x=>((),((eB x.1),()))⟩
noncomputable def E:fG:=⟨bE,[(87,bC.fs),(90,dX.fs),(88,aT.fs),(89,cV.fs)],[]⟩
noncomputable def uL:gJ:=⟨(uu::(.one (.bptr 0 [] bX))::(.one (.bptr 32 [] bX))::uu::(.one (.dat (.sl 83 bY)))::un 10 ((.one (.dat (.sl 42 bJ)))::ui::ui::un 38 [])),nJ⟩
noncomputable def jD:List hJ:=[⟨(.exit 0),⟨0,[1,2,4],[],[]⟩,⟨(uu::(.one (.bptr 0 [] bX))::(.one (.bptr 32 [] bX))::uu::(.one (.dat (.sl 83 bY)))::un 51 []),nJ⟩⟩]
noncomputable def L4:LC:=⟨4,⟨4,[1,2,4,15,16,17],[],[]⟩,uL,jD,pre4,fn4⟩
noncomputable def sh9:gJ:=⟨(uu::(.one (.bptr 0 [] bX))::(.one (.bptr 32 [] bX))::un 26 ((.one (.dat (.sl 83 bY)))::ui::ui::un 24 [])),nJ⟩
noncomputable def aJl:List hJ:=[⟨(.exit 2),⟨0,[1,2],[],[]⟩,⟨(uu::(.one (.bptr 0 [] bX))::(.one (.bptr 32 [] bX))::un 53 []),nJ⟩⟩]
noncomputable def L9:LC:=⟨9,⟨9,[1,2,29,30,31],[],[]⟩,sh9,aJl,pre9,fn9⟩
noncomputable def H:List LC:=[L4,L9]
noncomputable def code(i:Nat):Code:=(bI (cU Tryz.f45)).getD i .skip
theorem mT:cP E H (code 0) L4:=⟨lN,fun⟨x1,x2,x3,x4,x5,x6,x7,x8,x9,x10,x11,x12,x13,x14,x15,()⟩ hp=>aV (show L4.step E H (code 0) (x1,(x2,(x3,(x4,(x5,(x6,(x7,(x8,(x9,(x10,(x11,(x12,(x13,(x14,(x15,())))))))))))))))=eA x1 x2 x3 x4 x5 x6 x7 x8 x9 x10 x11 x12 x13 x14 x15 from by kernel_rfl) (uM x1 x2 x3 x4 x5 x6 x7 x8 x9 x10 x11 x12 x13 x14 x15 hp)⟩
theorem aLg:cP E H (code 1) L9:=⟨mu9,fun⟨x1,x2,x3,x4,x5,x6,x7,x8,x9,x10,x11,x12,x13,x14,()⟩ hp=>aV (show L9.step E H (code 1) (x1,(x2,(x3,(x4,(x5,(x6,(x7,(x8,(x9,(x10,(x11,(x12,(x13,(x14,()))))))))))))))=aHA x1 x2 x3 x4 x5 x6 x7 x8 x9 x10 x11 x12 x13 x14 from by kernel_rfl) (ok9 x1 x2 x3 x4 x5 x6 x7 x8 x9 x10 x11 x12 x13 x14 hp)⟩
theorem cZ:aR Tryz.prog E:=aB bC.aMD (aB dX.aMD (aB aT.aMD (aB cV.aMD (aJ jB))))
theorem loops:∀c,Tryz.f45.body=some c->aI E H c:=bH (by kernel_rfl) (by kernel_rfl) fun i l h=>match i,h with
  |0,h=>Option.some.inj h▸mT
  |1,h=>Option.some.inj h▸aLg
  |n+2,h=>by cases h
theorem aME:aZ Tryz.prog 45 fs:=aH cZ mixed Tryz.func45 H loops fun⟨x0,()⟩ hw hp=>(show bB E H Tryz.f45 fs.ps fs.rs (x0,())=aQ x0 from by kernel_rfl).trans (eq x0 hw hp)
theorem aMD:cW Tryz.prog 45 fs:=⟨aME,_,Tryz.func45,by kernel_rfl,by kernel_rfl⟩
end eB
namespace eI
noncomputable def fs:FS:=⟨[(.val (.int .i64) .f),(.peek (.int .i64)),(.peek (.int .i64))],[(.bool,.o)],fun x=>eI.pre x.1 x.2.1 x.2.2.1,fun x=>((),((eI x.1 x.2.1 x.2.2.1),()))⟩
noncomputable def E:fG:=⟨bE,[(44,aA.fs)],[]⟩
noncomputable def H:List LC:=[]
theorem cZ:aR Tryz.prog E:=aB aA.aMD (aJ jB)
theorem loops:∀c,Tryz.f94.body=some c->aI E H c:=aO (by kernel_rfl)
theorem aME:aZ Tryz.prog 94 fs:=aH cZ mixed Tryz.func94 H loops fun⟨x0,x1,x2,()⟩ hw hp=>(show bB E H Tryz.f94 fs.ps fs.rs (x0,(x1,(x2,())))=aQ x0 x1 x2 from by kernel_rfl).trans (eq x0 x1 x2 hw hp)
theorem aMD:cW Tryz.prog 94 fs:=⟨aME,_,Tryz.func94,by kernel_rfl,by kernel_rfl⟩
end eI
namespace bF
noncomputable def fs:FS:=⟨[(.val (.sl 3 (.int .i64)) .f),(.fn (.int .i64) .bool)],[((.int .i64),.o)],fun x=>bF.pre x.1 x.2.1,fun x=>((),((bF x.1 x.2.1),()))⟩
noncomputable def E:fG:=⟨bE,[],[]⟩
noncomputable def rP:gJ:=⟨((.one (.dat (.sl 3 (.int .i64))))::(.one (.fn (.int .i64) .bool))::un 5 (ui::ui::un 10 [])),[]⟩
noncomputable def fW:List hJ:=[⟨.ret,⟨0,[4],[],[]⟩,⟨(un 4 (ui::un 14 [])),[]⟩⟩,⟨(.exit 0),⟨0,[],[],[]⟩,⟨(un 19 []),[]⟩⟩]
noncomputable def L2:LC:=⟨2,⟨2,[0,1,7,8],[],[]⟩,rP,fW,pre2,fn2⟩
noncomputable def H:List LC:=[L2]
noncomputable def code(i:Nat):Code:=(bI (cU Tryz.f118)).getD i .skip
theorem lC:cP E H (code 0) L2:=⟨mA,fun⟨x1,x2,x3,x4,x5,()⟩ hp=>aV (show L2.step E H (code 0) (x1,(x2,(x3,(x4,(x5,())))))=dT x1 x2 x3 x4 x5 from by kernel_rfl) (rR x1 x2 x3 x4 x5 hp)⟩
theorem cZ:aR Tryz.prog E:=aJ jB
theorem loops:∀c,Tryz.f118.body=some c->aI E H c:=bH (by kernel_rfl) (by kernel_rfl) fun i l h=>match i,h with
  |0,h=>Option.some.inj h▸lC
  |n+1,h=>by cases h
theorem aME:aZ Tryz.prog 118 fs:=aH cZ mixed Tryz.func118 H loops fun⟨x0,x1,()⟩ hw hp=>(show bB E H Tryz.f118 fs.ps fs.rs (x0,(x1,()))=aQ x0 x1 from by kernel_rfl).trans (eq x0 x1 hw hp)
theorem aMD:cW Tryz.prog 118 fs:=⟨aME,_,Tryz.func118,by kernel_rfl,by kernel_rfl⟩
end bF
namespace cR
noncomputable def fs:FS:=⟨[(.val (.sl 3 (.int .i64)) .f),(.fn (.int .i64) .bool)],[(.bool,.o)],fun x=>cR.pre x.1 x.2.1,fun x=>((),((cR x.1 x.2.1),()))⟩
noncomputable def E:fG:=⟨bE,[(118,bF.fs)],[]⟩
noncomputable def H:List LC:=[]
theorem cZ:aR Tryz.prog E:=aB bF.aMD (aJ jB)
theorem loops:∀c,Tryz.f93.body=some c->aI E H c:=aO (by kernel_rfl)
theorem aME:aZ Tryz.prog 93 fs:=aH cZ mixed Tryz.func93 H loops fun⟨x0,x1,()⟩ hw hp=>(show bB E H Tryz.f93 fs.ps fs.rs (x0,(x1,()))=aQ x0 x1 from by kernel_rfl).trans (eq x0 x1 hw hp)
theorem aMD:cW Tryz.prog 93 fs:=⟨aME,_,Tryz.func93,by kernel_rfl,by kernel_rfl⟩
end cR
namespace bZ
noncomputable def fs:FS:=⟨[(.val (.sl 3 (.int .i64)) .f),(.val (.int .i64) .f),(.val (.int .i64) .f)],[(.bool,.o)],fun x=>bZ.pre x.1 x.2.1 x.2.2.1,fun x=>((),((bZ x.1 x.2.1 x.2.2.1),()))⟩
noncomputable def E:fG:=⟨bE,[(94,eI.fs),(93,cR.fs)],[]⟩
noncomputable def H:List LC:=[]
theorem cZ:aR Tryz.prog E:=aB eI.aMD (aB cR.aMD (aJ jB))
theorem loops:∀c,Tryz.f56.body=some c->aI E H c:=aO (by kernel_rfl)
theorem aME:aZ Tryz.prog 56 fs:=aH cZ mixed Tryz.func56 H loops fun⟨x0,x1,x2,()⟩ hw hp=>(show bB E H Tryz.f56 fs.ps fs.rs (x0,(x1,(x2,())))=aQ x0 x1 x2 from by kernel_rfl).trans (eq x0 x1 x2 hw hp)
theorem aMD:cW Tryz.prog 56 fs:=⟨aME,_,Tryz.func56,by kernel_rfl,by kernel_rfl⟩
end bZ
namespace dR
noncomputable def fs:FS:=⟨[(.val cJ .f),(.val (.int .i64) .f)],[(.bool,.o)],fun x=>dR.pre x.1 x.2.1,fun x=>((),((dR x.1 x.2.1),()))⟩
noncomputable def E:fG:=⟨bE,[(44,aA.fs)],[]⟩
noncomputable def uL:gJ:=⟨(uu::uu::(.one (.bptr 0 [] cJ))::un 44 ((.one (.dat (.sl 118 (.pair (.int .i64) (.pair (.int .i64) .unit)))))::ui::ui::un 39 [])),[(0,(.box cJ (.dat cJ)))]⟩
noncomputable def jD:List hJ:=[⟨.ret,⟨0,[4],[],[]⟩,⟨(un 4 ((.one (.dat .bool))::un 84 [])),[]⟩⟩,⟨(.exit 0),⟨0,[],[],[]⟩,⟨(un 89 []),[]⟩⟩]
noncomputable def L4:LC:=⟨4,⟨4,[2,47,48,49],[],[]⟩,uL,jD,pre4,fn4⟩
noncomputable def H:List LC:=[L4]
noncomputable def code(i:Nat):Code:=(bI (cU Tryz.f57)).getD i .skip
theorem mT:cP E H (code 0) L4:=⟨lN,fun⟨x1,x2,x3,x4,()⟩ hp=>aV (show L4.step E H (code 0) (x1,(x2,(x3,(x4,()))))=eA x1 x2 x3 x4 from by kernel_rfl) (uM x1 x2 x3 x4 hp)⟩
theorem cZ:aR Tryz.prog E:=aB aA.aMD (aJ jB)
theorem loops:∀c,Tryz.f57.body=some c->aI E H c:=bH (by kernel_rfl) (by kernel_rfl) fun i l h=>match i,h with
  |0,h=>Option.some.inj h▸mT
  |n+1,h=>by cases h
theorem aME:aZ Tryz.prog 57 fs:=aH cZ mixed Tryz.func57 H loops fun⟨x0,x1,()⟩ hw hp=>(show bB E H Tryz.f57 fs.ps fs.rs (x0,(x1,()))=aQ x0 x1 from by kernel_rfl).trans (eq x0 x1 hw hp)
theorem aMD:cW Tryz.prog 57 fs:=⟨aME,_,Tryz.func57,by kernel_rfl,by kernel_rfl⟩
end dR
namespace dC
noncomputable def fs:FS:=⟨[(.val (.sl 42 bJ) .f),(.fn bJ .bool)],[((.int .i64),.o)],fun x=>dC.pre x.1 x.2.1,fun x=>((),((dC x.1 x.2.1),()))⟩
noncomputable def E:fG:=⟨bE,[],[]⟩
noncomputable def rP:gJ:=⟨((.one (.dat (.sl 42 bJ)))::(.one (.fn bJ .bool))::un 5 (ui::ui::un 10 [])),[]⟩
noncomputable def fW:List hJ:=[⟨.ret,⟨0,[4],[],[]⟩,⟨(un 4 (ui::un 14 [])),[]⟩⟩,⟨(.exit 0),⟨0,[],[],[]⟩,⟨(un 19 []),[]⟩⟩]
noncomputable def L2:LC:=⟨2,⟨2,[0,1,7,8],[],[]⟩,rP,fW,pre2,fn2⟩
noncomputable def H:List LC:=[L2]
noncomputable def code(i:Nat):Code:=(bI (cU Tryz.f95)).getD i .skip
theorem lC:cP E H (code 0) L2:=⟨mA,fun⟨x1,x2,x3,x4,x5,()⟩ hp=>aV (show L2.step E H (code 0) (x1,(x2,(x3,(x4,(x5,())))))=dT x1 x2 x3 x4 x5 from by kernel_rfl) (rR x1 x2 x3 x4 x5 hp)⟩
theorem cZ:aR Tryz.prog E:=aJ jB
theorem loops:∀c,Tryz.f95.body=some c->aI E H c:=bH (by kernel_rfl) (by kernel_rfl) fun i l h=>match i,h with
  |0,h=>Option.some.inj h▸lC
  |n+1,h=>by cases h
theorem aME:aZ Tryz.prog 95 fs:=aH cZ mixed Tryz.func95 H loops fun⟨x0,x1,()⟩ hw hp=>(show bB E H Tryz.f95 fs.ps fs.rs (x0,(x1,()))=aQ x0 x1 from by kernel_rfl).trans (eq x0 x1 hw hp)
theorem aMD:cW Tryz.prog 95 fs:=⟨aME,_,Tryz.func95,by kernel_rfl,by kernel_rfl⟩
end dC
namespace cS
noncomputable def fs:FS:=⟨[(.val (.sl 42 bJ) .f),(.fn bJ .bool)],[(.bool,.o)],fun x=>cS.pre x.1 x.2.1,fun x=>((),((cS x.1 x.2.1),()))⟩
noncomputable def E:fG:=⟨bE,[(95,dC.fs)],[]⟩
noncomputable def H:List LC:=[]
theorem cZ:aR Tryz.prog E:=aB dC.aMD (aJ jB)
theorem loops:∀c,Tryz.f58.body=some c->aI E H c:=aO (by kernel_rfl)
theorem aME:aZ Tryz.prog 58 fs:=aH cZ mixed Tryz.func58 H loops fun⟨x0,x1,()⟩ hw hp=>(show bB E H Tryz.f58 fs.ps fs.rs (x0,(x1,()))=aQ x0 x1 from by kernel_rfl).trans (eq x0 x1 hw hp)
theorem aMD:cW Tryz.prog 58 fs:=⟨aME,_,Tryz.func58,by kernel_rfl,by kernel_rfl⟩
end cS
namespace gO
noncomputable def fs:FS:=⟨[(.val .str .f)],[(.bool,.o)],fun _=>true,fun x=>((),((gO x.1),()))⟩
noncomputable def E:fG:=⟨bE,[],[]⟩
noncomputable def rP:gJ:=⟨((.one (.dat .str))::uu::uu::ui::un 31 []),[]⟩
noncomputable def fW:List hJ:=[⟨.ret,⟨0,[2],[],[]⟩,⟨(uu::uu::(.one (.dat .bool))::un 32 []),[]⟩⟩,⟨(.exit 0),⟨0,[0],[],[]⟩,⟨((.one (.dat .str))::un 34 []),[]⟩⟩]
noncomputable def L2:LC:=⟨2,⟨2,[0,3],[],[]⟩,rP,fW,pre2,fn2⟩
noncomputable def H:List LC:=[L2]
noncomputable def code(i:Nat):Code:=(bI (cU Tryz.f53)).getD i .skip
theorem lC:cP E H (code 0) L2:=⟨mA,fun⟨x1,x2,()⟩ hp=>aV (show L2.step E H (code 0) (x1,(x2,()))=dT x1 x2 from by kernel_rfl) (rR x1 x2 hp)⟩
theorem cZ:aR Tryz.prog E:=aJ jB
theorem loops:∀c,Tryz.f53.body=some c->aI E H c:=bH (by kernel_rfl) (by kernel_rfl) fun i l h=>match i,h with
  |0,h=>Option.some.inj h▸lC
  |n+1,h=>by cases h
theorem aME:aZ Tryz.prog 53 fs:=aH cZ mixed Tryz.func53 H loops fun⟨x0,()⟩ hw _=>(show bB E H Tryz.f53 fs.ps fs.rs (x0,())=aQ x0 from by kernel_rfl).trans (eq x0 hw)
theorem aMD:cW Tryz.prog 53 fs:=⟨aME,_,Tryz.func53,by kernel_rfl,by kernel_rfl⟩
end gO
namespace dW
noncomputable def fs:FS:=⟨[(.val bJ .f)],[(.bool,.o)],fun x=>dW.pre x.1,fun x=>((),((dW x.1),()))⟩
noncomputable def E:fG:=⟨bE,[(44,aA.fs),(53,gO.fs)],[]⟩
noncomputable def uL:gJ:=⟨(uu::(.one (.bptr 0 [] bJ))::un 21 ((.one (.dat (.sl 44 fH)))::ui::ui::un 54 [])),[(0,(.box bJ (.dat bJ)))]⟩
noncomputable def jD:List hJ:=[⟨.ret,⟨0,[2],[],[]⟩,⟨(uu::uu::(.one (.dat .bool))::un 77 []),[]⟩⟩,⟨(.exit 0),⟨0,[],[],[]⟩,⟨(un 80 []),[]⟩⟩]
noncomputable def L4:LC:=⟨4,⟨4,[1,23,24,25],[],[]⟩,uL,jD,pre4,fn4⟩
noncomputable def H:List LC:=[L4]
noncomputable def code(i:Nat):Code:=(bI (cU Tryz.f60)).getD i .skip
theorem mT:cP E H (code 0) L4:=⟨lN,fun⟨x1,x2,x3,x4,()⟩ hp=>aV (show L4.step E H (code 0) (x1,(x2,(x3,(x4,()))))=eA x1 x2 x3 x4 from by kernel_rfl) (uM x1 x2 x3 x4 hp)⟩
theorem cZ:aR Tryz.prog E:=aB aA.aMD (aB gO.aMD (aJ jB))
theorem loops:∀c,Tryz.f60.body=some c->aI E H c:=bH (by kernel_rfl) (by kernel_rfl) fun i l h=>match i,h with
  |0,h=>Option.some.inj h▸mT
  |n+1,h=>by cases h
theorem aME:aZ Tryz.prog 60 fs:=aH cZ mixed Tryz.func60 H loops fun⟨x0,()⟩ hw hp=>(show bB E H Tryz.f60 fs.ps fs.rs (x0,())=aQ x0 from by kernel_rfl).trans (eq x0 hw hp)
theorem aMD:cW Tryz.prog 60 fs:=⟨aME,_,Tryz.func60,by kernel_rfl,by kernel_rfl⟩
end dW
namespace eR
noncomputable def fs:FS:=⟨[(.val bJ .f)],[(.bool,.o)],fun x=>eR.pre x.1,fun x=>((),((eR x.1),()))⟩
noncomputable def E:fG:=⟨bE,[(60,dW.fs)],[]⟩
noncomputable def H:List LC:=[]
theorem cZ:aR Tryz.prog E:=aB dW.aMD (aJ jB)
theorem loops:∀c,Tryz.f59.body=some c->aI E H c:=aO (by kernel_rfl)
theorem aME:aZ Tryz.prog 59 fs:=aH cZ mixed Tryz.func59 H loops fun⟨x0,()⟩ hw hp=>(show bB E H Tryz.f59 fs.ps fs.rs (x0,())=aQ x0 from by kernel_rfl).trans (eq x0 hw hp)
theorem aMD:cW Tryz.prog 59 fs:=⟨aME,_,Tryz.func59,by kernel_rfl,by kernel_rfl⟩
end eR
namespace dJ
noncomputable def fs:FS:=⟨[(.val (.int .i64) .f)],[(.bool,.o)],fun x=>dJ.pre x.1,fun x=>((),((dJ x.1),()))⟩
noncomputable def E:fG:=⟨bE,[(44,aA.fs)],[]⟩
noncomputable def H:List LC:=[]
theorem cZ:aR Tryz.prog E:=aB aA.aMD (aJ jB)
theorem loops:∀c,Tryz.f97.body=some c->aI E H c:=aO (by kernel_rfl)
theorem aME:aZ Tryz.prog 97 fs:=aH cZ mixed Tryz.func97 H loops fun⟨x0,()⟩ hw hp=>(show bB E H Tryz.f97 fs.ps fs.rs (x0,())=aQ x0 from by kernel_rfl).trans (eq x0 hw hp)
theorem aMD:cW Tryz.prog 97 fs:=⟨aME,_,Tryz.func97,by kernel_rfl,by kernel_rfl⟩
end dJ
namespace iJ
noncomputable def nJ:List (Nat×vN):=[(0,(.box bY (.dat bY)))]
noncomputable def fs:FS:=⟨[(.val bY .f),(.val (.int .i64) .f)],[(.bool,.o)],fun x=>iJ.pre x.1 x.2.1,fun x=>((),((iJ x.1 x.2.1),()))⟩
noncomputable def E:fG:=⟨bE,[(44,aA.fs),(56,bZ.fs),(97,dJ.fs)],[]⟩
noncomputable def rP:gJ:=⟨(uu::ui::(.one (.bptr 0 [] bY))::un 5 ((.one (.dat (.sl 3 (.int .i64))))::ui::ui::un 51 [])),nJ⟩
noncomputable def fW:List hJ:=[⟨.ret,⟨0,[4],[],[]⟩,⟨(un 4 ((.one (.dat .bool))::un 57 [])),[]⟩⟩,⟨(.exit 0),⟨0,[1,2],[],[]⟩,⟨(uu::ui::(.one (.bptr 0 [] bY))::un 59 []),nJ⟩⟩]
noncomputable def L2:LC:=⟨2,⟨2,[1,2,8,9,10],[],[]⟩,rP,fW,pre2,fn2⟩
noncomputable def H:List LC:=[L2]
noncomputable def code(i:Nat):Code:=(bI (cU Tryz.f63)).getD i .skip
theorem lC:cP E H (code 0) L2:=⟨mA,fun⟨x1,x2,x3,x4,x5,()⟩ hp=>aV (show L2.step E H (code 0) (x1,(x2,(x3,(x4,(x5,())))))=dT x1 x2 x3 x4 x5 from by kernel_rfl) (rR x1 x2 x3 x4 x5 hp)⟩
theorem cZ:aR Tryz.prog E:=aB aA.aMD (aB bZ.aMD (aB dJ.aMD (aJ jB)))
theorem loops:∀c,Tryz.f63.body=some c->aI E H c:=bH (by kernel_rfl) (by kernel_rfl) fun i l h=>match i,h with
  |0,h=>Option.some.inj h▸lC
  |n+1,h=>by cases h
theorem aME:aZ Tryz.prog 63 fs:=aH cZ mixed Tryz.func63 H loops fun⟨x0,x1,()⟩ hw hp=>(show bB E H Tryz.f63 fs.ps fs.rs (x0,(x1,()))=aQ x0 x1 from by kernel_rfl).trans (eq x0 x1 hw hp)
theorem aMD:cW Tryz.prog 63 fs:=⟨aME,_,Tryz.func63,by kernel_rfl,by kernel_rfl⟩
end iJ
namespace eY
noncomputable def fs:FS:=⟨[(.val bY .f),(.peek kA)],[(.bool,.o)],fun x=>eY.pre x.1 x.2.1,fun x=>((),((eY x.1 x.2.1),()))⟩
noncomputable def E:fG:=⟨bE,[(63,iJ.fs)],[]⟩
noncomputable def H:List LC:=[]
theorem cZ:aR Tryz.prog E:=aB iJ.aMD (aJ jB)
theorem loops:∀c,Tryz.f62.body=some c->aI E H c:=aO (by kernel_rfl)
theorem aME:aZ Tryz.prog 62 fs:=aH cZ mixed Tryz.func62 H loops fun⟨x0,x1,()⟩ hw hp=>(show bB E H Tryz.f62 fs.ps fs.rs (x0,(x1,()))=aQ x0 x1 from by kernel_rfl).trans (eq x0 x1 hw hp)
theorem aMD:cW Tryz.prog 62 fs:=⟨aME,_,Tryz.func62,by kernel_rfl,by kernel_rfl⟩
end eY
namespace cN
noncomputable def fs:FS:=⟨[(.val (.sl 83 bY) .f),(.fn bY .bool)],[((.int .i64),.o)],fun x=>cN.pre x.1 x.2.1,fun x=>((),((cN x.1 x.2.1),()))⟩
noncomputable def E:fG:=⟨bE,[],[]⟩
noncomputable def rP:gJ:=⟨((.one (.dat (.sl 83 bY)))::(.one (.fn bY .bool))::un 5 (ui::ui::un 10 [])),[]⟩
noncomputable def fW:List hJ:=[⟨.ret,⟨0,[4],[],[]⟩,⟨(un 4 (ui::un 14 [])),[]⟩⟩,⟨(.exit 0),⟨0,[],[],[]⟩,⟨(un 19 []),[]⟩⟩]
noncomputable def L2:LC:=⟨2,⟨2,[0,1,7,8],[],[]⟩,rP,fW,pre2,fn2⟩
noncomputable def H:List LC:=[L2]
noncomputable def code(i:Nat):Code:=(bI (cU Tryz.f96)).getD i .skip
theorem lC:cP E H (code 0) L2:=⟨mA,fun⟨x1,x2,x3,x4,x5,()⟩ hp=>aV (show L2.step E H (code 0) (x1,(x2,(x3,(x4,(x5,())))))=dT x1 x2 x3 x4 x5 from by kernel_rfl) (rR x1 x2 x3 x4 x5 hp)⟩
theorem cZ:aR Tryz.prog E:=aJ jB
theorem loops:∀c,Tryz.f96.body=some c->aI E H c:=bH (by kernel_rfl) (by kernel_rfl) fun i l h=>match i,h with
  |0,h=>Option.some.inj h▸lC
  |n+1,h=>by cases h
theorem aME:aZ Tryz.prog 96 fs:=aH cZ mixed Tryz.func96 H loops fun⟨x0,x1,()⟩ hw hp=>(show bB E H Tryz.f96 fs.ps fs.rs (x0,(x1,()))=aQ x0 x1 from by kernel_rfl).trans (eq x0 x1 hw hp)
theorem aMD:cW Tryz.prog 96 fs:=⟨aME,_,Tryz.func96,by kernel_rfl,by kernel_rfl⟩
end cN
namespace cE
noncomputable def fs:FS:=⟨[(.val (.sl 83 bY) .f),(.fn bY .bool)],[(.bool,.o)],fun x=>cE.pre x.1 x.2.1,fun x=>((),((cE x.1 x.2.1),()))⟩
noncomputable def E:fG:=⟨bE,[(96,cN.fs)],[]⟩
noncomputable def H:List LC:=[]
theorem cZ:aR Tryz.prog E:=aB cN.aMD (aJ jB)
theorem loops:∀c,Tryz.f61.body=some c->aI E H c:=aO (by kernel_rfl)
theorem aME:aZ Tryz.prog 61 fs:=aH cZ mixed Tryz.func61 H loops fun⟨x0,x1,()⟩ hw hp=>(show bB E H Tryz.f61 fs.ps fs.rs (x0,(x1,()))=aQ x0 x1 from by kernel_rfl).trans (eq x0 x1 hw hp)
theorem aMD:cW Tryz.prog 61 fs:=⟨aME,_,Tryz.func61,by kernel_rfl,by kernel_rfl⟩
end cE
namespace cG
noncomputable def fs:FS:=⟨[(.val (.sl 48 dU) .f),(.fn dU .bool)],[((.int .i64),.o)],fun x=>cG.pre x.1 x.2.1,fun x=>((),((cG x.1 x.2.1),()))⟩
noncomputable def E:fG:=⟨bE,[],[]⟩
noncomputable def rP:gJ:=⟨((.one (.dat (.sl 48 dU)))::(.one (.fn dU .bool))::un 5 (ui::ui::un 10 [])),[]⟩
noncomputable def fW:List hJ:=[⟨.ret,⟨0,[4],[],[]⟩,⟨(un 4 (ui::un 14 [])),[]⟩⟩,⟨(.exit 0),⟨0,[],[],[]⟩,⟨(un 19 []),[]⟩⟩]
noncomputable def L2:LC:=⟨2,⟨2,[0,1,7,8],[],[]⟩,rP,fW,pre2,fn2⟩
noncomputable def H:List LC:=[L2]
noncomputable def code(i:Nat):Code:=(bI (cU Tryz.f98)).getD i .skip
theorem lC:cP E H (code 0) L2:=⟨mA,fun⟨x1,x2,x3,x4,x5,()⟩ hp=>aV (show L2.step E H (code 0) (x1,(x2,(x3,(x4,(x5,())))))=dT x1 x2 x3 x4 x5 from by kernel_rfl) (rR x1 x2 x3 x4 x5 hp)⟩
theorem cZ:aR Tryz.prog E:=aJ jB
theorem loops:∀c,Tryz.f98.body=some c->aI E H c:=bH (by kernel_rfl) (by kernel_rfl) fun i l h=>match i,h with
  |0,h=>Option.some.inj h▸lC
  |n+1,h=>by cases h
theorem aME:aZ Tryz.prog 98 fs:=aH cZ mixed Tryz.func98 H loops fun⟨x0,x1,()⟩ hw hp=>(show bB E H Tryz.f98 fs.ps fs.rs (x0,(x1,()))=aQ x0 x1 from by kernel_rfl).trans (eq x0 x1 hw hp)
theorem aMD:cW Tryz.prog 98 fs:=⟨aME,_,Tryz.func98,by kernel_rfl,by kernel_rfl⟩
end cG
namespace bT
noncomputable def fs:FS:=⟨[(.val (.sl 48 dU) .f),(.fn dU .bool)],[(.bool,.o)],fun x=>bT.pre x.1 x.2.1,fun x=>((),((bT x.1 x.2.1),()))⟩
noncomputable def E:fG:=⟨bE,[(98,cG.fs)],[]⟩
noncomputable def H:List LC:=[]
theorem cZ:aR Tryz.prog E:=aB cG.aMD (aJ jB)
theorem loops:∀c,Tryz.f64.body=some c->aI E H c:=aO (by kernel_rfl)
theorem aME:aZ Tryz.prog 64 fs:=aH cZ mixed Tryz.func64 H loops fun⟨x0,x1,()⟩ hw hp=>(show bB E H Tryz.f64 fs.ps fs.rs (x0,(x1,()))=aQ x0 x1 from by kernel_rfl).trans (eq x0 x1 hw hp)
theorem aMD:cW Tryz.prog 64 fs:=⟨aME,_,Tryz.func64,by kernel_rfl,by kernel_rfl⟩
end bT
namespace iU
noncomputable def fs:FS:=⟨[(.val dU .f)],[(.bool,.o)],fun x=>iU.pre x.1,fun x=>((),((iU x.1),()))⟩
noncomputable def E:fG:=⟨bE,[(44,aA.fs),(53,gO.fs)],[]⟩
noncomputable def H:List LC:=[]
theorem cZ:aR Tryz.prog E:=aB aA.aMD (aB gO.aMD (aJ jB))
theorem loops:∀c,Tryz.f17.body=some c->aI E H c:=aO (by kernel_rfl)
theorem aME:aZ Tryz.prog 17 fs:=aH cZ mixed Tryz.func17 H loops fun⟨x0,()⟩ hw hp=>(show bB E H Tryz.f17 fs.ps fs.rs (x0,())=aQ x0 from by kernel_rfl).trans (eq x0 hw hp)
theorem aMD:cW Tryz.prog 17 fs:=⟨aME,_,Tryz.func17,by kernel_rfl,by kernel_rfl⟩
end iU
namespace eK
noncomputable def fs:FS:=⟨[(.val dU .f)],[(.bool,.o)],fun x=>eK.pre x.1,fun x=>((),((eK x.1),()))⟩
noncomputable def E:fG:=⟨bE,[(17,iU.fs)],[]⟩
noncomputable def H:List LC:=[]
theorem cZ:aR Tryz.prog E:=aB iU.aMD (aJ jB)
theorem loops:∀c,Tryz.f65.body=some c->aI E H c:=aO (by kernel_rfl)
theorem aME:aZ Tryz.prog 65 fs:=aH cZ mixed Tryz.func65 H loops fun⟨x0,()⟩ hw hp=>(show bB E H Tryz.f65 fs.ps fs.rs (x0,())=aQ x0 from by kernel_rfl).trans (eq x0 hw hp)
theorem aMD:cW Tryz.prog 65 fs:=⟨aME,_,Tryz.func65,by kernel_rfl,by kernel_rfl⟩
end eK
namespace fY
noncomputable def nJ:List (Nat×vN):=[(0,(.box kA (.dat kA))),(32,(.box bX (.dat bX)))]
noncomputable def fs:FS:=⟨[(.val kA .f),(.val bX .f)],[(.bool,.o)],fun x=>fY.pre x.1 x.2.1,fun x=>((),((fY x.1 x.2.1),()))⟩
noncomputable def E:fG:=⟨bE,[(44,aA.fs),(11,kK.fs),(56,bZ.fs),(57,dR.fs),(58,cS.fs),(59,eR.fs),(62,eY.fs),(61,cE.fs),(64,bT.fs),(65,eK.fs)],[]⟩
noncomputable def uL:gJ:=⟨(uu::uu::(.one (.bptr 0 [] kA))::(.one (.bptr 32 [] bX))::un 48 ((.one (.dat (.sl 80 cJ)))::ui::ui::un 75 [])),nJ⟩
noncomputable def jD:List hJ:=[⟨.ret,⟨0,[4],[],[]⟩,⟨(un 4 ((.one (.dat .bool))::un 125 [])),[]⟩⟩,⟨(.exit 0),⟨0,[2,3],[],[]⟩,⟨(uu::uu::(.one (.bptr 0 [] kA))::(.one (.bptr 32 [] bX))::un 126 []),nJ⟩⟩]
noncomputable def L4:LC:=⟨4,⟨4,[2,3,52,53,54],[],[]⟩,uL,jD,pre4,fn4⟩
noncomputable def H:List LC:=[L4]
noncomputable def code(i:Nat):Code:=(bI (cU Tryz.f20)).getD i .skip
theorem mT:cP E H (code 0) L4:=⟨lN,fun⟨x1,x2,x3,x4,x5,()⟩ hp=>aV (show L4.step E H (code 0) (x1,(x2,(x3,(x4,(x5,())))))=eA x1 x2 x3 x4 x5 from by kernel_rfl) (uM x1 x2 x3 x4 x5 hp)⟩
theorem cZ:aR Tryz.prog E:=aB aA.aMD (aB kK.aMD (aB bZ.aMD (aB dR.aMD (aB cS.aMD (aB eR.aMD (aB eY.aMD (aB cE.aMD (aB bT.aMD (aB eK.aMD (aJ jB))))))))))
theorem loops:∀c,Tryz.f20.body=some c->aI E H c:=bH (by kernel_rfl) (by kernel_rfl) fun i l h=>match i,h with
  |0,h=>Option.some.inj h▸mT
  |n+1,h=>by cases h
theorem aME:aZ Tryz.prog 20 fs:=aH cZ mixed Tryz.func20 H loops fun⟨x0,x1,()⟩ hw hp=>(show bB E H Tryz.f20 fs.ps fs.rs (x0,(x1,()))=aQ x0 x1 from by kernel_rfl).trans (eq x0 x1 hw hp)
theorem aMD:cW Tryz.prog 20 fs:=⟨aME,_,Tryz.func20,by kernel_rfl,by kernel_rfl⟩
end fY
namespace oA
noncomputable def fs:FS:=⟨[(.val jR .f)],[(.bool,.o)],fun _=>true,fun x=>((),((oA x.1),()))⟩
noncomputable def E:fG:=⟨bE,[(44,aA.fs),(53,gO.fs)],[]⟩
noncomputable def H:List LC:=[]
theorem cZ:aR Tryz.prog E:=aB aA.aMD (aB gO.aMD (aJ jB))
theorem loops:∀c,Tryz.f46.body=some c->aI E H c:=aO (by kernel_rfl)
theorem aME:aZ Tryz.prog 46 fs:=aH cZ mixed Tryz.func46 H loops fun⟨x0,()⟩ hw _=>(show bB E H Tryz.f46 fs.ps fs.rs (x0,())=aQ x0 from by kernel_rfl).trans (eq x0 hw)
theorem aMD:cW Tryz.prog 46 fs:=⟨aME,_,Tryz.func46,by kernel_rfl,by kernel_rfl⟩
end oA
namespace nC
noncomputable def fs:FS:=⟨[(.val (.sl 3 (.int .i64)) .o),(.val (.int .i64) .f),(.val (.int .i64) .f)],[((.sl 3 (.int .i64)),.o)],fun x=>nC.pre x.1 x.2.1 x.2.2.1,fun x=>((),((nC x.1 x.2.1 x.2.2.1),()))⟩
--def E:
noncomputable def ren:Go.Shelf.Ren:=⟨fun|23=>154|n=>n,fun|22=>32|n=>n,fun|n=>n⟩
theorem aLv:Lays2.n23 Tryz.prog ren where
  mixed:=by kernel_rfl
  f23:=Tryz.func154.trans (congrArg some (by kernel_rfl))
  t0:=Tryz.underlying0
  a0:=Tryz.isAgg0
  z0:=Tryz.sizeOf0
  v0:=Tryz.zeroValue0
  t3:=Tryz.underlying3
  a3:=Tryz.isAgg3
  z3:=Tryz.sizeOf3
  v3:=Tryz.zeroValue3
  t4:=Tryz.underlying4
  a4:=Tryz.isAgg4
  z4:=Tryz.sizeOf4
  v4:=Tryz.zeroValue4
  t22:=Tryz.underlying32
  a22:=Tryz.isAgg32
  z22:=Tryz.sizeOf32
  v22:=Tryz.zeroValue32
  i3:=by kernel_rfl
theorem aME:aZ Tryz.prog 154 fs:=aIL aLv 3
theorem aMD:cW Tryz.prog 154 fs:=⟨aME,_,Tryz.func154,by kernel_rfl,by kernel_rfl⟩
end nC
namespace iA
noncomputable def fs:FS:=⟨[(.ref bY .o),(.val (.int .i64) .f)],[],fun x=>iA.pre x.1 x.2.1,fun x=>(((iA x.1 x.2.1),()),())⟩
noncomputable def E:fG:=⟨bE,[(154,nC.fs)],[]⟩
noncomputable def H:List LC:=[]
theorem cZ:aR Tryz.prog E:=aB nC.aMD (aJ jB)
theorem loops:∀c,Tryz.f132.body=some c->aI E H c:=aO (by kernel_rfl)
theorem aME:aZ Tryz.prog 132 fs:=aH cZ mixed Tryz.func132 H loops fun⟨x0,x1,()⟩ hw hp=>(show bB E H Tryz.f132 fs.ps fs.rs (x0,(x1,()))=aQ x0 x1 from by kernel_rfl).trans (eq x0 x1 hw hp)
theorem aMD:cW Tryz.prog 132 fs:=⟨aME,_,Tryz.func132,by kernel_rfl,by kernel_rfl⟩
end iA
namespace fS
noncomputable def fs:FS:=⟨[(.ref bY .o)],[],fun x=>fS.pre x.1,fun x=>(((fS x.1),()),())⟩
noncomputable def E:fG:=⟨bE,[],[]⟩
noncomputable def H:List LC:=[]
theorem cZ:aR Tryz.prog E:=aJ jB
theorem loops:∀c,Tryz.f133.body=some c->aI E H c:=aO (by kernel_rfl)
theorem aME:aZ Tryz.prog 133 fs:=aH cZ mixed Tryz.func133 H loops fun⟨x0,()⟩ hw hp=>(show bB E H Tryz.f133 fs.ps fs.rs (x0,())=aQ x0 from by kernel_rfl).trans (eq x0 hw hp)
theorem aMD:cW Tryz.prog 133 fs:=⟨aME,_,Tryz.func133,by kernel_rfl,by kernel_rfl⟩
end fS
namespace gR
noncomputable def nJ:List (Nat×vN):=[(32,(.box bY (.pair (.dat (.int .i64)) (.pair (.arr 20000000) (.pair (.arr 20000001) (.pair (.arr 20000002) (.dat .unit))))))),(20000000,(.arr 3 (.int .i64))),(20000001,(.arr 3 (.int .i64))),(20000002,(.arr 3 (.int .i64))),(8256,(.box bY (.pair (.dat (.int .i64)) (.pair (.arr 20000003) (.pair (.arr 20000004) (.pair (.arr 20000005) (.dat .unit))))))),(20000003,(.arr 3 (.int .i64))),(20000004,(.arr 3 (.int .i64))),(20000005,(.arr 3 (.int .i64)))]
noncomputable def fs:FS:=⟨[(.val bY .f),(.val (.int .i64) .f)],[(bY,.o)],fun x=>gR.pre x.1 x.2.1,fun x=>((),((gR x.1 x.2.1),()))⟩
noncomputable def E:fG:=⟨bE,[(88,aT.fs),(132,iA.fs),(133,fS.fs)],[]⟩
noncomputable def sh6:gJ:=⟨(uu::ui::uu::uu::(.one (.bptr 32 [] bY))::(.one (.bptr 8256 [] bY))::(.one (.dat .bool))::ui::un 32 []),nJ⟩
noncomputable def aJs:List hJ:=[⟨(.exit 0),⟨0,[4,5,6],[],[]⟩,⟨(un 4 ((.one (.bptr 32 [] bY))::(.one (.bptr 8256 [] bY))::(.one (.dat .bool))::un 33 [])),nJ⟩⟩]
noncomputable def L6:LC:=⟨6,⟨6,[1,4,5,6,7],[],[]⟩,sh6,aJs,pre6,fn6⟩
noncomputable def H:List LC:=[L6]
noncomputable def code(i:Nat):Code:=(bI (cU Tryz.f115)).getD i .skip
theorem aLt:cP E H (code 0) L6:=⟨mu6,fun⟨x1,x2,x3,x4,x5,x6,x7,x8,x9,x10,x11,x12,x13,()⟩ hp=>aV (show L6.step E H (code 0) (x1,(x2,(x3,(x4,(x5,(x6,(x7,(x8,(x9,(x10,(x11,(x12,(x13,())))))))))))))=aE2 x1 x2 x3 x4 x5 x6 x7 x8 x9 x10 x11 x12 x13 from by kernel_rfl) (ok6 x1 x2 x3 x4 x5 x6 x7 x8 x9 x10 x11 x12 x13 hp)⟩
theorem cZ:aR Tryz.prog E:=aB aT.aMD (aB iA.aMD (aB fS.aMD (aJ jB)))
theorem loops:∀c,Tryz.f115.body=some c->aI E H c:=bH (by kernel_rfl) (by kernel_rfl) fun i l h=>match i,h with
  |0,h=>Option.some.inj h▸aLt
  |n+1,h=>by cases h
theorem aME:aZ Tryz.prog 115 fs:=aH cZ mixed Tryz.func115 H loops fun⟨x0,x1,()⟩ hw hp=>(show bB E H Tryz.f115 fs.ps fs.rs (x0,(x1,()))=aQ x0 x1 from by kernel_rfl).trans (eq x0 x1 hw hp)
theorem aMD:cW Tryz.prog 115 fs:=⟨aME,_,Tryz.func115,by kernel_rfl,by kernel_rfl⟩
end gR
namespace bU
noncomputable def fs:FS:=⟨[(.val (.sl 3 (.int .i64)) .f),(.val (.int .i64) .f)],[((.int .i64),.o)],fun x=>bU.pre x.1 x.2.1,fun x=>((),((bU x.1 x.2.1),()))⟩
noncomputable def E:fG:=⟨bE,[],[]⟩
noncomputable def rP:gJ:=⟨((.one (.dat (.sl 3 (.int .i64))))::ui::un 5 (ui::ui::un 10 [])),[]⟩
noncomputable def fW:List hJ:=[⟨.ret,⟨0,[4],[],[]⟩,⟨(un 4 (ui::un 14 [])),[]⟩⟩,⟨(.exit 0),⟨0,[],[],[]⟩,⟨(un 19 []),[]⟩⟩]
noncomputable def L2:LC:=⟨2,⟨2,[0,1,7,8],[],[]⟩,rP,fW,pre2,fn2⟩
noncomputable def H:List LC:=[L2]
noncomputable def code(i:Nat):Code:=(bI (cU Tryz.f155)).getD i .skip
theorem lC:cP E H (code 0) L2:=⟨mA,fun⟨x1,x2,x3,x4,()⟩ hp=>aV (show L2.step E H (code 0) (x1,(x2,(x3,(x4,()))))=dT x1 x2 x3 x4 from by kernel_rfl) (rR x1 x2 x3 x4 hp)⟩
theorem cZ:aR Tryz.prog E:=aJ jB
theorem loops:∀c,Tryz.f155.body=some c->aI E H c:=bH (by kernel_rfl) (by kernel_rfl) fun i l h=>match i,h with
  |0,h=>Option.some.inj h▸lC
  |n+1,h=>by cases h
theorem aME:aZ Tryz.prog 155 fs:=aH cZ mixed Tryz.func155 H loops fun⟨x0,x1,()⟩ hw hp=>(show bB E H Tryz.f155 fs.ps fs.rs (x0,(x1,()))=aQ x0 x1 from by kernel_rfl).trans (eq x0 x1 hw hp)
theorem aMD:cW Tryz.prog 155 fs:=⟨aME,_,Tryz.func155,by kernel_rfl,by kernel_rfl⟩
end bU
namespace bR
noncomputable def fs:FS:=⟨[(.val (.int .i64) .f),(.peek (.int .i64))],[(.bool,.o)],fun x=>bR.pre x.1 x.2.1,fun x=>((),((bR x.1 x.2.1),()))⟩
noncomputable def E:fG:=⟨bE,[],[]⟩
noncomputable def H:List LC:=[]
theorem cZ:aR Tryz.prog E:=aJ jB
theorem loops:∀c,Tryz.f156.body=some c->aI E H c:=aO (by kernel_rfl)
theorem aME:aZ Tryz.prog 156 fs:=aH cZ mixed Tryz.func156 H loops fun⟨x0,x1,()⟩ hw hp=>(show bB E H Tryz.f156 fs.ps fs.rs (x0,(x1,()))=aQ x0 x1 from by kernel_rfl).trans (eq x0 x1 hw hp)
theorem aMD:cW Tryz.prog 156 fs:=⟨aME,_,Tryz.func156,by kernel_rfl,by kernel_rfl⟩
end bR
namespace kC
noncomputable def fs:FS:=⟨[(.val (.sl 3 (.int .i64)) .o),(.val (.int .i64) .f),(.val (.sl 3 (.int .i64)) .o)],[((.sl 3 (.int .i64)),.o)],fun x=>kC.pre x.1 x.2.1 x.2.2.1,fun x=>((),((kC x.1 x.2.1 x.2.2.1),()))⟩
--def E:
noncomputable def ren:Go.Shelf.Ren:=⟨fun|21=>157|27=>168|28=>169|35=>171|39=>172|n=>n,fun|22=>32|n=>n,fun|n=>n⟩
theorem aLv:Lays2.n21 Tryz.prog ren where
  mixed:=by kernel_rfl
  f21:=Tryz.func157.trans (congrArg some (by kernel_rfl))
  f27:=Tryz.func168.trans (congrArg some (by kernel_rfl))
  f28:=Tryz.func169.trans (congrArg some (by kernel_rfl))
  f35:=Tryz.func171.trans (congrArg some (by kernel_rfl))
  f39:=Tryz.func172.trans (congrArg some (by kernel_rfl))
  t0:=Tryz.underlying0
  a0:=Tryz.isAgg0
  z0:=Tryz.sizeOf0
  v0:=Tryz.zeroValue0
  t3:=Tryz.underlying3
  a3:=Tryz.isAgg3
  z3:=Tryz.sizeOf3
  v3:=Tryz.zeroValue3
  t4:=Tryz.underlying4
  a4:=Tryz.isAgg4
  z4:=Tryz.sizeOf4
  v4:=Tryz.zeroValue4
  t22:=Tryz.underlying32
  a22:=Tryz.isAgg32
  z22:=Tryz.sizeOf32
  v22:=Tryz.zeroValue32
  i3:=by kernel_rfl
theorem aME:aZ Tryz.prog 157 fs:=aIs aLv 3
theorem aMD:cW Tryz.prog 157 fs:=⟨aME,_,Tryz.func157,by kernel_rfl,by kernel_rfl⟩
end kC
namespace iO
noncomputable def fs:FS:=⟨[(.val bY .f),(.val (.int .i64) .f),(.val (.int .i64) .f)],[(bY,.o)],fun x=>iO.pre x.1 x.2.1 x.2.2.1,fun x=>((),((iO x.1 x.2.1 x.2.2.1),()))⟩
noncomputable def E:fG:=⟨bE,[(88,aT.fs),(118,bF.fs),(97,dJ.fs),(133,fS.fs),(155,bU.fs),(156,bR.fs),(157,kC.fs)],[]⟩
noncomputable def H:List LC:=[]
theorem cZ:aR Tryz.prog E:=aB aT.aMD (aB bF.aMD (aB dJ.aMD (aB fS.aMD (aB bU.aMD (aB bR.aMD (aB kC.aMD (aJ jB)))))))
theorem loops:∀c,Tryz.f134.body=some c->aI E H c:=aO (by kernel_rfl)
theorem aME:aZ Tryz.prog 134 fs:=aH cZ mixed Tryz.func134 H loops fun⟨x0,x1,x2,()⟩ hw hp=>(show bB E H Tryz.f134 fs.ps fs.rs (x0,(x1,(x2,())))=aQ x0 x1 x2 from by kernel_rfl).trans (eq x0 x1 x2 hw hp)
theorem aMD:cW Tryz.prog 134 fs:=⟨aME,_,Tryz.func134,by kernel_rfl,by kernel_rfl⟩
end iO
namespace iQ
noncomputable def fs:FS:=⟨[(.val bY .f),(.val (.int .i64) .f)],[(bY,.o)],fun x=>iQ.pre x.1 x.2.1,fun x=>((),((iQ x.1 x.2.1),()))⟩
noncomputable def E:fG:=⟨bE,[(88,aT.fs),(97,dJ.fs),(132,iA.fs),(133,fS.fs),(155,bU.fs)],[]⟩
noncomputable def H:List LC:=[]
theorem cZ:aR Tryz.prog E:=aB aT.aMD (aB dJ.aMD (aB iA.aMD (aB fS.aMD (aB bU.aMD (aJ jB)))))
theorem loops:∀c,Tryz.f135.body=some c->aI E H c:=aO (by kernel_rfl)
theorem aME:aZ Tryz.prog 135 fs:=aH cZ mixed Tryz.func135 H loops fun⟨x0,x1,()⟩ hw hp=>(show bB E H Tryz.f135 fs.ps fs.rs (x0,(x1,()))=aQ x0 x1 from by kernel_rfl).trans (eq x0 x1 hw hp)
theorem aMD:cW Tryz.prog 135 fs:=⟨aME,_,Tryz.func135,by kernel_rfl,by kernel_rfl⟩
end iQ
namespace kP
noncomputable def fs:FS:=⟨[(.val bY .f),(.val (.int .i64) .f)],[((.int .i64),.o)],fun x=>kP.pre x.1 x.2.1,fun x=>((),((kP x.1 x.2.1),()))⟩
noncomputable def E:fG:=⟨bE,[],[]⟩
noncomputable def H:List LC:=[]
theorem cZ:aR Tryz.prog E:=aJ jB
theorem loops:∀c,Tryz.f158.body=some c->aI E H c:=aO (by kernel_rfl)
theorem aME:aZ Tryz.prog 158 fs:=aH cZ mixed Tryz.func158 H loops fun⟨x0,x1,()⟩ hw hp=>(show bB E H Tryz.f158 fs.ps fs.rs (x0,(x1,()))=aQ x0 x1 from by kernel_rfl).trans (eq x0 x1 hw hp)
theorem aMD:cW Tryz.prog 158 fs:=⟨aME,_,Tryz.func158,by kernel_rfl,by kernel_rfl⟩
end kP
namespace iP
noncomputable def fs:FS:=⟨[(.val bY .f),(.val (.int .i64) .f),(.val (.int .i64) .f),(.val (.int .i64) .f),(.val (.int .i64) .f)],[(bY,.o),(.bool,.o)],fun x=>iP.pre x.1 x.2.1 x.2.2.1 x.2.2.2.1 x.2.2.2.2.1,fun x=>((),((iP x.1 x.2.1 x.2.2.1 x.2.2.2.1 x.2.2.2.2.1).1,((iP x.1 x.2.1 x.2.2.1 x.2.2.2.1 x.2.2.2.2.1).2,())))⟩
noncomputable def E:fG:=⟨bE,[(44,aA.fs),(88,aT.fs),(158,kP.fs)],[]⟩
noncomputable def H:List LC:=[]
theorem cZ:aR Tryz.prog E:=aB aA.aMD (aB aT.aMD (aB kP.aMD (aJ jB)))
theorem loops:∀c,Tryz.f136.body=some c->aI E H c:=aO (by kernel_rfl)
theorem aME:aZ Tryz.prog 136 fs:=aH cZ mixed Tryz.func136 H loops fun⟨x0,x1,x2,x3,x4,()⟩ hw hp=>(show bB E H Tryz.f136 fs.ps fs.rs (x0,(x1,(x2,(x3,(x4,())))))=aQ x0 x1 x2 x3 x4 from by kernel_rfl).trans (eq x0 x1 x2 x3 x4 hw hp)
theorem aMD:cW Tryz.prog 136 fs:=⟨aME,_,Tryz.func136,by kernel_rfl,by kernel_rfl⟩
end iP
namespace dL
noncomputable def fs:FS:=⟨[(.ref bX .o),(.val jR .f)],[(dU,.o)],fun x=>dL.pre x.1 x.2.1,fun x=>(((dL x.1 x.2.1).1,()),((dL x.1 x.2.1).2,()))⟩
noncomputable def E:fG:=⟨bE,[(134,iO.fs),(135,iQ.fs),(136,iP.fs)],[]⟩
noncomputable def H:List LC:=[]
theorem cZ:aR Tryz.prog E:=aB iO.aMD (aB iQ.aMD (aB iP.aMD (aJ jB)))
theorem loops:∀c,Tryz.f116.body=some c->aI E H c:=aO (by kernel_rfl)
theorem aME:aZ Tryz.prog 116 fs:=aH cZ mixed Tryz.func116 H loops fun⟨x0,x1,()⟩ hw hp=>(show bB E H Tryz.f116 fs.ps fs.rs (x0,(x1,()))=aQ x0 x1 from by kernel_rfl).trans (eq x0 x1 hw hp)
theorem aMD:cW Tryz.prog 116 fs:=⟨aME,_,Tryz.func116,by kernel_rfl,by kernel_rfl⟩
end dL
namespace fZ
noncomputable def nJ:List (Nat×vN):=[(0,(.box cJ (.pair (.dat (.int .i64)) (.pair (.dat (.int .i64)) (.pair (.dat (.int .i64)) (.pair (.dat (.int .i64)) (.pair (.arr 20000000) (.dat .unit)))))))),(20000000,(.arr 118 (.pair (.int .i64) (.pair (.int .i64) .unit))))]
noncomputable def fs:FS:=⟨[(.val (.sl 80 cJ) .f),(.val (.int .i64) .f),(.val (.int .i64) .f)],[(cJ,.o)],fun x=>fZ.pre x.1 x.2.1 x.2.2.1,fun x=>((),((fZ x.1 x.2.1 x.2.2.1),()))⟩
noncomputable def E:fG:=⟨bE,[(114,aS.fs)],[]⟩
noncomputable def rP:gJ:=⟨(uu::ui::ui::uu::uu::uu::(.one (.bptr 0 [] cJ))::uu::uu::(.one (.dat (.sl 80 cJ)))::ui::ui::un 19 []),nJ⟩
noncomputable def fW:List hJ:=[⟨.ret,⟨0,[6],[],[]⟩,⟨(un 6 ((.one (.bptr 0 [] cJ))::un 24 [])),nJ⟩⟩,⟨(.exit 0),⟨0,[1,2,6],[],[]⟩,⟨(uu::ui::ui::uu::uu::uu::(.one (.bptr 0 [] cJ))::un 24 []),nJ⟩⟩]
noncomputable def L2:LC:=⟨2,⟨2,[1,2,6,9,10,11],[],[]⟩,rP,fW,pre2,fn2⟩
noncomputable def H:List LC:=[L2]
noncomputable def code(i:Nat):Code:=(bI (cU Tryz.f139)).getD i .skip
theorem lC:cP E H (code 0) L2:=⟨mA,fun⟨x1,x2,x3,x4,x5,x6,x7,x8,x9,x10,x11,()⟩ hp=>aV (show L2.step E H (code 0) (x1,(x2,(x3,(x4,(x5,(x6,(x7,(x8,(x9,(x10,(x11,())))))))))))=dT x1 x2 x3 x4 x5 x6 x7 x8 x9 x10 x11 from by kernel_rfl) (rR x1 x2 x3 x4 x5 x6 x7 x8 x9 x10 x11 hp)⟩
theorem cZ:aR Tryz.prog E:=aB aS.aMD (aJ jB)
theorem loops:∀c,Tryz.f139.body=some c->aI E H c:=bH (by kernel_rfl) (by kernel_rfl) fun i l h=>match i,h with
  |0,h=>Option.some.inj h▸lC
  |n+1,h=>by cases h
theorem aME:aZ Tryz.prog 139 fs:=aH cZ mixed Tryz.func139 H loops fun⟨x0,x1,x2,()⟩ hw hp=>(show bB E H Tryz.f139 fs.ps fs.rs (x0,(x1,(x2,())))=aQ x0 x1 x2 from by kernel_rfl).trans (eq x0 x1 x2 hw hp)
theorem aMD:cW Tryz.prog 139 fs:=⟨aME,_,Tryz.func139,by kernel_rfl,by kernel_rfl⟩
end fZ
namespace dE
noncomputable def fs:FS:=⟨[(.val cJ .f),(.val (.int .i64) .f),(.val (.int .i64) .f)],[((.int .i64),.o),((.int .i64),.o)],fun x=>dE.pre x.1 x.2.1 x.2.2.1,fun x=>((),((dE x.1 x.2.1 x.2.2.1).1,((dE x.1 x.2.1 x.2.2.1).2,())))⟩
noncomputable def E:fG:=⟨bE,[],[]⟩
noncomputable def aLk:gJ:=⟨(uu::uu::ui::un 44 ((.one (.dat (.sl 118 (.pair (.int .i64) (.pair (.int .i64) .unit)))))::ui::ui::un 10 [])),[]⟩
noncomputable def aHd:List hJ:=[⟨.ret,⟨0,[6,7],[],[]⟩,⟨(un 6 (ui::ui::un 52 [])),[]⟩⟩,⟨(.exit 1),⟨0,[],[],[]⟩,⟨(un 60 []),[]⟩⟩]
noncomputable def L12:LC:=⟨12,⟨12,[2,47,48,49],[],[]⟩,aLk,aHd,pre12,fn12⟩
noncomputable def H:List LC:=[L12]
noncomputable def code(i:Nat):Code:=(bI (cU Tryz.f159)).getD i .skip
theorem aJf:cP E H (code 0) L12:=⟨aGY,fun⟨x1,x2,x3,x4,()⟩ hp=>aV (show L12.step E H (code 0) (x1,(x2,(x3,(x4,()))))=aCL x1 x2 x3 x4 from by kernel_rfl) (aL9 x1 x2 x3 x4 hp)⟩
theorem cZ:aR Tryz.prog E:=aJ jB
theorem loops:∀c,Tryz.f159.body=some c->aI E H c:=bH (by kernel_rfl) (by kernel_rfl) fun i l h=>match i,h with
  |0,h=>Option.some.inj h▸aJf
  |n+1,h=>by cases h
theorem aME:aZ Tryz.prog 159 fs:=aH cZ mixed Tryz.func159 H loops fun⟨x0,x1,x2,()⟩ hw hp=>(show bB E H Tryz.f159 fs.ps fs.rs (x0,(x1,(x2,())))=aQ x0 x1 x2 from by kernel_rfl).trans (eq x0 x1 x2 hw hp)
theorem aMD:cW Tryz.prog 159 fs:=⟨aME,_,Tryz.func159,by kernel_rfl,by kernel_rfl⟩
end dE
namespace lB
noncomputable def fs:FS:=⟨[(.val bJ .f),(.val .str .f),(.val .str .f),(.val (.int .i64) .f),(.val (.int .i64) .f)],[(bJ,.o),((.int .i64),.o),(.bool,.o)],fun x=>lB.pre x.1 x.2.1 x.2.2.1 x.2.2.2.1 x.2.2.2.2.1,fun x=>((),((lB x.1 x.2.1 x.2.2.1 x.2.2.2.1 x.2.2.2.2.1).1,((lB x.1 x.2.1 x.2.2.1 x.2.2.2.1 x.2.2.2.2.1).2.1,((lB x.1 x.2.1 x.2.2.1 x.2.2.2.1 x.2.2.2.2.1).2.2,()))))⟩
noncomputable def E:fG:=⟨bE,[(87,bC.fs),(60,dW.fs)],[]⟩
noncomputable def H:List LC:=[]
theorem cZ:aR Tryz.prog E:=aB bC.aMD (aB dW.aMD (aJ jB))
theorem loops:∀c,Tryz.f160.body=some c->aI E H c:=aO (by kernel_rfl)
theorem aME:aZ Tryz.prog 160 fs:=aH cZ mixed Tryz.func160 H loops fun⟨x0,x1,x2,x3,x4,()⟩ hw hp=>(show bB E H Tryz.f160 fs.ps fs.rs (x0,(x1,(x2,(x3,(x4,())))))=aQ x0 x1 x2 x3 x4 from by kernel_rfl).trans (eq x0 x1 x2 x3 x4 hw hp)
theorem aMD:cW Tryz.prog 160 fs:=⟨aME,_,Tryz.func160,by kernel_rfl,by kernel_rfl⟩
end lB
end
end Go.Aw.Pl
