/-
  These laws hold: FnKeeper, FnReadsStay: each answers true for every input, and nothing of its arguments is changed. Conditions: those of the given statements alone.
  Printed by a program of the proof's author: what each function does, by the plain machine (the texts Aw.. and Ax..), and the rows at the end.
-/
import Derived.Test.YthkbmmjpjcehpaaGreatRows
import Derived.JoinedOf
import Derived.Test.YthkbmmjpjcehpaaGreatPrc
import Derived.Test.YthkbmmjpjcehpaaGreatAxN
namespace Go.Aw.Pl
open Go Go.Aw Go.Proofs
set_option linter.unusedVariables false
set_option maxRecDepth 20000
set_option maxHeartbeats 2000000
noncomputable section
noncomputable abbrev uu:ShS:=.one .undef
noncomputable abbrev ui:ShS:=.one (.dat (.int .i64))
noncomputable def un:Nat->List ShS->List ShS
  |0,l=>l
  |n+1,l=>uu::un n l
abbrev bV:Ty:=.pair (.int .i64) (.pair (.sl 3 (.int .i64)) (.pair (.sl 3 (.int .i64)) (.pair (.sl 3 (.int .i64)) .unit)))
abbrev dA:Ty:=.pair (.int .i64) (.pair (.int .i64) (.pair .str (.pair .str .unit)))
abbrev lW:Ty:=.pair (.int .i64) (.pair (.int .i64) .unit)
abbrev bX:Ty:=.pair (.int .i64) (.pair (.int .i64) (.pair (.int .i64) (.pair (.int .i64) (.pair (.sl 118 lW) .unit))))
abbrev kO:Ty:=.pair (.int .i64) (.pair (.int .i64) (.pair (.int .i64) (.pair (.int .i64) dA)))
abbrev gD:Ty:=.pair (.int .i64) (.pair .str (.pair .str lW))
abbrev bD:Ty:=.pair (.int .i64) (.pair (.int .i64) (.pair (.sl 44 gD) .unit))
abbrev aY:Ty:=.pair (.sl 42 bD) (.pair (.sl 80 bX) (.pair (.sl 83 bV) (.pair (.int .i64) (.pair (.sl 3 (.int .i64)) (.pair (.sl 48 dA) .unit)))))
abbrev fO:Ty:=.pair (.int .i64) (.pair (.int .i64) lW)
noncomputable def bI:List (TypeId×Ty):=[(1,.op),
  (2,(.int .i64)),
  (3,(.int .i64)),
  (4,.bool),
  (5,(.int .u8)),
  (6,(.int .u8)),
  (7,(.pair (.int .i64) (.pair (.int .i64) (.pair .bool (.pair (.int .u8) .unit))))),
  (8,(.pair (.int .i64) (.pair (.int .i64) (.pair .bool (.pair (.int .u8) .unit))))),
  (9,.str),
  (10,.str),
  (11,.str),
  (12,(.int .u64)),
  (15,.op),
  (16,.op),
  (17,.op),
  (21,(.int .i32)),
  (22,(.sl 5 (.int .u8))),
  (23,.op),
  (24,fO),
  (25,fO),
  (26,(.sl 46 kO)),
  (28,.op),
  (29,(.sl 42 bD)),
  (30,(.sl 80 bX)),
  (31,(.sl 83 bV)),
  (32,(.sl 3 (.int .i64))),
  (33,(.sl 48 dA)),
  (34,aY),
  (35,aY),
  (37,.op),
  (38,.op),
  (39,.op),
  (40,(.sl 44 gD)),
  (41,bD),
  (42,bD),
  (43,gD),
  (44,gD),
  (45,kO),
  (46,kO),
  (47,dA),
  (48,dA),
  (50,.op),
  (51,.op),
  (52,.op),
  (53,.op),
  (54,.op),
  (55,.op),
  (56,.op),
  (57,fO),
  (58,(.sl 102 kO)),
  (59,.op),
  (60,.op),
  (61,.op),
  (62,.op),
  (63,.op),
  (64,.op),
  (65,.op),
  (66,.op),
  (67,.op),
  (68,.op),
  (69,.op),
  (70,.op),
  (71,.op),
  (72,.op),
  (73,.op),
  (74,.op),
  (75,.op),
  (76,.op),
  (77,.op),
  (78,(.sl 118 lW)),
  (79,bX),
  (80,bX),
  (81,.op),
  (82,bV),
  (83,bV),
  (84,.op),
  (85,.op),
  (86,.op),
  (87,.op),
  (88,.op),
  (89,.op),
  (90,(.sl 9 .str)),
  (91,.op),
  (92,.op),
  (93,.op),
  (94,.op),
  (95,.op),
  (96,.op),
  (97,.op),
  (98,.op),
  (99,.op),
  (100,.op),
  (101,.op),
  (102,kO),
  (103,.op),
  (104,.op),
  (105,.op),
  (106,.op),
  (107,.op),
  (108,.op),
  (109,.op),
  (110,.op),
  (111,.op),
  (112,.op),
  (113,.op),
  (114,(.pair (.sl 5 (.int .u8)) lW)),
  (115,(.pair (.sl 5 (.int .u8)) lW)),
  (116,.op),
  (117,lW),
  (118,lW),
  (119,.op),
  (120,.op),
  (121,.op),
  (122,.op),
  (123,.op),
  (124,.op),
  (125,.op),
  (126,.op),
  (127,.op),
  (128,.op),
  (129,.op),
  (130,.op),
  (131,.op),
  (132,.op),
  (133,.op),
  (134,.op),
  (135,.op),
  (136,(.int .u64)),
  (137,.op),
  (138,.op),
  (139,.op),
  (140,.op),
  (141,.op),
  (142,.op),
  (144,.op),
  (145,.op),
  (147,.op),
  (148,.op),
  (149,.op),
  (150,.op),
  (151,.op),
  (152,.op),
  (153,.op),
  (154,.op),
  (155,.op),
  (156,.op),
  (158,.op),
  (160,.op),
  (161,.op),
  (162,.op),
  (163,.op),
  (164,.op),
  (165,.op),
  (166,.op),
  (167,.op),
  (168,.op),
  (169,.op),
  (170,.op),
  (171,.op),
  (177,.op),
  (178,(.int .u32)),
  (179,(.int .u8)),
  (180,(.int .u8)),
  (181,.op),
  (182,.op),
  (183,(.int .i32)),
  (184,(.int .i32))]
theorem jH:∀t T,find bI t=some T->nC Tryz.prog T (.t t)=true:=aK1 (by kernel_rfl)
theorem mixed:Tryz.prog.follows .mixedOrders=true:=by kernel_rfl
namespace eV
noncomputable def fs:FS:=⟨[(.val (.int .i64) .f),(.val (.int .i64) .f),(.val (.int .i64) .f)],[(.bool,.o)],fun _=>true,fun x=>((),((eV x.1 x.2.1 x.2.2.1),()))⟩
noncomputable def E:fN:=⟨bI,[],[]⟩
noncomputable def H:List LC:=[]
theorem dD:aT Tryz.prog E:=aN jH
theorem loops:∀c,Tryz.f54.body=some c->aL E H c:=aO (by kernel_rfl)
theorem aLp:bF Tryz.prog 54 fs:=aI dD mixed Tryz.func54 H loops fun⟨x0,x1,x2,()⟩ hw _=>(show bG E H Tryz.f54 fs.ps fs.rs (x0,(x1,(x2,())))=aQ x0 x1 x2 from by kernel_rfl).trans (eq x0 x1 x2 hw)
theorem aLo:cX Tryz.prog 54 fs:=⟨aLp,_,Tryz.func54,by kernel_rfl,by kernel_rfl⟩
end eV
namespace jL
noncomputable def fs:FS:=⟨[(.val fO .f)],[(.bool,.o)],fun _=>true,fun x=>((),((jL x.1),()))⟩
noncomputable def E:fN:=⟨bI,[(54,eV.fs)],[]⟩
noncomputable def H:List LC:=[]
theorem dD:aT Tryz.prog E:=aB eV.aLo (aN jH)
theorem loops:∀c,Tryz.f37.body=some c->aL E H c:=aO (by kernel_rfl)
theorem aLp:bF Tryz.prog 37 fs:=aI dD mixed Tryz.func37 H loops fun⟨x0,()⟩ hw _=>(show bG E H Tryz.f37 fs.ps fs.rs (x0,())=aQ x0 from by kernel_rfl).trans (eq x0 hw)
theorem aLo:cX Tryz.prog 37 fs:=⟨aLp,_,Tryz.func37,by kernel_rfl,by kernel_rfl⟩
end jL
namespace iC
noncomputable def fs:FS:=⟨[(.val (.int .i64) .f)],[(bV,.o)],fun x=>iC.pre x.1,fun x=>((),((iC x.1),()))⟩
noncomputable def E:fN:=⟨bI,[(54,eV.fs)],[]⟩
noncomputable def H:List LC:=[]
theorem dD:aT Tryz.prog E:=aB eV.aLo (aN jH)
theorem loops:∀c,Tryz.f52.body=some c->aL E H c:=aO (by kernel_rfl)
theorem aLp:bF Tryz.prog 52 fs:=aI dD mixed Tryz.func52 H loops fun⟨x0,()⟩ hw hp=>(show bG E H Tryz.f52 fs.ps fs.rs (x0,())=aQ x0 from by kernel_rfl).trans (eq x0 hw hp)
theorem aLo:cX Tryz.prog 52 fs:=⟨aLp,_,Tryz.func52,by kernel_rfl,by kernel_rfl⟩
end iC
namespace fF
noncomputable def fs:FS:=⟨[(.val fO .f)],[(aY,.o)],fun x=>fF.pre x.1,fun x=>((),((fF x.1),()))⟩
noncomputable def E:fN:=⟨bI,[(37,jL.fs),(52,iC.fs)],[]⟩
noncomputable def sh5:iN:=⟨(uu::(.one (.bptr 0 [] fO))::(.one (.bptr 32 [] aY))::(.one (.bptr 24768 [] aY))::ui::un 23 []),[(0,(.box fO (.dat fO))),(32,(.box aY (.pair (.arr 20000000) (.pair (.arr 20000001) (.pair (.arr 20000002) (.pair (.dat (.int .i64)) (.pair (.arr 20000003) (.pair (.arr 20000004) (.dat .unit))))))))),(20000000,(.arr 42 bD)),(20000001,(.arr 80 bX)),(20000002,(.arr 83 bV)),(20000003,(.arr 3 (.int .i64))),(20000004,(.arr 48 dA)),(24768,(.box aY (.pair (.arr 20000005) (.pair (.arr 20000006) (.pair (.arr 20000007) (.pair (.dat (.int .i64)) (.pair (.arr 20000008) (.pair (.arr 20000009) (.dat .unit))))))))),(20000005,(.arr 42 bD)),(20000006,(.arr 80 bX)),(20000007,(.arr 83 bV)),(20000008,(.arr 3 (.int .i64))),(20000009,(.arr 48 dA))]⟩
noncomputable def zT:List iZ:=[⟨(.exit 0),⟨0,[2,3],[],[]⟩,⟨(uu::uu::(.one (.bptr 32 [] aY))::(.one (.bptr 24768 [] aY))::un 24 []),[(32,(.box aY (.pair (.arr 20000000) (.pair (.arr 20000001) (.pair (.arr 20000002) (.pair (.dat (.int .i64)) (.pair (.arr 20000003) (.pair (.arr 20000004) (.dat .unit))))))))),(20000000,(.arr 42 bD)),(20000001,(.arr 80 bX)),(20000002,(.arr 83 bV)),(20000003,(.arr 3 (.int .i64))),(20000004,(.arr 48 dA)),(24768,(.box aY (.pair (.arr 20000005) (.pair (.arr 20000006) (.pair (.arr 20000007) (.pair (.dat (.int .i64)) (.pair (.arr 20000008) (.pair (.arr 20000009) (.dat .unit))))))))),(20000005,(.arr 42 bD)),(20000006,(.arr 80 bX)),(20000007,(.arr 83 bV)),(20000008,(.arr 3 (.int .i64))),(20000009,(.arr 48 dA))]⟩⟩]
noncomputable def L5:LC:=⟨5,⟨5,[1,2,3,4],[],[]⟩,sh5,zT,pre5,fn5⟩
noncomputable def H:List LC:=[L5]
noncomputable def code(i:Nat):Code:=(cB (dX Tryz.f16)).getD i .skip
theorem aDF:dE E H (code 0) L5:=⟨mu5,fun⟨x1,x2,x3,x4,x5,x6,x7,x8,x9,x10,x11,x12,x13,x14,x15,x16,()⟩ hp=>bE (show L5.step E H (code 0) (x1,(x2,(x3,(x4,(x5,(x6,(x7,(x8,(x9,(x10,(x11,(x12,(x13,(x14,(x15,(x16,()))))))))))))))))=rG x1 x2 x3 x4 x5 x6 x7 x8 x9 x10 x11 x12 x13 x14 x15 x16 from by kernel_rfl) (ok5 x1 x2 x3 x4 x5 x6 x7 x8 x9 x10 x11 x12 x13 x14 x15 x16 hp)⟩
theorem dD:aT Tryz.prog E:=aB jL.aLo (aB iC.aLo (aN jH))
theorem loops:∀c,Tryz.f16.body=some c->aL E H c:=cJ (by kernel_rfl) (by kernel_rfl) fun i l h=>match i,h with
  |0,h=>Option.some.inj h▸aDF
  |n+1,h=>by cases h
theorem aLp:bF Tryz.prog 16 fs:=aI dD mixed Tryz.func16 H loops fun⟨x0,()⟩ hw hp=>(show bG E H Tryz.f16 fs.ps fs.rs (x0,())=aQ x0 from by kernel_rfl).trans (eq x0 hw hp)
theorem aLo:cX Tryz.prog 16 fs:=⟨aLp,_,Tryz.func16,by kernel_rfl,by kernel_rfl⟩
end fF
namespace iA
noncomputable def fs:FS:=⟨[(.val .str .f)],[(.bool,.o)],fun _=>true,fun x=>((),((iA x.1),()))⟩
noncomputable def E:fN:=⟨bI,[],[]⟩
noncomputable def sh2:iN:=⟨((.one (.dat .str))::uu::uu::ui::un 32 []),[]⟩
noncomputable def mO:List iZ:=[⟨.ret,⟨0,[2],[],[]⟩,⟨(uu::uu::(.one (.dat .bool))::un 33 []),[]⟩⟩,⟨(.exit 0),⟨0,[0],[],[]⟩,⟨((.one (.dat .str))::un 35 []),[]⟩⟩]
noncomputable def L2:LC:=⟨2,⟨2,[0,3],[],[]⟩,sh2,mO,pre2,fn2⟩
noncomputable def H:List LC:=[L2]
noncomputable def code(i:Nat):Code:=(cB (dX Tryz.f55)).getD i .skip
theorem qO:dE E H (code 0) L2:=⟨qY,fun⟨x1,x2,()⟩ hp=>bE (show L2.step E H (code 0) (x1,(x2,()))=jX x1 x2 from by kernel_rfl) (ok2 x1 x2 hp)⟩
theorem dD:aT Tryz.prog E:=aN jH
theorem loops:∀c,Tryz.f55.body=some c->aL E H c:=cJ (by kernel_rfl) (by kernel_rfl) fun i l h=>match i,h with
  |0,h=>Option.some.inj h▸qO
  |n+1,h=>by cases h
theorem aLp:bF Tryz.prog 55 fs:=aI dD mixed Tryz.func55 H loops fun⟨x0,()⟩ hw _=>(show bG E H Tryz.f55 fs.ps fs.rs (x0,())=aQ x0 from by kernel_rfl).trans (eq x0 hw)
theorem aLo:cX Tryz.prog 55 fs:=⟨aLp,_,Tryz.func55,by kernel_rfl,by kernel_rfl⟩
end iA
namespace mU
noncomputable def fs:FS:=⟨[(.val kO .f)],[(.bool,.o)],fun _=>true,fun x=>((),((mU x.1),()))⟩
noncomputable def E:fN:=⟨bI,[(54,eV.fs),(55,iA.fs)],[]⟩
noncomputable def H:List LC:=[]
theorem dD:aT Tryz.prog E:=aB eV.aLo (aB iA.aLo (aN jH))
theorem loops:∀c,Tryz.f38.body=some c->aL E H c:=aO (by kernel_rfl)
theorem aLp:bF Tryz.prog 38 fs:=aI dD mixed Tryz.func38 H loops fun⟨x0,()⟩ hw _=>(show bG E H Tryz.f38 fs.ps fs.rs (x0,())=aQ x0 from by kernel_rfl).trans (eq x0 hw)
theorem aLo:cX Tryz.prog 38 fs:=⟨aLp,_,Tryz.func38,by kernel_rfl,by kernel_rfl⟩
end mU
namespace bK
noncomputable def fs:FS:=⟨[(.val bD .f)],[(bD,.o)],fun x=>bK.pre x.1,fun x=>((),((bK x.1),()))⟩
noncomputable def E:fN:=⟨bI,[],[]⟩
noncomputable def H:List LC:=[]
theorem dD:aT Tryz.prog E:=aN jH
theorem loops:∀c,Tryz.f107.body=some c->aL E H c:=aO (by kernel_rfl)
theorem aLp:bF Tryz.prog 107 fs:=aI dD mixed Tryz.func107 H loops fun⟨x0,()⟩ hw hp=>(show bG E H Tryz.f107 fs.ps fs.rs (x0,())=aQ x0 from by kernel_rfl).trans (eq x0 hw hp)
theorem aLo:cX Tryz.prog 107 fs:=⟨aLp,_,Tryz.func107,by kernel_rfl,by kernel_rfl⟩
end bK
namespace aM
noncomputable def fs:FS:=⟨[(.val bX .f)],[(bX,.o)],fun x=>aM.pre x.1,fun x=>((),((aM x.1),()))⟩
noncomputable def E:fN:=⟨bI,[],[]⟩
noncomputable def H:List LC:=[]
theorem dD:aT Tryz.prog E:=aN jH
theorem loops:∀c,Tryz.f108.body=some c->aL E H c:=aO (by kernel_rfl)
theorem aLp:bF Tryz.prog 108 fs:=aI dD mixed Tryz.func108 H loops fun⟨x0,()⟩ hw hp=>(show bG E H Tryz.f108 fs.ps fs.rs (x0,())=aQ x0 from by kernel_rfl).trans (eq x0 hw hp)
theorem aLo:cX Tryz.prog 108 fs:=⟨aLp,_,Tryz.func108,by kernel_rfl,by kernel_rfl⟩
end aM
namespace aU
noncomputable def fs:FS:=⟨[(.val bV .f)],[(bV,.o)],fun x=>aU.pre x.1,fun x=>((),((aU x.1),()))⟩
noncomputable def E:fN:=⟨bI,[],[]⟩
noncomputable def H:List LC:=[]
theorem dD:aT Tryz.prog E:=aN jH
theorem loops:∀c,Tryz.f109.body=some c->aL E H c:=aO (by kernel_rfl)
theorem aLp:bF Tryz.prog 109 fs:=aI dD mixed Tryz.func109 H loops fun⟨x0,()⟩ hw hp=>(show bG E H Tryz.f109 fs.ps fs.rs (x0,())=aQ x0 from by kernel_rfl).trans (eq x0 hw hp)
theorem aLo:cX Tryz.prog 109 fs:=⟨aLp,_,Tryz.func109,by kernel_rfl,by kernel_rfl⟩
end aU
namespace eB
noncomputable def nA:List (Nat×vT):=[(0,(.box aY (.dat aY))),(32,(.box aY (.pair (.arr 20000000) (.pair (.arr 20000001) (.pair (.arr 20000002) (.pair (.dat (.int .i64)) (.pair (.arr 20000003) (.pair (.arr 20000004) (.dat .unit))))))))),(20000000,(.arr 42 bD)),(20000001,(.arr 80 bX)),(20000002,(.arr 83 bV)),(20000003,(.arr 3 (.int .i64))),(20000004,(.arr 48 dA)),(8544,(.box aY (.pair (.arr 20000005) (.pair (.arr 20000006) (.pair (.arr 20000007) (.pair (.dat (.int .i64)) (.pair (.arr 20000008) (.pair (.arr 20000009) (.dat .unit))))))))),(20000005,(.arr 42 bD)),(20000006,(.arr 80 bX)),(20000007,(.arr 83 bV)),(20000008,(.arr 3 (.int .i64))),(20000009,(.arr 48 dA))]
noncomputable def fs:FS:=⟨[(.val aY .f)],[(aY,.o)],fun x=>eB.pre x.1,fun x=>((),((eB x.1),()))⟩
noncomputable def E:fN:=⟨bI,[(107,bK.fs),(108,aM.fs),(109,aU.fs)],[]⟩
noncomputable def sh3:iN:=⟨(uu::(.one (.bptr 0 [] aY))::(.one (.bptr 32 [] aY))::(.one (.bptr 8544 [] aY))::ui::un 68 []),nA⟩
noncomputable def aEt:List iZ:=[⟨(.exit 0),⟨0,[1,2,3],[],[]⟩,⟨(uu::(.one (.bptr 0 [] aY))::(.one (.bptr 32 [] aY))::(.one (.bptr 8544 [] aY))::un 69 []),nA⟩⟩]
noncomputable def L3:LC:=⟨3,⟨3,[1,2,3,4],[],[]⟩,sh3,aEt,pre3,fn3⟩
noncomputable def sh7:iN:=⟨(uu::(.one (.bptr 0 [] aY))::(.one (.bptr 32 [] aY))::(.one (.bptr 8544 [] aY))::uu::ui::un 67 []),nA⟩
noncomputable def aKz:List iZ:=[⟨(.exit 2),⟨0,[1,2,3],[],[]⟩,⟨(uu::(.one (.bptr 0 [] aY))::(.one (.bptr 32 [] aY))::(.one (.bptr 8544 [] aY))::un 69 []),nA⟩⟩]
noncomputable def L7:LC:=⟨7,⟨7,[1,2,3,5],[],[]⟩,sh7,aKz,pre7,fn7⟩
noncomputable def aIa:iN:=⟨(uu::(.one (.bptr 0 [] aY))::(.one (.bptr 32 [] aY))::(.one (.bptr 8544 [] aY))::uu::uu::ui::un 66 []),nA⟩
noncomputable def aCG:List iZ:=[⟨(.exit 4),⟨0,[2,3],[],[]⟩,⟨(uu::uu::(.one (.bptr 32 [] aY))::(.one (.bptr 8544 [] aY))::un 69 []),[(32,(.box aY (.pair (.arr 20000000) (.pair (.arr 20000001) (.pair (.arr 20000002) (.pair (.dat (.int .i64)) (.pair (.arr 20000003) (.pair (.arr 20000004) (.dat .unit))))))))),(20000000,(.arr 42 bD)),(20000001,(.arr 80 bX)),(20000002,(.arr 83 bV)),(20000003,(.arr 3 (.int .i64))),(20000004,(.arr 48 dA)),(8544,(.box aY (.pair (.arr 20000005) (.pair (.arr 20000006) (.pair (.arr 20000007) (.pair (.dat (.int .i64)) (.pair (.arr 20000008) (.pair (.arr 20000009) (.dat .unit))))))))),(20000005,(.arr 42 bD)),(20000006,(.arr 80 bX)),(20000007,(.arr 83 bV)),(20000008,(.arr 3 (.int .i64))),(20000009,(.arr 48 dA))]⟩⟩]
noncomputable def L11:LC:=⟨11,⟨11,[1,2,3,6],[],[]⟩,aIa,aCG,pre11,fn11⟩
noncomputable def H:List LC:=[L3,L7,L11]
noncomputable def code(i:Nat):Code:=(cB (dX Tryz.f85)).getD i .skip
theorem aHS:dE E H (code 0) L3:=⟨mu3,fun⟨x1,x2,x3,x4,x5,x6,x7,x8,x9,x10,x11,x12,x13,x14,x15,x16,()⟩ hp=>bE (show L3.step E H (code 0) (x1,(x2,(x3,(x4,(x5,(x6,(x7,(x8,(x9,(x10,(x11,(x12,(x13,(x14,(x15,(x16,()))))))))))))))))=aAh x1 x2 x3 x4 x5 x6 x7 x8 x9 x10 x11 x12 x13 x14 x15 x16 from by kernel_rfl) (ok3 x1 x2 x3 x4 x5 x6 x7 x8 x9 x10 x11 x12 x13 x14 x15 x16 hp)⟩
theorem aL2:dE E H (code 1) L7:=⟨mu7,fun⟨x1,x2,x3,x4,x5,x6,x7,x8,x9,x10,x11,x12,x13,x14,x15,x16,()⟩ hp=>bE (show L7.step E H (code 1) (x1,(x2,(x3,(x4,(x5,(x6,(x7,(x8,(x9,(x10,(x11,(x12,(x13,(x14,(x15,(x16,()))))))))))))))))=aJT x1 x2 x3 x4 x5 x6 x7 x8 x9 x10 x11 x12 x13 x14 x15 x16 from by kernel_rfl) (ok7 x1 x2 x3 x4 x5 x6 x7 x8 x9 x10 x11 x12 x13 x14 x15 x16 hp)⟩
theorem aEZ:dE E H (code 2) L11:=⟨aCR,fun⟨x1,x2,x3,x4,x5,x6,x7,x8,x9,x10,x11,x12,x13,x14,x15,x16,()⟩ hp=>bE (show L11.step E H (code 2) (x1,(x2,(x3,(x4,(x5,(x6,(x7,(x8,(x9,(x10,(x11,(x12,(x13,(x14,(x15,(x16,()))))))))))))))))=wO x1 x2 x3 x4 x5 x6 x7 x8 x9 x10 x11 x12 x13 x14 x15 x16 from by kernel_rfl) (aHM x1 x2 x3 x4 x5 x6 x7 x8 x9 x10 x11 x12 x13 x14 x15 x16 hp)⟩
theorem dD:aT Tryz.prog E:=aB bK.aLo (aB aM.aLo (aB aU.aLo (aN jH)))
theorem loops:∀c,Tryz.f85.body=some c->aL E H c:=cJ (by kernel_rfl) (by kernel_rfl) fun i l h=>match i,h with
  |0,h=>Option.some.inj h▸aHS
  |1,h=>Option.some.inj h▸aL2
  |2,h=>Option.some.inj h▸aEZ
  |n+3,h=>by cases h
theorem aLp:bF Tryz.prog 85 fs:=aI dD mixed Tryz.func85 H loops fun⟨x0,()⟩ hw hp=>(show bG E H Tryz.f85 fs.ps fs.rs (x0,())=aQ x0 from by kernel_rfl).trans (eq x0 hw hp)
theorem aLo:cX Tryz.prog 85 fs:=⟨aLp,_,Tryz.func85,by kernel_rfl,by kernel_rfl⟩
end eB
namespace oU
noncomputable def fs:FS:=⟨[(.val (.int .i64) .f),(.val (.int .i64) .f)],[((.int .i64),.o)],fun _=>true,fun x=>((),((oU x.1 x.2.1),()))⟩
noncomputable def E:fN:=⟨bI,[],[]⟩
noncomputable def H:List LC:=[]
theorem dD:aT Tryz.prog E:=aN jH
theorem loops:∀c,Tryz.f110.body=some c->aL E H c:=aO (by kernel_rfl)
theorem aLp:bF Tryz.prog 110 fs:=aI dD mixed Tryz.func110 H loops fun⟨x0,x1,()⟩ hw _=>(show bG E H Tryz.f110 fs.ps fs.rs (x0,(x1,()))=aQ x0 x1 from by kernel_rfl).trans (eq x0 x1 hw)
theorem aLo:cX Tryz.prog 110 fs:=⟨aLp,_,Tryz.func110,by kernel_rfl,by kernel_rfl⟩
end oU
namespace dZ
noncomputable def fs:FS:=⟨[(.val bV .f),(.val (.int .i64) .f)],[(bV,.o)],fun x=>dZ.pre x.1 x.2.1,fun x=>((),((dZ x.1 x.2.1),()))⟩
noncomputable def E:fN:=⟨bI,[(109,aU.fs)],[]⟩
noncomputable def H:List LC:=[]
theorem dD:aT Tryz.prog E:=aB aU.aLo (aN jH)
theorem loops:∀c,Tryz.f122.body=some c->aL E H c:=aO (by kernel_rfl)
theorem aLp:bF Tryz.prog 122 fs:=aI dD mixed Tryz.func122 H loops fun⟨x0,x1,()⟩ hw hp=>(show bG E H Tryz.f122 fs.ps fs.rs (x0,(x1,()))=aQ x0 x1 from by kernel_rfl).trans (eq x0 x1 hw hp)
theorem aLo:cX Tryz.prog 122 fs:=⟨aLp,_,Tryz.func122,by kernel_rfl,by kernel_rfl⟩
end dZ
namespace iT
noncomputable def fs:FS:=⟨[(.val (.int .i64) .f)],[((.int .i64),.o)],fun x=>iT.pre x.1,fun x=>((),((iT x.1),()))⟩
noncomputable def E:fN:=⟨bI,[],[]⟩
noncomputable def H:List LC:=[]
theorem dD:aT Tryz.prog E:=aN jH
theorem loops:∀c,Tryz.f123.body=some c->aL E H c:=aO (by kernel_rfl)
theorem aLp:bF Tryz.prog 123 fs:=aI dD mixed Tryz.func123 H loops fun⟨x0,()⟩ hw hp=>(show bG E H Tryz.f123 fs.ps fs.rs (x0,())=aQ x0 from by kernel_rfl).trans (eq x0 hw hp)
theorem aLo:cX Tryz.prog 123 fs:=⟨aLp,_,Tryz.func123,by kernel_rfl,by kernel_rfl⟩
end iT
namespace gK
noncomputable def nA:List (Nat×vT):=[(0,(.box bV (.dat bV))),(32,(.box bV (.pair (.dat (.int .i64)) (.pair (.arr 20000000) (.pair (.arr 20000001) (.pair (.arr 20000002) (.dat .unit))))))),(20000000,(.arr 3 (.int .i64))),(20000001,(.arr 3 (.int .i64))),(20000002,(.arr 3 (.int .i64))),(8256,(.box bV (.pair (.dat (.int .i64)) (.pair (.arr 20000003) (.pair (.arr 20000004) (.pair (.arr 20000005) (.dat .unit))))))),(20000003,(.arr 3 (.int .i64))),(20000004,(.arr 3 (.int .i64))),(20000005,(.arr 3 (.int .i64)))]
noncomputable def fs:FS:=⟨[(.val bV .f),(.val (.int .i64) .f)],[(bV,.o)],fun x=>gK.pre x.1 x.2.1,fun x=>((),((gK x.1 x.2.1),()))⟩
noncomputable def E:fN:=⟨bI,[(109,aU.fs),(122,dZ.fs),(123,iT.fs)],[]⟩
noncomputable def vX:iN:=⟨(uu::ui::(.one (.bptr 0 [] bV))::uu::(.one (.bptr 32 [] bV))::(.one (.bptr 8256 [] bV))::(.one (.dat .bool))::ui::un 53 []),nA⟩
noncomputable def kC:List iZ:=[⟨(.exit 0),⟨0,[2,4,5,6],[],[]⟩,⟨(uu::uu::(.one (.bptr 0 [] bV))::uu::(.one (.bptr 32 [] bV))::(.one (.bptr 8256 [] bV))::(.one (.dat .bool))::un 54 []),nA⟩⟩]
noncomputable def L4:LC:=⟨4,⟨4,[1,2,4,5,6,7],[],[]⟩,vX,kC,pre4,fn4⟩
noncomputable def H:List LC:=[L4]
noncomputable def code(i:Nat):Code:=(cB (dX Tryz.f111)).getD i .skip
theorem nG:dE E H (code 0) L4:=⟨kU,fun⟨x1,x2,x3,x4,x5,x6,x7,x8,x9,x10,x11,x12,x13,x14,()⟩ hp=>bE (show L4.step E H (code 0) (x1,(x2,(x3,(x4,(x5,(x6,(x7,(x8,(x9,(x10,(x11,(x12,(x13,(x14,()))))))))))))))=eO x1 x2 x3 x4 x5 x6 x7 x8 x9 x10 x11 x12 x13 x14 from by kernel_rfl) (vZ x1 x2 x3 x4 x5 x6 x7 x8 x9 x10 x11 x12 x13 x14 hp)⟩
theorem dD:aT Tryz.prog E:=aB aU.aLo (aB dZ.aLo (aB iT.aLo (aN jH)))
theorem loops:∀c,Tryz.f111.body=some c->aL E H c:=cJ (by kernel_rfl) (by kernel_rfl) fun i l h=>match i,h with
  |0,h=>Option.some.inj h▸nG
  |n+1,h=>by cases h
theorem aLp:bF Tryz.prog 111 fs:=aI dD mixed Tryz.func111 H loops fun⟨x0,x1,()⟩ hw hp=>(show bG E H Tryz.f111 fs.ps fs.rs (x0,(x1,()))=aQ x0 x1 from by kernel_rfl).trans (eq x0 x1 hw hp)
theorem aLo:cX Tryz.prog 111 fs:=⟨aLp,_,Tryz.func111,by kernel_rfl,by kernel_rfl⟩
end gK
namespace jU
noncomputable def fs:FS:=⟨[(.val bV .f),(.val (.int .i64) .f)],[((.int .i64),.o)],fun x=>jU.pre x.1 x.2.1,fun x=>((),((jU x.1 x.2.1),()))⟩
noncomputable def E:fN:=⟨bI,[],[]⟩
noncomputable def sh2:iN:=⟨(uu::ui::(.one (.bptr 0 [] bV))::uu::uu::ui::un 15 []),[(0,(.box bV (.dat bV)))]⟩
noncomputable def mO:List iZ:=[⟨.ret,⟨0,[4],[],[]⟩,⟨(un 4 (ui::un 16 [])),[]⟩⟩,⟨(.exit 0),⟨0,[],[],[]⟩,⟨(un 21 []),[]⟩⟩]
noncomputable def L2:LC:=⟨2,⟨2,[1,2,5],[],[]⟩,sh2,mO,pre2,fn2⟩
noncomputable def H:List LC:=[L2]
noncomputable def code(i:Nat):Code:=(cB (dX Tryz.f145)).getD i .skip
theorem qO:dE E H (code 0) L2:=⟨qY,fun⟨x1,x2,x3,()⟩ hp=>bE (show L2.step E H (code 0) (x1,(x2,(x3,())))=jX x1 x2 x3 from by kernel_rfl) (ok2 x1 x2 x3 hp)⟩
theorem dD:aT Tryz.prog E:=aN jH
theorem loops:∀c,Tryz.f145.body=some c->aL E H c:=cJ (by kernel_rfl) (by kernel_rfl) fun i l h=>match i,h with
  |0,h=>Option.some.inj h▸qO
  |n+1,h=>by cases h
theorem aLp:bF Tryz.prog 145 fs:=aI dD mixed Tryz.func145 H loops fun⟨x0,x1,()⟩ hw hp=>(show bG E H Tryz.f145 fs.ps fs.rs (x0,(x1,()))=aQ x0 x1 from by kernel_rfl).trans (eq x0 x1 hw hp)
theorem aLo:cX Tryz.prog 145 fs:=⟨aLp,_,Tryz.func145,by kernel_rfl,by kernel_rfl⟩
end jU
namespace fX
noncomputable def nA:List (Nat×vT):=[(0,(.box bV (.dat bV))),(32,(.box bV (.pair (.dat (.int .i64)) (.pair (.arr 20000000) (.pair (.arr 20000001) (.pair (.arr 20000002) (.dat .unit))))))),(20000000,(.arr 3 (.int .i64))),(20000001,(.arr 3 (.int .i64))),(20000002,(.arr 3 (.int .i64))),(8256,(.box bV (.pair (.dat (.int .i64)) (.pair (.arr 20000003) (.pair (.arr 20000004) (.pair (.arr 20000005) (.dat .unit))))))),(20000003,(.arr 3 (.int .i64))),(20000004,(.arr 3 (.int .i64))),(20000005,(.arr 3 (.int .i64)))]
noncomputable def fs:FS:=⟨[(.val bV .f),(.val (.int .i64) .f),(.val (.int .i64) .f)],[(bV,.o)],fun x=>fX.pre x.1 x.2.1 x.2.2.1,fun x=>((),((fX x.1 x.2.1 x.2.2.1),()))⟩
noncomputable def E:fN:=⟨bI,[(54,eV.fs),(109,aU.fs),(123,iT.fs),(145,jU.fs)],[]⟩
noncomputable def aKZ:iN:=⟨(uu::ui::ui::(.one (.bptr 0 [] bV))::uu::uu::(.one (.bptr 32 [] bV))::(.one (.bptr 8256 [] bV))::ui::un 86 []),nA⟩
noncomputable def aJO:List iZ:=[⟨(.exit 0),⟨0,[1,2,3,6,7,8],[],[]⟩,⟨(uu::ui::ui::(.one (.bptr 0 [] bV))::uu::uu::(.one (.bptr 32 [] bV))::(.one (.bptr 8256 [] bV))::ui::un 86 []),nA⟩⟩]
noncomputable def L10:LC:=⟨10,⟨10,[1,2,3,6,7,8],[],[]⟩,aKZ,aJO,pre10,fn10⟩
noncomputable def H:List LC:=[L10]
noncomputable def code(i:Nat):Code:=(cB (dX Tryz.f124)).getD i .skip
theorem aKD:dE E H (code 0) L10:=⟨aJs,fun⟨x1,x2,x3,x4,x5,x6,x7,x8,x9,x10,x11,x12,x13,x14,()⟩ hp=>bE (show L10.step E H (code 0) (x1,(x2,(x3,(x4,(x5,(x6,(x7,(x8,(x9,(x10,(x11,(x12,(x13,(x14,()))))))))))))))=aIC x1 x2 x3 x4 x5 x6 x7 x8 x9 x10 x11 x12 x13 x14 from by kernel_rfl) (aKJ x1 x2 x3 x4 x5 x6 x7 x8 x9 x10 x11 x12 x13 x14 hp)⟩
theorem dD:aT Tryz.prog E:=aB eV.aLo (aB aU.aLo (aB iT.aLo (aB jU.aLo (aN jH))))
theorem loops:∀c,Tryz.f124.body=some c->aL E H c:=cJ (by kernel_rfl) (by kernel_rfl) fun i l h=>match i,h with
  |0,h=>Option.some.inj h▸aKD
  |n+1,h=>by cases h
theorem aLp:bF Tryz.prog 124 fs:=aI dD mixed Tryz.func124 H loops fun⟨x0,x1,x2,()⟩ hw hp=>(show bG E H Tryz.f124 fs.ps fs.rs (x0,(x1,(x2,())))=aQ x0 x1 x2 from by kernel_rfl).trans (eq x0 x1 x2 hw hp)
theorem aLo:cX Tryz.prog 124 fs:=⟨aLp,_,Tryz.func124,by kernel_rfl,by kernel_rfl⟩
end fX
namespace iD
noncomputable def fs:FS:=⟨[(.val bV .f),(.val (.int .i64) .f)],[(bV,.o)],fun x=>iD.pre x.1 x.2.1,fun x=>((),((iD x.1 x.2.1),()))⟩
noncomputable def E:fN:=⟨bI,[(54,eV.fs),(109,aU.fs),(122,dZ.fs),(123,iT.fs),(145,jU.fs)],[]⟩
noncomputable def H:List LC:=[]
theorem dD:aT Tryz.prog E:=aB eV.aLo (aB aU.aLo (aB dZ.aLo (aB iT.aLo (aB jU.aLo (aN jH)))))
theorem loops:∀c,Tryz.f125.body=some c->aL E H c:=aO (by kernel_rfl)
theorem aLp:bF Tryz.prog 125 fs:=aI dD mixed Tryz.func125 H loops fun⟨x0,x1,()⟩ hw hp=>(show bG E H Tryz.f125 fs.ps fs.rs (x0,(x1,()))=aQ x0 x1 from by kernel_rfl).trans (eq x0 x1 hw hp)
theorem aLo:cX Tryz.prog 125 fs:=⟨aLp,_,Tryz.func125,by kernel_rfl,by kernel_rfl⟩
end iD
namespace kL
noncomputable def fs:FS:=⟨[(.val bV .f),(.val (.int .i64) .f)],[((.int .i64),.o)],fun x=>kL.pre x.1 x.2.1,fun x=>((),((kL x.1 x.2.1),()))⟩
noncomputable def E:fN:=⟨bI,[],[]⟩
noncomputable def H:List LC:=[]
theorem dD:aT Tryz.prog E:=aN jH
theorem loops:∀c,Tryz.f146.body=some c->aL E H c:=aO (by kernel_rfl)
theorem aLp:bF Tryz.prog 146 fs:=aI dD mixed Tryz.func146 H loops fun⟨x0,x1,()⟩ hw hp=>(show bG E H Tryz.f146 fs.ps fs.rs (x0,(x1,()))=aQ x0 x1 from by kernel_rfl).trans (eq x0 x1 hw hp)
theorem aLo:cX Tryz.prog 146 fs:=⟨aLp,_,Tryz.func146,by kernel_rfl,by kernel_rfl⟩
end kL
namespace hZ
noncomputable def fs:FS:=⟨[(.val bV .f),(.val (.int .i64) .f),(.val (.int .i64) .f),(.val (.int .i64) .f),(.val (.int .i64) .f)],[(bV,.o),(.bool,.o)],fun x=>hZ.pre x.1 x.2.1 x.2.2.1 x.2.2.2.1 x.2.2.2.2.1,fun x=>((),((hZ x.1 x.2.1 x.2.2.1 x.2.2.2.1 x.2.2.2.2.1).1,((hZ x.1 x.2.1 x.2.2.1 x.2.2.2.1 x.2.2.2.2.1).2,())))⟩
noncomputable def E:fN:=⟨bI,[(54,eV.fs),(109,aU.fs),(146,kL.fs)],[]⟩
noncomputable def H:List LC:=[]
theorem dD:aT Tryz.prog E:=aB eV.aLo (aB aU.aLo (aB kL.aLo (aN jH)))
theorem loops:∀c,Tryz.f126.body=some c->aL E H c:=aO (by kernel_rfl)
theorem aLp:bF Tryz.prog 126 fs:=aI dD mixed Tryz.func126 H loops fun⟨x0,x1,x2,x3,x4,()⟩ hw hp=>(show bG E H Tryz.f126 fs.ps fs.rs (x0,(x1,(x2,(x3,(x4,())))))=aQ x0 x1 x2 x3 x4 from by kernel_rfl).trans (eq x0 x1 x2 x3 x4 hw hp)
theorem aLo:cX Tryz.prog 126 fs:=⟨aLp,_,Tryz.func126,by kernel_rfl,by kernel_rfl⟩
end hZ
namespace kJ
noncomputable def fs:FS:=⟨[(.val fO .f),(.val aY .o),(.val kO .f)],[(aY,.o),(dA,.o)],fun x=>kJ.pre x.1 x.2.1 x.2.2.1,fun x=>((),((kJ x.1 x.2.1 x.2.2.1).1,((kJ x.1 x.2.1 x.2.2.1).2,())))⟩
noncomputable def E:fN:=⟨bI,[(124,fX.fs),(125,iD.fs),(126,hZ.fs)],[]⟩
noncomputable def H:List LC:=[]
theorem dD:aT Tryz.prog E:=aB fX.aLo (aB iD.aLo (aB hZ.aLo (aN jH)))
theorem loops:∀c,Tryz.f112.body=some c->aL E H c:=aO (by kernel_rfl)
theorem aLp:bF Tryz.prog 112 fs:=aI dD mixed Tryz.func112 H loops fun⟨x0,x1,x2,()⟩ hw hp=>(show bG E H Tryz.f112 fs.ps fs.rs (x0,(x1,(x2,())))=aQ x0 x1 x2 from by kernel_rfl).trans (eq x0 x1 x2 hw hp)
theorem aLo:cX Tryz.prog 112 fs:=⟨aLp,_,Tryz.func112,by kernel_rfl,by kernel_rfl⟩
end kJ
namespace fU
noncomputable def nA:List (Nat×vT):=[(0,(.box bX (.pair (.dat (.int .i64)) (.pair (.dat (.int .i64)) (.pair (.dat (.int .i64)) (.pair (.dat (.int .i64)) (.pair (.arr 20000000) (.dat .unit)))))))),(20000000,(.arr 118 lW))]
noncomputable def fs:FS:=⟨[(.val (.sl 80 bX) .f),(.val (.int .i64) .f),(.val (.int .i64) .f)],[(bX,.o)],fun x=>fU.pre x.1 x.2.1 x.2.2.1,fun x=>((),((fU x.1 x.2.1 x.2.2.1),()))⟩
noncomputable def E:fN:=⟨bI,[(108,aM.fs)],[]⟩
noncomputable def sh2:iN:=⟨((.one (.dat (.sl 80 bX)))::ui::ui::uu::uu::uu::(.one (.bptr 0 [] bX))::ui::un 30 []),nA⟩
noncomputable def mO:List iZ:=[⟨.ret,⟨0,[6],[],[]⟩,⟨(un 6 ((.one (.bptr 0 [] bX))::un 31 [])),nA⟩⟩,⟨(.exit 0),⟨0,[1,2,6],[],[]⟩,⟨(uu::ui::ui::uu::uu::uu::(.one (.bptr 0 [] bX))::un 31 []),nA⟩⟩]
noncomputable def L2:LC:=⟨2,⟨2,[0,1,2,6,7],[],[]⟩,sh2,mO,pre2,fn2⟩
noncomputable def H:List LC:=[L2]
noncomputable def code(i:Nat):Code:=(cB (dX Tryz.f147)).getD i .skip
theorem qO:dE E H (code 0) L2:=⟨qY,fun⟨x1,x2,x3,x4,x5,x6,x7,x8,x9,x10,()⟩ hp=>bE (show L2.step E H (code 0) (x1,(x2,(x3,(x4,(x5,(x6,(x7,(x8,(x9,(x10,()))))))))))=jX x1 x2 x3 x4 x5 x6 x7 x8 x9 x10 from by kernel_rfl) (ok2 x1 x2 x3 x4 x5 x6 x7 x8 x9 x10 hp)⟩
theorem dD:aT Tryz.prog E:=aB aM.aLo (aN jH)
theorem loops:∀c,Tryz.f147.body=some c->aL E H c:=cJ (by kernel_rfl) (by kernel_rfl) fun i l h=>match i,h with
  |0,h=>Option.some.inj h▸qO
  |n+1,h=>by cases h
theorem aLp:bF Tryz.prog 147 fs:=aI dD mixed Tryz.func147 H loops fun⟨x0,x1,x2,()⟩ hw hp=>(show bG E H Tryz.f147 fs.ps fs.rs (x0,(x1,(x2,())))=aQ x0 x1 x2 from by kernel_rfl).trans (eq x0 x1 x2 hw hp)
theorem aLo:cX Tryz.prog 147 fs:=⟨aLp,_,Tryz.func147,by kernel_rfl,by kernel_rfl⟩
end fU
namespace eS
noncomputable def fs:FS:=⟨[(.val bX .f),(.val (.int .i64) .f),(.val (.int .i64) .f)],[((.int .i64),.o),((.int .i64),.o)],fun x=>eS.pre x.1 x.2.1 x.2.2.1,fun x=>((),((eS x.1 x.2.1 x.2.2.1).1,((eS x.1 x.2.1 x.2.2.1).2,())))⟩
noncomputable def E:fN:=⟨bI,[],[]⟩
noncomputable def aK6:iN:=⟨(uu::uu::ui::(.one (.bptr 0 [] bX))::un 4 (ui::un 40 [])),[(0,(.box bX (.dat bX)))]⟩
noncomputable def aFC:List iZ:=[⟨.ret,⟨0,[6,7],[],[]⟩,⟨(un 6 (ui::ui::un 41 [])),[]⟩⟩,⟨(.exit 0),⟨0,[],[],[]⟩,⟨(un 49 []),[]⟩⟩]
noncomputable def L12:LC:=⟨12,⟨12,[2,3,8],[],[]⟩,aK6,aFC,pre12,fn12⟩
noncomputable def H:List LC:=[L12]
noncomputable def code(i:Nat):Code:=(cB (dX Tryz.f148)).getD i .skip
theorem aIx:dE E H (code 0) L12:=⟨aFW,fun⟨x1,x2,x3,()⟩ hp=>bE (show L12.step E H (code 0) (x1,(x2,(x3,())))=aBI x1 x2 x3 from by kernel_rfl) (aKg x1 x2 x3 hp)⟩
theorem dD:aT Tryz.prog E:=aN jH
theorem loops:∀c,Tryz.f148.body=some c->aL E H c:=cJ (by kernel_rfl) (by kernel_rfl) fun i l h=>match i,h with
  |0,h=>Option.some.inj h▸aIx
  |n+1,h=>by cases h
theorem aLp:bF Tryz.prog 148 fs:=aI dD mixed Tryz.func148 H loops fun⟨x0,x1,x2,()⟩ hw hp=>(show bG E H Tryz.f148 fs.ps fs.rs (x0,(x1,(x2,())))=aQ x0 x1 x2 from by kernel_rfl).trans (eq x0 x1 x2 hw hp)
theorem aLo:cX Tryz.prog 148 fs:=⟨aLp,_,Tryz.func148,by kernel_rfl,by kernel_rfl⟩
end eS
namespace kQ
noncomputable def fs:FS:=⟨[(.val gD .f)],[(.bool,.o)],fun x=>kQ.pre x.1,fun x=>((),((kQ x.1),()))⟩
noncomputable def E:fN:=⟨bI,[(54,eV.fs),(55,iA.fs)],[]⟩
noncomputable def H:List LC:=[]
theorem dD:aT Tryz.prog E:=aB eV.aLo (aB iA.aLo (aN jH))
theorem loops:∀c,Tryz.f167.body=some c->aL E H c:=aO (by kernel_rfl)
theorem aLp:bF Tryz.prog 167 fs:=aI dD mixed Tryz.func167 H loops fun⟨x0,()⟩ hw hp=>(show bG E H Tryz.f167 fs.ps fs.rs (x0,())=aQ x0 from by kernel_rfl).trans (eq x0 hw hp)
theorem aLo:cX Tryz.prog 167 fs:=⟨aLp,_,Tryz.func167,by kernel_rfl,by kernel_rfl⟩
end kQ
namespace eM
noncomputable def nA:List (Nat×vT):=[(0,(.box bD (.dat bD)))]
noncomputable def fs:FS:=⟨[(.val bD .f)],[(.bool,.o)],fun x=>eM.pre x.1,fun x=>((),((eM x.1),()))⟩
noncomputable def E:fN:=⟨bI,[(54,eV.fs),(167,kQ.fs)],[]⟩
noncomputable def sh2:iN:=⟨(uu::(.one (.bptr 0 [] bD))::uu::ui::un 65 []),nA⟩
noncomputable def mO:List iZ:=[⟨.ret,⟨0,[2],[],[]⟩,⟨(uu::uu::(.one (.dat .bool))::un 66 []),[]⟩⟩,⟨(.exit 0),⟨0,[1],[],[]⟩,⟨(uu::(.one (.bptr 0 [] bD))::un 67 []),nA⟩⟩]
noncomputable def L2:LC:=⟨2,⟨2,[1,3],[],[]⟩,sh2,mO,pre2,fn2⟩
noncomputable def H:List LC:=[L2]
noncomputable def code(i:Nat):Code:=(cB (dX Tryz.f152)).getD i .skip
theorem qO:dE E H (code 0) L2:=⟨qY,fun⟨x1,x2,()⟩ hp=>bE (show L2.step E H (code 0) (x1,(x2,()))=jX x1 x2 from by kernel_rfl) (ok2 x1 x2 hp)⟩
theorem dD:aT Tryz.prog E:=aB eV.aLo (aB kQ.aLo (aN jH))
theorem loops:∀c,Tryz.f152.body=some c->aL E H c:=cJ (by kernel_rfl) (by kernel_rfl) fun i l h=>match i,h with
  |0,h=>Option.some.inj h▸qO
  |n+1,h=>by cases h
theorem aLp:bF Tryz.prog 152 fs:=aI dD mixed Tryz.func152 H loops fun⟨x0,()⟩ hw hp=>(show bG E H Tryz.f152 fs.ps fs.rs (x0,())=aQ x0 from by kernel_rfl).trans (eq x0 hw hp)
theorem aLo:cX Tryz.prog 152 fs:=⟨aLp,_,Tryz.func152,by kernel_rfl,by kernel_rfl⟩
end eM
namespace jZ
noncomputable def fs:FS:=⟨[(.val bD .f),(.val .str .f),(.val .str .f),(.val (.int .i64) .f),(.val (.int .i64) .f)],[(bD,.o),((.int .i64),.o),(.bool,.o)],fun x=>jZ.pre x.1 x.2.1 x.2.2.1 x.2.2.2.1 x.2.2.2.2.1,fun x=>((),((jZ x.1 x.2.1 x.2.2.1 x.2.2.2.1 x.2.2.2.2.1).1,((jZ x.1 x.2.1 x.2.2.1 x.2.2.2.1 x.2.2.2.2.1).2.1,((jZ x.1 x.2.1 x.2.2.1 x.2.2.2.1 x.2.2.2.2.1).2.2,()))))⟩
noncomputable def E:fN:=⟨bI,[(107,bK.fs),(152,eM.fs)],[]⟩
noncomputable def H:List LC:=[]
theorem dD:aT Tryz.prog E:=aB bK.aLo (aB eM.aLo (aN jH))
theorem loops:∀c,Tryz.f149.body=some c->aL E H c:=aO (by kernel_rfl)
theorem aLp:bF Tryz.prog 149 fs:=aI dD mixed Tryz.func149 H loops fun⟨x0,x1,x2,x3,x4,()⟩ hw hp=>(show bG E H Tryz.f149 fs.ps fs.rs (x0,(x1,(x2,(x3,(x4,())))))=aQ x0 x1 x2 x3 x4 from by kernel_rfl).trans (eq x0 x1 x2 x3 x4 hw hp)
theorem aLo:cX Tryz.prog 149 fs:=⟨aLp,_,Tryz.func149,by kernel_rfl,by kernel_rfl⟩
end jZ
namespace oV
noncomputable def fs:FS:=⟨[(.val (.int .i64) .f),(.val (.int .i64) .f)],[((.int .i64),.o)],fun _=>true,fun x=>((),((oV x.1 x.2.1),()))⟩
noncomputable def E:fN:=⟨bI,[],[]⟩
noncomputable def H:List LC:=[]
theorem dD:aT Tryz.prog E:=aN jH
theorem loops:∀c,Tryz.f166.body=some c->aL E H c:=aO (by kernel_rfl)
theorem aLp:bF Tryz.prog 166 fs:=aI dD mixed Tryz.func166 H loops fun⟨x0,x1,()⟩ hw _=>(show bG E H Tryz.f166 fs.ps fs.rs (x0,(x1,()))=aQ x0 x1 from by kernel_rfl).trans (eq x0 x1 hw)
theorem aLo:cX Tryz.prog 166 fs:=⟨aLp,_,Tryz.func166,by kernel_rfl,by kernel_rfl⟩
end oV
namespace jJ
noncomputable def fs:FS:=⟨[(.val bX .f),(.val (.int .i64) .f),(.val (.int .i64) .f),(.val (.int .i64) .f),(.val (.int .i64) .f)],[(bX,.o)],fun x=>jJ.pre x.1 x.2.1 x.2.2.1 x.2.2.2.1 x.2.2.2.2.1,fun x=>((),((jJ x.1 x.2.1 x.2.2.1 x.2.2.2.1 x.2.2.2.2.1),()))⟩
noncomputable def E:fN:=⟨bI,[(108,aM.fs),(148,eS.fs),(166,oV.fs)],[]⟩
noncomputable def H:List LC:=[]
theorem dD:aT Tryz.prog E:=aB aM.aLo (aB eS.aLo (aB oV.aLo (aN jH)))
theorem loops:∀c,Tryz.f151.body=some c->aL E H c:=aO (by kernel_rfl)
theorem aLp:bF Tryz.prog 151 fs:=aI dD mixed Tryz.func151 H loops fun⟨x0,x1,x2,x3,x4,()⟩ hw hp=>(show bG E H Tryz.f151 fs.ps fs.rs (x0,(x1,(x2,(x3,(x4,())))))=aQ x0 x1 x2 x3 x4 from by kernel_rfl).trans (eq x0 x1 x2 x3 x4 hw hp)
theorem aLo:cX Tryz.prog 151 fs:=⟨aLp,_,Tryz.func151,by kernel_rfl,by kernel_rfl⟩
end jJ
namespace gB
noncomputable def nA:List (Nat×vT):=[(0,(.box bX (.dat bX))),(20000000,(.arr 80 bX))]
noncomputable def fs:FS:=⟨[(.val (.sl 80 bX) .f),(.val bX .f)],[((.sl 80 bX),.o)],fun x=>gB.pre x.1 x.2.1,fun x=>((),((gB x.1 x.2.1),()))⟩
noncomputable def E:fN:=⟨bI,[(108,aM.fs)],[]⟩
noncomputable def vX:iN:=⟨((.one (.dat (.sl 80 bX)))::uu::uu::(.one (.bptr 0 [] bX))::uu::(.one (.arr 20000000))::(.one (.dat .bool))::ui::un 72 []),nA⟩
noncomputable def kC:List iZ:=[⟨(.exit 0),⟨0,[3,5,6],[(5,(80,bX))],[]⟩,⟨(uu::uu::uu::(.one (.bptr 0 [] bX))::uu::(.one (.arr 20000000))::(.one (.dat .bool))::un 73 []),nA⟩⟩]
noncomputable def L4:LC:=⟨4,⟨4,[0,3,5,6,7],[(5,(80,bX))],[]⟩,vX,kC,pre4,fn4⟩
noncomputable def H:List LC:=[L4]
noncomputable def code(i:Nat):Code:=(cB (dX Tryz.f150)).getD i .skip
theorem nG:dE E H (code 0) L4:=⟨kU,fun⟨x1,x2,x3,x4,x5,()⟩ hp=>bE (show L4.step E H (code 0) (x1,(x2,(x3,(x4,(x5,())))))=eO x1 x2 x3 x4 x5 from by kernel_rfl) (vZ x1 x2 x3 x4 x5 hp)⟩
theorem dD:aT Tryz.prog E:=aB aM.aLo (aN jH)
theorem loops:∀c,Tryz.f150.body=some c->aL E H c:=cJ (by kernel_rfl) (by kernel_rfl) fun i l h=>match i,h with
  |0,h=>Option.some.inj h▸nG
  |n+1,h=>by cases h
theorem aLp:bF Tryz.prog 150 fs:=aI dD mixed Tryz.func150 H loops fun⟨x0,x1,()⟩ hw hp=>(show bG E H Tryz.f150 fs.ps fs.rs (x0,(x1,()))=aQ x0 x1 from by kernel_rfl).trans (eq x0 x1 hw hp)
theorem aLo:cX Tryz.prog 150 fs:=⟨aLp,_,Tryz.func150,by kernel_rfl,by kernel_rfl⟩
end gB
namespace lG
noncomputable def fs:FS:=⟨[(.val fO .f),(.val aY .o),(.val kO .f)],[(aY,.o),(dA,.o)],fun x=>lG.pre x.1 x.2.1 x.2.2.1,fun x=>((),((lG x.1 x.2.1 x.2.2.1).1,((lG x.1 x.2.1 x.2.2.1).2,())))⟩
noncomputable def E:fN:=⟨bI,[(147,fU.fs),(148,eS.fs),(149,jZ.fs),(151,jJ.fs),(150,gB.fs)],[]⟩
noncomputable def H:List LC:=[]
theorem dD:aT Tryz.prog E:=aB fU.aLo (aB eS.aLo (aB jZ.aLo (aB jJ.aLo (aB gB.aLo (aN jH)))))
theorem loops:∀c,Tryz.f127.body=some c->aL E H c:=aO (by kernel_rfl)
theorem aLp:bF Tryz.prog 127 fs:=aI dD mixed Tryz.func127 H loops fun⟨x0,x1,x2,()⟩ hw hp=>(show bG E H Tryz.f127 fs.ps fs.rs (x0,(x1,(x2,())))=aQ x0 x1 x2 from by kernel_rfl).trans (eq x0 x1 x2 hw hp)
theorem aLo:cX Tryz.prog 127 fs:=⟨aLp,_,Tryz.func127,by kernel_rfl,by kernel_rfl⟩
end lG
namespace jO
noncomputable def fs:FS:=⟨[(.val aY .o),(.val kO .f)],[(aY,.o),(dA,.o)],fun x=>jO.pre x.1 x.2.1,fun x=>((),((jO x.1 x.2.1).1,((jO x.1 x.2.1).2,())))⟩
noncomputable def E:fN:=⟨bI,[(147,fU.fs),(150,gB.fs)],[]⟩
noncomputable def H:List LC:=[]
theorem dD:aT Tryz.prog E:=aB fU.aLo (aB gB.aLo (aN jH))
theorem loops:∀c,Tryz.f128.body=some c->aL E H c:=aO (by kernel_rfl)
theorem aLp:bF Tryz.prog 128 fs:=aI dD mixed Tryz.func128 H loops fun⟨x0,x1,()⟩ hw hp=>(show bG E H Tryz.f128 fs.ps fs.rs (x0,(x1,()))=aQ x0 x1 from by kernel_rfl).trans (eq x0 x1 hw hp)
theorem aLo:cX Tryz.prog 128 fs:=⟨aLp,_,Tryz.func128,by kernel_rfl,by kernel_rfl⟩
end jO
namespace jB
noncomputable def nA:List (Nat×vT):=[(32,(.box gD (.dat gD)))]
noncomputable def fs:FS:=⟨[(.val bD .f),(.val (.int .i64) .f)],[(gD,.o),((.int .i64),.o)],fun x=>jB.pre x.1 x.2.1,fun x=>((),((jB x.1 x.2.1).1,((jB x.1 x.2.1).2,())))⟩
noncomputable def E:fN:=⟨bI,[],[]⟩
noncomputable def vX:iN:=⟨(uu::ui::(.one (.bptr 0 [] bD))::uu::(.one (.bptr 32 [] gD))::uu::ui::un 26 []),[(0,(.box bD (.dat bD))),(32,(.box gD (.dat gD)))]⟩
noncomputable def kC:List iZ:=[⟨.ret,⟨0,[4,5],[],[]⟩,⟨(un 4 ((.one (.bptr 32 [] gD))::ui::un 27 [])),nA⟩⟩,⟨(.exit 0),⟨0,[4],[],[]⟩,⟨(un 4 ((.one (.bptr 32 [] gD))::un 28 [])),nA⟩⟩]
noncomputable def L4:LC:=⟨4,⟨4,[1,2,4,6],[],[]⟩,vX,kC,pre4,fn4⟩
noncomputable def H:List LC:=[L4]
noncomputable def code(i:Nat):Code:=(cB (dX Tryz.f129)).getD i .skip
theorem nG:dE E H (code 0) L4:=⟨kU,fun⟨x1,x2,x3,x4,()⟩ hp=>bE (show L4.step E H (code 0) (x1,(x2,(x3,(x4,()))))=eO x1 x2 x3 x4 from by kernel_rfl) (vZ x1 x2 x3 x4 hp)⟩
theorem dD:aT Tryz.prog E:=aN jH
theorem loops:∀c,Tryz.f129.body=some c->aL E H c:=cJ (by kernel_rfl) (by kernel_rfl) fun i l h=>match i,h with
  |0,h=>Option.some.inj h▸nG
  |n+1,h=>by cases h
theorem aLp:bF Tryz.prog 129 fs:=aI dD mixed Tryz.func129 H loops fun⟨x0,x1,()⟩ hw hp=>(show bG E H Tryz.f129 fs.ps fs.rs (x0,(x1,()))=aQ x0 x1 from by kernel_rfl).trans (eq x0 x1 hw hp)
theorem aLo:cX Tryz.prog 129 fs:=⟨aLp,_,Tryz.func129,by kernel_rfl,by kernel_rfl⟩
end jB
namespace gY
noncomputable def nA:List (Nat×vT):=[(0,(.box bD (.dat bD))),(32,(.box bD (.pair (.dat (.int .i64)) (.pair (.dat (.int .i64)) (.pair (.arr 20000000) (.dat .unit)))))),(20000000,(.arr 44 gD)),(8256,(.box bD (.pair (.dat (.int .i64)) (.pair (.dat (.int .i64)) (.pair (.arr 20000001) (.dat .unit)))))),(20000001,(.arr 44 gD))]
noncomputable def fs:FS:=⟨[(.val bD .f),(.val (.int .i64) .f),(.val (.int .i64) .f)],[(bD,.o)],fun x=>gY.pre x.1 x.2.1 x.2.2.1,fun x=>((),((gY x.1 x.2.1 x.2.2.1),()))⟩
noncomputable def E:fN:=⟨bI,[(107,bK.fs),(152,eM.fs)],[]⟩
noncomputable def sh9:iN:=⟨(uu::ui::ui::(.one (.bptr 0 [] bD))::uu::uu::(.one (.bptr 32 [] bD))::(.one (.bptr 8256 [] bD))::ui::ui::un 66 []),nA⟩
noncomputable def aEW:List iZ:=[⟨(.exit 2),⟨0,[1,2,3,6,7,8,9],[],[]⟩,⟨(uu::ui::ui::(.one (.bptr 0 [] bD))::uu::uu::(.one (.bptr 32 [] bD))::(.one (.bptr 8256 [] bD))::ui::ui::un 66 []),nA⟩⟩]
noncomputable def L9:LC:=⟨9,⟨9,[1,2,3,6,7,8,9],[],[]⟩,sh9,aEW,pre9,fn9⟩
noncomputable def vX:iN:=⟨(uu::ui::ui::(.one (.bptr 0 [] bD))::uu::uu::(.one (.bptr 32 [] bD))::(.one (.bptr 8256 [] bD))::un 68 []),nA⟩
noncomputable def kC:List iZ:=[⟨.ret,⟨0,[6],[],[]⟩,⟨(un 6 ((.one (.bptr 32 [] bD))::un 69 [])),[(32,(.box bD (.pair (.dat (.int .i64)) (.pair (.dat (.int .i64)) (.pair (.arr 20000000) (.dat .unit)))))),(20000000,(.arr 44 gD))]⟩⟩,⟨(.exit 0),⟨0,[6,7],[],[]⟩,⟨(un 6 ((.one (.bptr 32 [] bD))::(.one (.bptr 8256 [] bD))::un 68 [])),[(32,(.box bD (.pair (.dat (.int .i64)) (.pair (.dat (.int .i64)) (.pair (.arr 20000000) (.dat .unit)))))),(20000000,(.arr 44 gD)),(8256,(.box bD (.pair (.dat (.int .i64)) (.pair (.dat (.int .i64)) (.pair (.arr 20000001) (.dat .unit)))))),(20000001,(.arr 44 gD))]⟩⟩]
noncomputable def L4:LC:=⟨4,⟨4,[1,2,3,6,7],[],[]⟩,vX,kC,pre4,fn4⟩
noncomputable def H:List LC:=[L4,L9]
noncomputable def code(i:Nat):Code:=(cB (dX Tryz.f130)).getD i .skip
theorem nG:dE E H (code 0) L4:=⟨kU,fun⟨x1,x2,x3,x4,x5,x6,x7,x8,x9,x10,x11,()⟩ hp=>bE (show L4.step E H (code 0) (x1,(x2,(x3,(x4,(x5,(x6,(x7,(x8,(x9,(x10,(x11,())))))))))))=eO x1 x2 x3 x4 x5 x6 x7 x8 x9 x10 x11 from by kernel_rfl) (vZ x1 x2 x3 x4 x5 x6 x7 x8 x9 x10 x11 hp)⟩
theorem aI2:dE E H (code 1) L9:=⟨mu9,fun⟨x1,x2,x3,x4,x5,x6,x7,x8,x9,x10,x11,x12,x13,()⟩ hp=>bE (show L9.step E H (code 1) (x1,(x2,(x3,(x4,(x5,(x6,(x7,(x8,(x9,(x10,(x11,(x12,(x13,())))))))))))))=aCh x1 x2 x3 x4 x5 x6 x7 x8 x9 x10 x11 x12 x13 from by kernel_rfl) (ok9 x1 x2 x3 x4 x5 x6 x7 x8 x9 x10 x11 x12 x13 hp)⟩
theorem dD:aT Tryz.prog E:=aB bK.aLo (aB eM.aLo (aN jH))
theorem loops:∀c,Tryz.f130.body=some c->aL E H c:=cJ (by kernel_rfl) (by kernel_rfl) fun i l h=>match i,h with
  |0,h=>Option.some.inj h▸nG
  |1,h=>Option.some.inj h▸aI2
  |n+2,h=>by cases h
theorem aLp:bF Tryz.prog 130 fs:=aI dD mixed Tryz.func130 H loops fun⟨x0,x1,x2,()⟩ hw hp=>(show bG E H Tryz.f130 fs.ps fs.rs (x0,(x1,(x2,())))=aQ x0 x1 x2 from by kernel_rfl).trans (eq x0 x1 x2 hw hp)
theorem aLo:cX Tryz.prog 130 fs:=⟨aLp,_,Tryz.func130,by kernel_rfl,by kernel_rfl⟩
end gY
namespace gM
noncomputable def fs:FS:=⟨[(.val bD .f),(.val (.int .i64) .f)],[(.bool,.o)],fun x=>gM.pre x.1 x.2.1,fun x=>((),((gM x.1 x.2.1),()))⟩
noncomputable def E:fN:=⟨bI,[],[]⟩
noncomputable def sh2:iN:=⟨(uu::ui::(.one (.bptr 0 [] bD))::uu::uu::ui::un 22 []),[(0,(.box bD (.dat bD)))]⟩
noncomputable def mO:List iZ:=[⟨.ret,⟨0,[4],[],[]⟩,⟨(un 4 ((.one (.dat .bool))::un 23 [])),[]⟩⟩,⟨(.exit 0),⟨0,[],[],[]⟩,⟨(un 28 []),[]⟩⟩]
noncomputable def L2:LC:=⟨2,⟨2,[1,2,5],[],[]⟩,sh2,mO,pre2,fn2⟩
noncomputable def H:List LC:=[L2]
noncomputable def code(i:Nat):Code:=(cB (dX Tryz.f153)).getD i .skip
theorem qO:dE E H (code 0) L2:=⟨qY,fun⟨x1,x2,x3,()⟩ hp=>bE (show L2.step E H (code 0) (x1,(x2,(x3,())))=jX x1 x2 x3 from by kernel_rfl) (ok2 x1 x2 x3 hp)⟩
theorem dD:aT Tryz.prog E:=aN jH
theorem loops:∀c,Tryz.f153.body=some c->aL E H c:=cJ (by kernel_rfl) (by kernel_rfl) fun i l h=>match i,h with
  |0,h=>Option.some.inj h▸qO
  |n+1,h=>by cases h
theorem aLp:bF Tryz.prog 153 fs:=aI dD mixed Tryz.func153 H loops fun⟨x0,x1,()⟩ hw hp=>(show bG E H Tryz.f153 fs.ps fs.rs (x0,(x1,()))=aQ x0 x1 from by kernel_rfl).trans (eq x0 x1 hw hp)
theorem aLo:cX Tryz.prog 153 fs:=⟨aLp,_,Tryz.func153,by kernel_rfl,by kernel_rfl⟩
end gM
namespace iX
noncomputable def fs:FS:=⟨[(.val bD .f),(.val (.int .i64) .f)],[(bD,.o)],fun x=>iX.pre x.1 x.2.1,fun x=>((),((iX x.1 x.2.1),()))⟩
noncomputable def E:fN:=⟨bI,[(107,bK.fs),(152,eM.fs),(153,gM.fs)],[]⟩
noncomputable def sh5:iN:=⟨(uu::ui::(.one (.bptr 0 [] bD))::uu::(.one (.bptr 32 [] bD))::(.one (.bptr 24736 [] bD))::ui::un 55 []),[(0,(.box bD (.dat bD))),(32,(.box bD (.pair (.dat (.int .i64)) (.pair (.dat (.int .i64)) (.pair (.arr 20000000) (.dat .unit)))))),(20000000,(.arr 44 gD)),(24736,(.box bD (.pair (.dat (.int .i64)) (.pair (.dat (.int .i64)) (.pair (.arr 20000001) (.dat .unit)))))),(20000001,(.arr 44 gD))]⟩
noncomputable def zT:List iZ:=[⟨(.exit 0),⟨0,[4,5],[],[]⟩,⟨(un 4 ((.one (.bptr 32 [] bD))::(.one (.bptr 24736 [] bD))::un 56 [])),[(32,(.box bD (.pair (.dat (.int .i64)) (.pair (.dat (.int .i64)) (.pair (.arr 20000000) (.dat .unit)))))),(20000000,(.arr 44 gD)),(24736,(.box bD (.pair (.dat (.int .i64)) (.pair (.dat (.int .i64)) (.pair (.arr 20000001) (.dat .unit)))))),(20000001,(.arr 44 gD))]⟩⟩]
noncomputable def L5:LC:=⟨5,⟨5,[1,2,4,5,6],[],[]⟩,sh5,zT,pre5,fn5⟩
noncomputable def H:List LC:=[L5]
noncomputable def code(i:Nat):Code:=(cB (dX Tryz.f131)).getD i .skip
theorem aDF:dE E H (code 0) L5:=⟨mu5,fun⟨x1,x2,x3,x4,x5,x6,x7,x8,x9,x10,x11,()⟩ hp=>bE (show L5.step E H (code 0) (x1,(x2,(x3,(x4,(x5,(x6,(x7,(x8,(x9,(x10,(x11,())))))))))))=rG x1 x2 x3 x4 x5 x6 x7 x8 x9 x10 x11 from by kernel_rfl) (ok5 x1 x2 x3 x4 x5 x6 x7 x8 x9 x10 x11 hp)⟩
theorem dD:aT Tryz.prog E:=aB bK.aLo (aB eM.aLo (aB gM.aLo (aN jH)))
theorem loops:∀c,Tryz.f131.body=some c->aL E H c:=cJ (by kernel_rfl) (by kernel_rfl) fun i l h=>match i,h with
  |0,h=>Option.some.inj h▸aDF
  |n+1,h=>by cases h
theorem aLp:bF Tryz.prog 131 fs:=aI dD mixed Tryz.func131 H loops fun⟨x0,x1,()⟩ hw hp=>(show bG E H Tryz.f131 fs.ps fs.rs (x0,(x1,()))=aQ x0 x1 from by kernel_rfl).trans (eq x0 x1 hw hp)
theorem aLo:cX Tryz.prog 131 fs:=⟨aLp,_,Tryz.func131,by kernel_rfl,by kernel_rfl⟩
end iX
namespace mC
noncomputable def fs:FS:=⟨[(.val fO .f),(.val aY .o),(.val kO .f)],[(aY,.o),(dA,.o)],fun x=>mC.pre x.1 x.2.1 x.2.2.1,fun x=>((),((mC x.1 x.2.1 x.2.2.1).1,((mC x.1 x.2.1 x.2.2.1).2,())))⟩
noncomputable def E:fN:=⟨bI,[(127,lG.fs),(128,jO.fs),(129,jB.fs),(130,gY.fs),(131,iX.fs)],[]⟩
noncomputable def H:List LC:=[]
theorem dD:aT Tryz.prog E:=aB lG.aLo (aB jO.aLo (aB jB.aLo (aB gY.aLo (aB iX.aLo (aN jH)))))
theorem loops:∀c,Tryz.f113.body=some c->aL E H c:=aO (by kernel_rfl)
theorem aLp:bF Tryz.prog 113 fs:=aI dD mixed Tryz.func113 H loops fun⟨x0,x1,x2,()⟩ hw hp=>(show bG E H Tryz.f113 fs.ps fs.rs (x0,(x1,(x2,())))=aQ x0 x1 x2 from by kernel_rfl).trans (eq x0 x1 x2 hw hp)
theorem aLo:cX Tryz.prog 113 fs:=⟨aLp,_,Tryz.func113,by kernel_rfl,by kernel_rfl⟩
end mC
namespace kF
noncomputable def nA:List (Nat×vT):=[(32,(.box aY (.pair (.arr 20000000) (.pair (.arr 20000001) (.pair (.arr 20000002) (.pair (.dat (.int .i64)) (.pair (.arr 20000003) (.pair (.arr 20000004) (.dat .unit))))))))),(20000000,(.arr 42 bD)),(20000001,(.arr 80 bX)),(20000002,(.arr 83 bV)),(20000003,(.arr 3 (.int .i64))),(20000004,(.arr 48 dA)),(96,(.box aY (.pair (.arr 20000005) (.pair (.arr 20000006) (.pair (.arr 20000007) (.pair (.dat (.int .i64)) (.pair (.arr 20000008) (.pair (.arr 20000009) (.dat .unit))))))))),(20000005,(.arr 42 bD)),(20000006,(.arr 80 bX)),(20000007,(.arr 83 bV)),(20000008,(.arr 3 (.int .i64))),(20000009,(.arr 48 dA)),(128,(.box dA (.dat dA)))]
noncomputable def fs:FS:=⟨[(.val fO .f),(.val aY .o),(.val kO .f)],[(aY,.o),(dA,.o)],fun x=>kF.pre x.1 x.2.1 x.2.2.1,fun x=>((),((kF x.1 x.2.1 x.2.2.1).1,((kF x.1 x.2.1 x.2.2.1).2,())))⟩
noncomputable def E:fN:=⟨bI,[(54,eV.fs),(110,oU.fs),(111,gK.fs),(112,kJ.fs),(113,mC.fs)],[]⟩
noncomputable def vX:iN:=⟨(un 4 ((.one (.bptr 32 [] aY))::uu::(.one (.bptr 96 [] aY))::(.one (.bptr 128 [] dA))::ui::un 70 [])),nA⟩
noncomputable def kC:List iZ:=[⟨(.exit 0),⟨0,[4,6,7],[],[]⟩,⟨(un 4 ((.one (.bptr 32 [] aY))::uu::(.one (.bptr 96 [] aY))::(.one (.bptr 128 [] dA))::un 71 [])),nA⟩⟩]
noncomputable def L4:LC:=⟨4,⟨4,[4,6,7,8],[],[]⟩,vX,kC,pre4,fn4⟩
noncomputable def H:List LC:=[L4]
noncomputable def code(i:Nat):Code:=(cB (dX Tryz.f86)).getD i .skip
theorem nG:dE E H (code 0) L4:=⟨kU,fun⟨x1,x2,x3,x4,x5,x6,x7,x8,x9,x10,x11,x12,x13,x14,x15,x16,()⟩ hp=>bE (show L4.step E H (code 0) (x1,(x2,(x3,(x4,(x5,(x6,(x7,(x8,(x9,(x10,(x11,(x12,(x13,(x14,(x15,(x16,()))))))))))))))))=eO x1 x2 x3 x4 x5 x6 x7 x8 x9 x10 x11 x12 x13 x14 x15 x16 from by kernel_rfl) (vZ x1 x2 x3 x4 x5 x6 x7 x8 x9 x10 x11 x12 x13 x14 x15 x16 hp)⟩
theorem dD:aT Tryz.prog E:=aB eV.aLo (aB oU.aLo (aB gK.aLo (aB kJ.aLo (aB mC.aLo (aN jH)))))
theorem loops:∀c,Tryz.f86.body=some c->aL E H c:=cJ (by kernel_rfl) (by kernel_rfl) fun i l h=>match i,h with
  |0,h=>Option.some.inj h▸nG
  |n+1,h=>by cases h
theorem aLp:bF Tryz.prog 86 fs:=aI dD mixed Tryz.func86 H loops fun⟨x0,x1,x2,()⟩ hw hp=>(show bG E H Tryz.f86 fs.ps fs.rs (x0,(x1,(x2,())))=aQ x0 x1 x2 from by kernel_rfl).trans (eq x0 x1 x2 hw hp)
theorem aLo:cX Tryz.prog 86 fs:=⟨aLp,_,Tryz.func86,by kernel_rfl,by kernel_rfl⟩
end kF
namespace mM
noncomputable def fs:FS:=⟨[(.val fO .f),(.val aY .f),(.val kO .f)],[(aY,.o),(dA,.o)],fun x=>mM.pre x.1 x.2.1 x.2.2.1,fun x=>((),((mM x.1 x.2.1 x.2.2.1).1,((mM x.1 x.2.1 x.2.2.1).2,())))⟩
noncomputable def E:fN:=⟨bI,[(85,eB.fs),(86,kF.fs)],[]⟩
noncomputable def H:List LC:=[]
theorem dD:aT Tryz.prog E:=aB eB.aLo (aB kF.aLo (aN jH))
theorem loops:∀c,Tryz.f39.body=some c->aL E H c:=aO (by kernel_rfl)
theorem aLp:bF Tryz.prog 39 fs:=aI dD mixed Tryz.func39 H loops fun⟨x0,x1,x2,()⟩ hw hp=>(show bG E H Tryz.f39 fs.ps fs.rs (x0,(x1,(x2,())))=aQ x0 x1 x2 from by kernel_rfl).trans (eq x0 x1 x2 hw hp)
theorem aLo:cX Tryz.prog 39 fs:=⟨aLp,_,Tryz.func39,by kernel_rfl,by kernel_rfl⟩
end mM
namespace eN
noncomputable def fs:FS:=⟨[(.val fO .f),(.val (.sl 46 kO) .f)],[(aY,.o),((.sl 48 dA),.o)],fun x=>eN.pre x.1 x.2.1,fun x=>((),((eN x.1 x.2.1).1,((eN x.1 x.2.1).2,())))⟩
noncomputable def E:fN:=⟨bI,[(37,jL.fs),(16,fF.fs),(38,mU.fs),(39,mM.fs)],[]⟩
noncomputable def vX:iN:=⟨(uu::(.one (.dat (.sl 46 kO)))::(.one (.bptr 0 [] fO))::uu::(.one (.bptr 32 [] aY))::uu::(.one (.arr 20000005))::(.one (.bptr 16448 [] aY))::ui::un 40 []),[(0,(.box fO (.dat fO))),(32,(.box aY (.pair (.arr 20000000) (.pair (.arr 20000001) (.pair (.arr 20000002) (.pair (.dat (.int .i64)) (.pair (.arr 20000003) (.pair (.arr 20000004) (.dat .unit))))))))),(20000000,(.arr 42 bD)),(20000001,(.arr 80 bX)),(20000002,(.arr 83 bV)),(20000003,(.arr 3 (.int .i64))),(20000004,(.arr 48 dA)),(20000005,(.arr 48 dA)),(16448,(.box aY (.pair (.arr 20000006) (.pair (.arr 20000007) (.pair (.arr 20000008) (.pair (.dat (.int .i64)) (.pair (.arr 20000009) (.pair (.arr 20000010) (.dat .unit))))))))),(20000006,(.arr 42 bD)),(20000007,(.arr 80 bX)),(20000008,(.arr 83 bV)),(20000009,(.arr 3 (.int .i64))),(20000010,(.arr 48 dA))]⟩
noncomputable def kC:List iZ:=[⟨(.exit 0),⟨0,[4,6,7],[(6,(48,dA))],[]⟩,⟨(un 4 ((.one (.bptr 32 [] aY))::uu::(.one (.arr 20000005))::(.one (.bptr 16448 [] aY))::un 41 [])),[(32,(.box aY (.pair (.arr 20000000) (.pair (.arr 20000001) (.pair (.arr 20000002) (.pair (.dat (.int .i64)) (.pair (.arr 20000003) (.pair (.arr 20000004) (.dat .unit))))))))),(20000000,(.arr 42 bD)),(20000001,(.arr 80 bX)),(20000002,(.arr 83 bV)),(20000003,(.arr 3 (.int .i64))),(20000004,(.arr 48 dA)),(20000005,(.arr 48 dA)),(16448,(.box aY (.pair (.arr 20000006) (.pair (.arr 20000007) (.pair (.arr 20000008) (.pair (.dat (.int .i64)) (.pair (.arr 20000009) (.pair (.arr 20000010) (.dat .unit))))))))),(20000006,(.arr 42 bD)),(20000007,(.arr 80 bX)),(20000008,(.arr 83 bV)),(20000009,(.arr 3 (.int .i64))),(20000010,(.arr 48 dA))]⟩⟩]
noncomputable def L4:LC:=⟨4,⟨4,[1,2,4,6,7,8],[(6,(48,dA))],[]⟩,vX,kC,pre4,fn4⟩
noncomputable def H:List LC:=[L4]
noncomputable def code(i:Nat):Code:=(cB (dX Tryz.f9)).getD i .skip
theorem nG:dE E H (code 0) L4:=⟨kU,fun⟨x1,x2,x3,x4,x5,x6,x7,x8,x9,x10,x11,x12,x13,x14,x15,x16,x17,x18,()⟩ hp=>bE (show L4.step E H (code 0) (x1,(x2,(x3,(x4,(x5,(x6,(x7,(x8,(x9,(x10,(x11,(x12,(x13,(x14,(x15,(x16,(x17,(x18,()))))))))))))))))))=eO x1 x2 x3 x4 x5 x6 x7 x8 x9 x10 x11 x12 x13 x14 x15 x16 x17 x18 from by kernel_rfl) (vZ x1 x2 x3 x4 x5 x6 x7 x8 x9 x10 x11 x12 x13 x14 x15 x16 x17 x18 hp)⟩
theorem dD:aT Tryz.prog E:=aB jL.aLo (aB fF.aLo (aB mU.aLo (aB mM.aLo (aN jH))))
theorem loops:∀c,Tryz.f9.body=some c->aL E H c:=cJ (by kernel_rfl) (by kernel_rfl) fun i l h=>match i,h with
  |0,h=>Option.some.inj h▸nG
  |n+1,h=>by cases h
theorem aLp:bF Tryz.prog 9 fs:=aI dD mixed Tryz.func9 H loops fun⟨x0,x1,()⟩ hw hp=>(show bG E H Tryz.f9 fs.ps fs.rs (x0,(x1,()))=aQ x0 x1 from by kernel_rfl).trans (eq x0 x1 hw hp)
theorem aLo:cX Tryz.prog 9 fs:=⟨aLp,_,Tryz.func9,by kernel_rfl,by kernel_rfl⟩
end eN
namespace aA
noncomputable def fs:FS:=⟨[(.val (.int .i64) .f),(.val (.int .i64) .f),(.val (.int .i64) .f)],[(.bool,.o)],fun _=>true,fun x=>((),((aA x.1 x.2.1 x.2.2.1),()))⟩
noncomputable def E:fN:=⟨bI,[],[]⟩
noncomputable def H:List LC:=[]
theorem dD:aT Tryz.prog E:=aN jH
theorem loops:∀c,Tryz.f44.body=some c->aL E H c:=aO (by kernel_rfl)
theorem aLp:bF Tryz.prog 44 fs:=aI dD mixed Tryz.func44 H loops fun⟨x0,x1,x2,()⟩ hw _=>(show bG E H Tryz.f44 fs.ps fs.rs (x0,(x1,(x2,())))=aQ x0 x1 x2 from by kernel_rfl).trans (eq x0 x1 x2 hw)
theorem aLo:cX Tryz.prog 44 fs:=⟨aLp,_,Tryz.func44,by kernel_rfl,by kernel_rfl⟩
end aA
namespace gF
noncomputable def fs:FS:=⟨[(.val fO .f)],[(.bool,.o)],fun _=>true,fun x=>((),((gF x.1),()))⟩
noncomputable def E:fN:=⟨bI,[(44,aA.fs)],[]⟩
noncomputable def H:List LC:=[]
theorem dD:aT Tryz.prog E:=aB aA.aLo (aN jH)
theorem loops:∀c,Tryz.f11.body=some c->aL E H c:=aO (by kernel_rfl)
theorem aLp:bF Tryz.prog 11 fs:=aI dD mixed Tryz.func11 H loops fun⟨x0,()⟩ hw _=>(show bG E H Tryz.f11 fs.ps fs.rs (x0,())=aQ x0 from by kernel_rfl).trans (eq x0 hw)
theorem aLo:cX Tryz.prog 11 fs:=⟨aLp,_,Tryz.func11,by kernel_rfl,by kernel_rfl⟩
end gF
namespace iF
noncomputable def fs:FS:=⟨[(.val (.int .i64) .f)],[(bV,.o)],fun x=>iF.pre x.1,fun x=>((),((iF x.1),()))⟩
noncomputable def E:fN:=⟨bI,[(44,aA.fs)],[]⟩
noncomputable def H:List LC:=[]
theorem dD:aT Tryz.prog E:=aB aA.aLo (aN jH)
theorem loops:∀c,Tryz.f51.body=some c->aL E H c:=aO (by kernel_rfl)
theorem aLp:bF Tryz.prog 51 fs:=aI dD mixed Tryz.func51 H loops fun⟨x0,()⟩ hw hp=>(show bG E H Tryz.f51 fs.ps fs.rs (x0,())=aQ x0 from by kernel_rfl).trans (eq x0 hw hp)
theorem aLo:cX Tryz.prog 51 fs:=⟨aLp,_,Tryz.func51,by kernel_rfl,by kernel_rfl⟩
end iF
namespace fG
noncomputable def fs:FS:=⟨[(.val fO .f)],[(aY,.o)],fun x=>fG.pre x.1,fun x=>((),((fG x.1),()))⟩
noncomputable def E:fN:=⟨bI,[(11,gF.fs),(51,iF.fs)],[]⟩
noncomputable def sh5:iN:=⟨(uu::(.one (.bptr 0 [] fO))::(.one (.bptr 32 [] aY))::(.one (.bptr 24768 [] aY))::ui::un 23 []),[(0,(.box fO (.dat fO))),(32,(.box aY (.pair (.arr 20000000) (.pair (.arr 20000001) (.pair (.arr 20000002) (.pair (.dat (.int .i64)) (.pair (.arr 20000003) (.pair (.arr 20000004) (.dat .unit))))))))),(20000000,(.arr 42 bD)),(20000001,(.arr 80 bX)),(20000002,(.arr 83 bV)),(20000003,(.arr 3 (.int .i64))),(20000004,(.arr 48 dA)),(24768,(.box aY (.pair (.arr 20000005) (.pair (.arr 20000006) (.pair (.arr 20000007) (.pair (.dat (.int .i64)) (.pair (.arr 20000008) (.pair (.arr 20000009) (.dat .unit))))))))),(20000005,(.arr 42 bD)),(20000006,(.arr 80 bX)),(20000007,(.arr 83 bV)),(20000008,(.arr 3 (.int .i64))),(20000009,(.arr 48 dA))]⟩
noncomputable def zT:List iZ:=[⟨(.exit 0),⟨0,[2,3],[],[]⟩,⟨(uu::uu::(.one (.bptr 32 [] aY))::(.one (.bptr 24768 [] aY))::un 24 []),[(32,(.box aY (.pair (.arr 20000000) (.pair (.arr 20000001) (.pair (.arr 20000002) (.pair (.dat (.int .i64)) (.pair (.arr 20000003) (.pair (.arr 20000004) (.dat .unit))))))))),(20000000,(.arr 42 bD)),(20000001,(.arr 80 bX)),(20000002,(.arr 83 bV)),(20000003,(.arr 3 (.int .i64))),(20000004,(.arr 48 dA)),(24768,(.box aY (.pair (.arr 20000005) (.pair (.arr 20000006) (.pair (.arr 20000007) (.pair (.dat (.int .i64)) (.pair (.arr 20000008) (.pair (.arr 20000009) (.dat .unit))))))))),(20000005,(.arr 42 bD)),(20000006,(.arr 80 bX)),(20000007,(.arr 83 bV)),(20000008,(.arr 3 (.int .i64))),(20000009,(.arr 48 dA))]⟩⟩]
noncomputable def L5:LC:=⟨5,⟨5,[1,2,3,4],[],[]⟩,sh5,zT,pre5,fn5⟩
noncomputable def H:List LC:=[L5]
noncomputable def code(i:Nat):Code:=(cB (dX Tryz.f15)).getD i .skip
theorem aDF:dE E H (code 0) L5:=⟨mu5,fun⟨x1,x2,x3,x4,x5,x6,x7,x8,x9,x10,x11,x12,x13,x14,x15,x16,()⟩ hp=>bE (show L5.step E H (code 0) (x1,(x2,(x3,(x4,(x5,(x6,(x7,(x8,(x9,(x10,(x11,(x12,(x13,(x14,(x15,(x16,()))))))))))))))))=rG x1 x2 x3 x4 x5 x6 x7 x8 x9 x10 x11 x12 x13 x14 x15 x16 from by kernel_rfl) (ok5 x1 x2 x3 x4 x5 x6 x7 x8 x9 x10 x11 x12 x13 x14 x15 x16 hp)⟩
theorem dD:aT Tryz.prog E:=aB gF.aLo (aB iF.aLo (aN jH))
theorem loops:∀c,Tryz.f15.body=some c->aL E H c:=cJ (by kernel_rfl) (by kernel_rfl) fun i l h=>match i,h with
  |0,h=>Option.some.inj h▸aDF
  |n+1,h=>by cases h
theorem aLp:bF Tryz.prog 15 fs:=aI dD mixed Tryz.func15 H loops fun⟨x0,()⟩ hw hp=>(show bG E H Tryz.f15 fs.ps fs.rs (x0,())=aQ x0 from by kernel_rfl).trans (eq x0 hw hp)
theorem aLo:cX Tryz.prog 15 fs:=⟨aLp,_,Tryz.func15,by kernel_rfl,by kernel_rfl⟩
end fG
namespace bA
noncomputable def fs:FS:=⟨[(.val bD .f)],[(bD,.o)],fun x=>bA.pre x.1,fun x=>((),((bA x.1),()))⟩
noncomputable def E:fN:=⟨bI,[],[]⟩
noncomputable def H:List LC:=[]
theorem dD:aT Tryz.prog E:=aN jH
theorem loops:∀c,Tryz.f87.body=some c->aL E H c:=aO (by kernel_rfl)
theorem aLp:bF Tryz.prog 87 fs:=aI dD mixed Tryz.func87 H loops fun⟨x0,()⟩ hw hp=>(show bG E H Tryz.f87 fs.ps fs.rs (x0,())=aQ x0 from by kernel_rfl).trans (eq x0 hw hp)
theorem aLo:cX Tryz.prog 87 fs:=⟨aLp,_,Tryz.func87,by kernel_rfl,by kernel_rfl⟩
end bA
namespace dO
noncomputable def fs:FS:=⟨[(.val (.sl 3 (.int .i64)) .f)],[((.sl 3 (.int .i64)),.o)],fun x=>dO.pre x.1,fun x=>((),((dO x.1),()))⟩
noncomputable def E:fN:=⟨bI,[],[]⟩
noncomputable def H:List LC:=[]
theorem dD:aT Tryz.prog E:=aN jH
theorem loops:∀c,Tryz.f90.body=some c->aL E H c:=aO (by kernel_rfl)
theorem aLp:bF Tryz.prog 90 fs:=aI dD mixed Tryz.func90 H loops fun⟨x0,()⟩ hw hp=>(show bG E H Tryz.f90 fs.ps fs.rs (x0,())=aQ x0 from by kernel_rfl).trans (eq x0 hw hp)
theorem aLo:cX Tryz.prog 90 fs:=⟨aLp,_,Tryz.func90,by kernel_rfl,by kernel_rfl⟩
end dO
namespace aS
noncomputable def fs:FS:=⟨[(.val bV .f)],[(bV,.o)],fun x=>aS.pre x.1,fun x=>((),((aS x.1),()))⟩
noncomputable def E:fN:=⟨bI,[(90,dO.fs)],[]⟩
noncomputable def H:List LC:=[]
theorem dD:aT Tryz.prog E:=aB dO.aLo (aN jH)
theorem loops:∀c,Tryz.f88.body=some c->aL E H c:=aO (by kernel_rfl)
theorem aLp:bF Tryz.prog 88 fs:=aI dD mixed Tryz.func88 H loops fun⟨x0,()⟩ hw hp=>(show bG E H Tryz.f88 fs.ps fs.rs (x0,())=aQ x0 from by kernel_rfl).trans (eq x0 hw hp)
theorem aLo:cX Tryz.prog 88 fs:=⟨aLp,_,Tryz.func88,by kernel_rfl,by kernel_rfl⟩
end aS
namespace aR
noncomputable def fs:FS:=⟨[(.val bX .f)],[(bX,.o)],fun x=>aR.pre x.1,fun x=>((),((aR x.1),()))⟩
noncomputable def E:fN:=⟨bI,[],[]⟩
noncomputable def H:List LC:=[]
theorem dD:aT Tryz.prog E:=aN jH
theorem loops:∀c,Tryz.f114.body=some c->aL E H c:=aO (by kernel_rfl)
theorem aLp:bF Tryz.prog 114 fs:=aI dD mixed Tryz.func114 H loops fun⟨x0,()⟩ hw hp=>(show bG E H Tryz.f114 fs.ps fs.rs (x0,())=aQ x0 from by kernel_rfl).trans (eq x0 hw hp)
theorem aLo:cX Tryz.prog 114 fs:=⟨aLp,_,Tryz.func114,by kernel_rfl,by kernel_rfl⟩
end aR
namespace cK
noncomputable def nA:List (Nat×vT):=[(20000000,(.arr 80 bX))]
noncomputable def fs:FS:=⟨[(.val (.sl 80 bX) .f)],[((.sl 80 bX),.o)],fun x=>cK.pre x.1,fun x=>((),((cK x.1),()))⟩
noncomputable def E:fN:=⟨bI,[(114,aR.fs)],[]⟩
noncomputable def sh3:iN:=⟨(uu::uu::uu::(.one (.arr 20000000))::uu::uu::(.one (.dat (.sl 80 bX)))::ui::ui::un 10 []),nA⟩
noncomputable def aEt:List iZ:=[⟨(.exit 0),⟨0,[3],[(3,(80,bX))],[]⟩,⟨(uu::uu::uu::(.one (.arr 20000000))::un 15 []),nA⟩⟩]
noncomputable def L3:LC:=⟨3,⟨3,[3,6,7,8],[(3,(80,bX))],[]⟩,sh3,aEt,pre3,fn3⟩
noncomputable def H:List LC:=[L3]
noncomputable def code(i:Nat):Code:=(cB (dX Tryz.f89)).getD i .skip
theorem aHS:dE E H (code 0) L3:=⟨mu3,fun⟨x1,x2,x3,x4,()⟩ hp=>bE (show L3.step E H (code 0) (x1,(x2,(x3,(x4,()))))=aAh x1 x2 x3 x4 from by kernel_rfl) (ok3 x1 x2 x3 x4 hp)⟩
theorem dD:aT Tryz.prog E:=aB aR.aLo (aN jH)
theorem loops:∀c,Tryz.f89.body=some c->aL E H c:=cJ (by kernel_rfl) (by kernel_rfl) fun i l h=>match i,h with
  |0,h=>Option.some.inj h▸aHS
  |n+1,h=>by cases h
theorem aLp:bF Tryz.prog 89 fs:=aI dD mixed Tryz.func89 H loops fun⟨x0,()⟩ hw hp=>(show bG E H Tryz.f89 fs.ps fs.rs (x0,())=aQ x0 from by kernel_rfl).trans (eq x0 hw hp)
theorem aLo:cX Tryz.prog 89 fs:=⟨aLp,_,Tryz.func89,by kernel_rfl,by kernel_rfl⟩
end cK
namespace dU
noncomputable def nA:List (Nat×vT):=[(0,(.box aY (.pair (.arr 20000000) (.pair (.dat (.sl 80 bX)) (.pair (.arr 20000001) (.dat (.pair (.int .i64) (.pair (.sl 3 (.int .i64)) (.pair (.sl 48 dA) .unit))))))))),(20000000,(.arr 42 bD)),(20000001,(.arr 83 bV)),(32,(.box aY (.pair (.arr 20000002) (.pair (.arr 20000003) (.pair (.arr 20000004) (.pair (.dat (.int .i64)) (.pair (.arr 20000005) (.pair (.arr 20000006) (.dat .unit))))))))),(20000002,(.arr 42 bD)),(20000003,(.arr 80 bX)),(20000004,(.arr 83 bV)),(20000005,(.arr 3 (.int .i64))),(20000006,(.arr 48 dA))]
noncomputable def fs:FS:=⟨[(.val aY .f)],[(aY,.o)],fun x=>dU.pre x.1,fun x=>((),((dU x.1),()))⟩
noncomputable def E:fN:=⟨bI,[(87,bA.fs),(90,dO.fs),(88,aS.fs),(89,cK.fs)],[]⟩
noncomputable def vX:iN:=⟨(uu::(.one (.bptr 0 [] aY))::(.one (.bptr 32 [] aY))::uu::(.one (.dat (.sl 83 bV)))::un 10 ((.one (.dat (.sl 42 bD)))::ui::ui::un 38 [])),nA⟩
noncomputable def kC:List iZ:=[⟨(.exit 0),⟨0,[1,2,4],[],[]⟩,⟨(uu::(.one (.bptr 0 [] aY))::(.one (.bptr 32 [] aY))::uu::(.one (.dat (.sl 83 bV)))::un 51 []),nA⟩⟩]
noncomputable def L4:LC:=⟨4,⟨4,[1,2,4,15,16,17],[],[]⟩,vX,kC,pre4,fn4⟩
noncomputable def sh9:iN:=⟨(uu::(.one (.bptr 0 [] aY))::(.one (.bptr 32 [] aY))::un 26 ((.one (.dat (.sl 83 bV)))::ui::ui::un 24 [])),nA⟩
noncomputable def aEW:List iZ:=[⟨(.exit 2),⟨0,[1,2],[],[]⟩,⟨(uu::(.one (.bptr 0 [] aY))::(.one (.bptr 32 [] aY))::un 53 []),nA⟩⟩]
noncomputable def L9:LC:=⟨9,⟨9,[1,2,29,30,31],[],[]⟩,sh9,aEW,pre9,fn9⟩
noncomputable def H:List LC:=[L4,L9]
noncomputable def code(i:Nat):Code:=(cB (dX Tryz.f45)).getD i .skip
theorem nG:dE E H (code 0) L4:=⟨kU,fun⟨x1,x2,x3,x4,x5,x6,x7,x8,x9,x10,x11,x12,x13,x14,x15,()⟩ hp=>bE (show L4.step E H (code 0) (x1,(x2,(x3,(x4,(x5,(x6,(x7,(x8,(x9,(x10,(x11,(x12,(x13,(x14,(x15,())))))))))))))))=eO x1 x2 x3 x4 x5 x6 x7 x8 x9 x10 x11 x12 x13 x14 x15 from by kernel_rfl) (vZ x1 x2 x3 x4 x5 x6 x7 x8 x9 x10 x11 x12 x13 x14 x15 hp)⟩
theorem aI2:dE E H (code 1) L9:=⟨mu9,fun⟨x1,x2,x3,x4,x5,x6,x7,x8,x9,x10,x11,x12,x13,x14,()⟩ hp=>bE (show L9.step E H (code 1) (x1,(x2,(x3,(x4,(x5,(x6,(x7,(x8,(x9,(x10,(x11,(x12,(x13,(x14,()))))))))))))))=aCh x1 x2 x3 x4 x5 x6 x7 x8 x9 x10 x11 x12 x13 x14 from by kernel_rfl) (ok9 x1 x2 x3 x4 x5 x6 x7 x8 x9 x10 x11 x12 x13 x14 hp)⟩
theorem dD:aT Tryz.prog E:=aB bA.aLo (aB dO.aLo (aB aS.aLo (aB cK.aLo (aN jH))))
theorem loops:∀c,Tryz.f45.body=some c->aL E H c:=cJ (by kernel_rfl) (by kernel_rfl) fun i l h=>match i,h with
  |0,h=>Option.some.inj h▸nG
  |1,h=>Option.some.inj h▸aI2
  |n+2,h=>by cases h
theorem aLp:bF Tryz.prog 45 fs:=aI dD mixed Tryz.func45 H loops fun⟨x0,()⟩ hw hp=>(show bG E H Tryz.f45 fs.ps fs.rs (x0,())=aQ x0 from by kernel_rfl).trans (eq x0 hw hp)
theorem aLo:cX Tryz.prog 45 fs:=⟨aLp,_,Tryz.func45,by kernel_rfl,by kernel_rfl⟩
end dU
namespace eD
noncomputable def fs:FS:=⟨[(.val (.int .i64) .f),(.peek (.int .i64)),(.peek (.int .i64))],[(.bool,.o)],fun x=>eD.pre x.1 x.2.1 x.2.2.1,fun x=>((),((eD x.1 x.2.1 x.2.2.1),()))⟩
noncomputable def E:fN:=⟨bI,[(44,aA.fs)],[]⟩
noncomputable def H:List LC:=[]
theorem dD:aT Tryz.prog E:=aB aA.aLo (aN jH)
theorem loops:∀c,Tryz.f94.body=some c->aL E H c:=aO (by kernel_rfl)
theorem aLp:bF Tryz.prog 94 fs:=aI dD mixed Tryz.func94 H loops fun⟨x0,x1,x2,()⟩ hw hp=>(show bG E H Tryz.f94 fs.ps fs.rs (x0,(x1,(x2,())))=aQ x0 x1 x2 from by kernel_rfl).trans (eq x0 x1 x2 hw hp)
theorem aLo:cX Tryz.prog 94 fs:=⟨aLp,_,Tryz.func94,by kernel_rfl,by kernel_rfl⟩
end eD
namespace bC
noncomputable def fs:FS:=⟨[(.val (.sl 3 (.int .i64)) .f),(.fn (.int .i64) .bool)],[((.int .i64),.o)],fun x=>bC.pre x.1 x.2.1,fun x=>((),((bC x.1 x.2.1),()))⟩
noncomputable def E:fN:=⟨bI,[],[]⟩
noncomputable def sh2:iN:=⟨((.one (.dat (.sl 3 (.int .i64))))::(.one (.fn (.int .i64) .bool))::un 5 (ui::ui::un 10 [])),[]⟩
noncomputable def mO:List iZ:=[⟨.ret,⟨0,[4],[],[]⟩,⟨(un 4 (ui::un 14 [])),[]⟩⟩,⟨(.exit 0),⟨0,[],[],[]⟩,⟨(un 19 []),[]⟩⟩]
noncomputable def L2:LC:=⟨2,⟨2,[0,1,7,8],[],[]⟩,sh2,mO,pre2,fn2⟩
noncomputable def H:List LC:=[L2]
noncomputable def code(i:Nat):Code:=(cB (dX Tryz.f118)).getD i .skip
theorem qO:dE E H (code 0) L2:=⟨qY,fun⟨x1,x2,x3,x4,x5,()⟩ hp=>bE (show L2.step E H (code 0) (x1,(x2,(x3,(x4,(x5,())))))=jX x1 x2 x3 x4 x5 from by kernel_rfl) (ok2 x1 x2 x3 x4 x5 hp)⟩
theorem dD:aT Tryz.prog E:=aN jH
theorem loops:∀c,Tryz.f118.body=some c->aL E H c:=cJ (by kernel_rfl) (by kernel_rfl) fun i l h=>match i,h with
  |0,h=>Option.some.inj h▸qO
  |n+1,h=>by cases h
theorem aLp:bF Tryz.prog 118 fs:=aI dD mixed Tryz.func118 H loops fun⟨x0,x1,()⟩ hw hp=>(show bG E H Tryz.f118 fs.ps fs.rs (x0,(x1,()))=aQ x0 x1 from by kernel_rfl).trans (eq x0 x1 hw hp)
theorem aLo:cX Tryz.prog 118 fs:=⟨aLp,_,Tryz.func118,by kernel_rfl,by kernel_rfl⟩
end bC
namespace cE
noncomputable def fs:FS:=⟨[(.val (.sl 3 (.int .i64)) .f),(.fn (.int .i64) .bool)],[(.bool,.o)],fun x=>cE.pre x.1 x.2.1,fun x=>((),((cE x.1 x.2.1),()))⟩
noncomputable def E:fN:=⟨bI,[(118,bC.fs)],[]⟩
noncomputable def H:List LC:=[]
theorem dD:aT Tryz.prog E:=aB bC.aLo (aN jH)
theorem loops:∀c,Tryz.f93.body=some c->aL E H c:=aO (by kernel_rfl)
theorem aLp:bF Tryz.prog 93 fs:=aI dD mixed Tryz.func93 H loops fun⟨x0,x1,()⟩ hw hp=>(show bG E H Tryz.f93 fs.ps fs.rs (x0,(x1,()))=aQ x0 x1 from by kernel_rfl).trans (eq x0 x1 hw hp)
theorem aLo:cX Tryz.prog 93 fs:=⟨aLp,_,Tryz.func93,by kernel_rfl,by kernel_rfl⟩
end cE
namespace bT
noncomputable def fs:FS:=⟨[(.val (.sl 3 (.int .i64)) .f),(.val (.int .i64) .f),(.val (.int .i64) .f)],[(.bool,.o)],fun x=>bT.pre x.1 x.2.1 x.2.2.1,fun x=>((),((bT x.1 x.2.1 x.2.2.1),()))⟩
noncomputable def E:fN:=⟨bI,[(94,eD.fs),(93,cE.fs)],[]⟩
noncomputable def H:List LC:=[]
theorem dD:aT Tryz.prog E:=aB eD.aLo (aB cE.aLo (aN jH))
theorem loops:∀c,Tryz.f56.body=some c->aL E H c:=aO (by kernel_rfl)
theorem aLp:bF Tryz.prog 56 fs:=aI dD mixed Tryz.func56 H loops fun⟨x0,x1,x2,()⟩ hw hp=>(show bG E H Tryz.f56 fs.ps fs.rs (x0,(x1,(x2,())))=aQ x0 x1 x2 from by kernel_rfl).trans (eq x0 x1 x2 hw hp)
theorem aLo:cX Tryz.prog 56 fs:=⟨aLp,_,Tryz.func56,by kernel_rfl,by kernel_rfl⟩
end bT
namespace dH
noncomputable def fs:FS:=⟨[(.val bX .f),(.val (.int .i64) .f)],[(.bool,.o)],fun x=>dH.pre x.1 x.2.1,fun x=>((),((dH x.1 x.2.1),()))⟩
noncomputable def E:fN:=⟨bI,[(44,aA.fs)],[]⟩
noncomputable def vX:iN:=⟨(uu::uu::(.one (.bptr 0 [] bX))::un 44 ((.one (.dat (.sl 118 lW)))::ui::ui::un 39 [])),[(0,(.box bX (.dat bX)))]⟩
noncomputable def kC:List iZ:=[⟨.ret,⟨0,[4],[],[]⟩,⟨(un 4 ((.one (.dat .bool))::un 84 [])),[]⟩⟩,⟨(.exit 0),⟨0,[],[],[]⟩,⟨(un 89 []),[]⟩⟩]
noncomputable def L4:LC:=⟨4,⟨4,[2,47,48,49],[],[]⟩,vX,kC,pre4,fn4⟩
noncomputable def H:List LC:=[L4]
noncomputable def code(i:Nat):Code:=(cB (dX Tryz.f57)).getD i .skip
theorem nG:dE E H (code 0) L4:=⟨kU,fun⟨x1,x2,x3,x4,()⟩ hp=>bE (show L4.step E H (code 0) (x1,(x2,(x3,(x4,()))))=eO x1 x2 x3 x4 from by kernel_rfl) (vZ x1 x2 x3 x4 hp)⟩
theorem dD:aT Tryz.prog E:=aB aA.aLo (aN jH)
theorem loops:∀c,Tryz.f57.body=some c->aL E H c:=cJ (by kernel_rfl) (by kernel_rfl) fun i l h=>match i,h with
  |0,h=>Option.some.inj h▸nG
  |n+1,h=>by cases h
theorem aLp:bF Tryz.prog 57 fs:=aI dD mixed Tryz.func57 H loops fun⟨x0,x1,()⟩ hw hp=>(show bG E H Tryz.f57 fs.ps fs.rs (x0,(x1,()))=aQ x0 x1 from by kernel_rfl).trans (eq x0 x1 hw hp)
theorem aLo:cX Tryz.prog 57 fs:=⟨aLp,_,Tryz.func57,by kernel_rfl,by kernel_rfl⟩
end dH
namespace cM
noncomputable def fs:FS:=⟨[(.val (.sl 42 bD) .f),(.fn bD .bool)],[((.int .i64),.o)],fun x=>cM.pre x.1 x.2.1,fun x=>((),((cM x.1 x.2.1),()))⟩
noncomputable def E:fN:=⟨bI,[],[]⟩
noncomputable def sh2:iN:=⟨((.one (.dat (.sl 42 bD)))::(.one (.fn bD .bool))::un 5 (ui::ui::un 10 [])),[]⟩
noncomputable def mO:List iZ:=[⟨.ret,⟨0,[4],[],[]⟩,⟨(un 4 (ui::un 14 [])),[]⟩⟩,⟨(.exit 0),⟨0,[],[],[]⟩,⟨(un 19 []),[]⟩⟩]
noncomputable def L2:LC:=⟨2,⟨2,[0,1,7,8],[],[]⟩,sh2,mO,pre2,fn2⟩
noncomputable def H:List LC:=[L2]
noncomputable def code(i:Nat):Code:=(cB (dX Tryz.f95)).getD i .skip
theorem qO:dE E H (code 0) L2:=⟨qY,fun⟨x1,x2,x3,x4,x5,()⟩ hp=>bE (show L2.step E H (code 0) (x1,(x2,(x3,(x4,(x5,())))))=jX x1 x2 x3 x4 x5 from by kernel_rfl) (ok2 x1 x2 x3 x4 x5 hp)⟩
theorem dD:aT Tryz.prog E:=aN jH
theorem loops:∀c,Tryz.f95.body=some c->aL E H c:=cJ (by kernel_rfl) (by kernel_rfl) fun i l h=>match i,h with
  |0,h=>Option.some.inj h▸qO
  |n+1,h=>by cases h
theorem aLp:bF Tryz.prog 95 fs:=aI dD mixed Tryz.func95 H loops fun⟨x0,x1,()⟩ hw hp=>(show bG E H Tryz.f95 fs.ps fs.rs (x0,(x1,()))=aQ x0 x1 from by kernel_rfl).trans (eq x0 x1 hw hp)
theorem aLo:cX Tryz.prog 95 fs:=⟨aLp,_,Tryz.func95,by kernel_rfl,by kernel_rfl⟩
end cM
namespace cH
noncomputable def fs:FS:=⟨[(.val (.sl 42 bD) .f),(.fn bD .bool)],[(.bool,.o)],fun x=>cH.pre x.1 x.2.1,fun x=>((),((cH x.1 x.2.1),()))⟩
noncomputable def E:fN:=⟨bI,[(95,cM.fs)],[]⟩
noncomputable def H:List LC:=[]
theorem dD:aT Tryz.prog E:=aB cM.aLo (aN jH)
theorem loops:∀c,Tryz.f58.body=some c->aL E H c:=aO (by kernel_rfl)
theorem aLp:bF Tryz.prog 58 fs:=aI dD mixed Tryz.func58 H loops fun⟨x0,x1,()⟩ hw hp=>(show bG E H Tryz.f58 fs.ps fs.rs (x0,(x1,()))=aQ x0 x1 from by kernel_rfl).trans (eq x0 x1 hw hp)
theorem aLo:cX Tryz.prog 58 fs:=⟨aLp,_,Tryz.func58,by kernel_rfl,by kernel_rfl⟩
end cH
namespace gG
noncomputable def fs:FS:=⟨[(.val .str .f)],[(.bool,.o)],fun _=>true,fun x=>((),((gG x.1),()))⟩
noncomputable def E:fN:=⟨bI,[],[]⟩
noncomputable def sh2:iN:=⟨((.one (.dat .str))::uu::uu::ui::un 31 []),[]⟩
noncomputable def mO:List iZ:=[⟨.ret,⟨0,[2],[],[]⟩,⟨(uu::uu::(.one (.dat .bool))::un 32 []),[]⟩⟩,⟨(.exit 0),⟨0,[0],[],[]⟩,⟨((.one (.dat .str))::un 34 []),[]⟩⟩]
noncomputable def L2:LC:=⟨2,⟨2,[0,3],[],[]⟩,sh2,mO,pre2,fn2⟩
noncomputable def H:List LC:=[L2]
noncomputable def code(i:Nat):Code:=(cB (dX Tryz.f53)).getD i .skip
theorem qO:dE E H (code 0) L2:=⟨qY,fun⟨x1,x2,()⟩ hp=>bE (show L2.step E H (code 0) (x1,(x2,()))=jX x1 x2 from by kernel_rfl) (ok2 x1 x2 hp)⟩
theorem dD:aT Tryz.prog E:=aN jH
theorem loops:∀c,Tryz.f53.body=some c->aL E H c:=cJ (by kernel_rfl) (by kernel_rfl) fun i l h=>match i,h with
  |0,h=>Option.some.inj h▸qO
  |n+1,h=>by cases h
theorem aLp:bF Tryz.prog 53 fs:=aI dD mixed Tryz.func53 H loops fun⟨x0,()⟩ hw _=>(show bG E H Tryz.f53 fs.ps fs.rs (x0,())=aQ x0 from by kernel_rfl).trans (eq x0 hw)
theorem aLo:cX Tryz.prog 53 fs:=⟨aLp,_,Tryz.func53,by kernel_rfl,by kernel_rfl⟩
end gG
namespace dN
noncomputable def fs:FS:=⟨[(.val bD .f)],[(.bool,.o)],fun x=>dN.pre x.1,fun x=>((),((dN x.1),()))⟩
noncomputable def E:fN:=⟨bI,[(44,aA.fs),(53,gG.fs)],[]⟩
noncomputable def vX:iN:=⟨(uu::(.one (.bptr 0 [] bD))::un 21 ((.one (.dat (.sl 44 gD)))::ui::ui::un 54 [])),[(0,(.box bD (.dat bD)))]⟩
noncomputable def kC:List iZ:=[⟨.ret,⟨0,[2],[],[]⟩,⟨(uu::uu::(.one (.dat .bool))::un 77 []),[]⟩⟩,⟨(.exit 0),⟨0,[],[],[]⟩,⟨(un 80 []),[]⟩⟩]
noncomputable def L4:LC:=⟨4,⟨4,[1,23,24,25],[],[]⟩,vX,kC,pre4,fn4⟩
noncomputable def H:List LC:=[L4]
noncomputable def code(i:Nat):Code:=(cB (dX Tryz.f60)).getD i .skip
theorem nG:dE E H (code 0) L4:=⟨kU,fun⟨x1,x2,x3,x4,()⟩ hp=>bE (show L4.step E H (code 0) (x1,(x2,(x3,(x4,()))))=eO x1 x2 x3 x4 from by kernel_rfl) (vZ x1 x2 x3 x4 hp)⟩
theorem dD:aT Tryz.prog E:=aB aA.aLo (aB gG.aLo (aN jH))
theorem loops:∀c,Tryz.f60.body=some c->aL E H c:=cJ (by kernel_rfl) (by kernel_rfl) fun i l h=>match i,h with
  |0,h=>Option.some.inj h▸nG
  |n+1,h=>by cases h
theorem aLp:bF Tryz.prog 60 fs:=aI dD mixed Tryz.func60 H loops fun⟨x0,()⟩ hw hp=>(show bG E H Tryz.f60 fs.ps fs.rs (x0,())=aQ x0 from by kernel_rfl).trans (eq x0 hw hp)
theorem aLo:cX Tryz.prog 60 fs:=⟨aLp,_,Tryz.func60,by kernel_rfl,by kernel_rfl⟩
end dN
namespace eP
noncomputable def fs:FS:=⟨[(.val bD .f)],[(.bool,.o)],fun x=>eP.pre x.1,fun x=>((),((eP x.1),()))⟩
noncomputable def E:fN:=⟨bI,[(60,dN.fs)],[]⟩
noncomputable def H:List LC:=[]
theorem dD:aT Tryz.prog E:=aB dN.aLo (aN jH)
theorem loops:∀c,Tryz.f59.body=some c->aL E H c:=aO (by kernel_rfl)
theorem aLp:bF Tryz.prog 59 fs:=aI dD mixed Tryz.func59 H loops fun⟨x0,()⟩ hw hp=>(show bG E H Tryz.f59 fs.ps fs.rs (x0,())=aQ x0 from by kernel_rfl).trans (eq x0 hw hp)
theorem aLo:cX Tryz.prog 59 fs:=⟨aLp,_,Tryz.func59,by kernel_rfl,by kernel_rfl⟩
end eP
namespace cZ
noncomputable def fs:FS:=⟨[(.val (.int .i64) .f)],[(.bool,.o)],fun x=>cZ.pre x.1,fun x=>((),((cZ x.1),()))⟩
noncomputable def E:fN:=⟨bI,[(44,aA.fs)],[]⟩
noncomputable def H:List LC:=[]
theorem dD:aT Tryz.prog E:=aB aA.aLo (aN jH)
theorem loops:∀c,Tryz.f97.body=some c->aL E H c:=aO (by kernel_rfl)
theorem aLp:bF Tryz.prog 97 fs:=aI dD mixed Tryz.func97 H loops fun⟨x0,()⟩ hw hp=>(show bG E H Tryz.f97 fs.ps fs.rs (x0,())=aQ x0 from by kernel_rfl).trans (eq x0 hw hp)
theorem aLo:cX Tryz.prog 97 fs:=⟨aLp,_,Tryz.func97,by kernel_rfl,by kernel_rfl⟩
end cZ
namespace gU
noncomputable def nA:List (Nat×vT):=[(0,(.box bV (.dat bV)))]
noncomputable def fs:FS:=⟨[(.val bV .f),(.val (.int .i64) .f)],[(.bool,.o)],fun x=>gU.pre x.1 x.2.1,fun x=>((),((gU x.1 x.2.1),()))⟩
noncomputable def E:fN:=⟨bI,[(44,aA.fs),(56,bT.fs),(97,cZ.fs)],[]⟩
noncomputable def sh2:iN:=⟨(uu::ui::(.one (.bptr 0 [] bV))::un 5 ((.one (.dat (.sl 3 (.int .i64))))::ui::ui::un 51 [])),nA⟩
noncomputable def mO:List iZ:=[⟨.ret,⟨0,[4],[],[]⟩,⟨(un 4 ((.one (.dat .bool))::un 57 [])),[]⟩⟩,⟨(.exit 0),⟨0,[1,2],[],[]⟩,⟨(uu::ui::(.one (.bptr 0 [] bV))::un 59 []),nA⟩⟩]
noncomputable def L2:LC:=⟨2,⟨2,[1,2,8,9,10],[],[]⟩,sh2,mO,pre2,fn2⟩
noncomputable def H:List LC:=[L2]
noncomputable def code(i:Nat):Code:=(cB (dX Tryz.f63)).getD i .skip
theorem qO:dE E H (code 0) L2:=⟨qY,fun⟨x1,x2,x3,x4,x5,()⟩ hp=>bE (show L2.step E H (code 0) (x1,(x2,(x3,(x4,(x5,())))))=jX x1 x2 x3 x4 x5 from by kernel_rfl) (ok2 x1 x2 x3 x4 x5 hp)⟩
theorem dD:aT Tryz.prog E:=aB aA.aLo (aB bT.aLo (aB cZ.aLo (aN jH)))
theorem loops:∀c,Tryz.f63.body=some c->aL E H c:=cJ (by kernel_rfl) (by kernel_rfl) fun i l h=>match i,h with
  |0,h=>Option.some.inj h▸qO
  |n+1,h=>by cases h
theorem aLp:bF Tryz.prog 63 fs:=aI dD mixed Tryz.func63 H loops fun⟨x0,x1,()⟩ hw hp=>(show bG E H Tryz.f63 fs.ps fs.rs (x0,(x1,()))=aQ x0 x1 from by kernel_rfl).trans (eq x0 x1 hw hp)
theorem aLo:cX Tryz.prog 63 fs:=⟨aLp,_,Tryz.func63,by kernel_rfl,by kernel_rfl⟩
end gU
namespace eR
noncomputable def fs:FS:=⟨[(.val bV .f),(.peek fO)],[(.bool,.o)],fun x=>eR.pre x.1 x.2.1,fun x=>((),((eR x.1 x.2.1),()))⟩
noncomputable def E:fN:=⟨bI,[(63,gU.fs)],[]⟩
noncomputable def H:List LC:=[]
theorem dD:aT Tryz.prog E:=aB gU.aLo (aN jH)
theorem loops:∀c,Tryz.f62.body=some c->aL E H c:=aO (by kernel_rfl)
theorem aLp:bF Tryz.prog 62 fs:=aI dD mixed Tryz.func62 H loops fun⟨x0,x1,()⟩ hw hp=>(show bG E H Tryz.f62 fs.ps fs.rs (x0,(x1,()))=aQ x0 x1 from by kernel_rfl).trans (eq x0 x1 hw hp)
theorem aLo:cX Tryz.prog 62 fs:=⟨aLp,_,Tryz.func62,by kernel_rfl,by kernel_rfl⟩
end eR
namespace cD
noncomputable def fs:FS:=⟨[(.val (.sl 83 bV) .f),(.fn bV .bool)],[((.int .i64),.o)],fun x=>cD.pre x.1 x.2.1,fun x=>((),((cD x.1 x.2.1),()))⟩
noncomputable def E:fN:=⟨bI,[],[]⟩
noncomputable def sh2:iN:=⟨((.one (.dat (.sl 83 bV)))::(.one (.fn bV .bool))::un 5 (ui::ui::un 10 [])),[]⟩
noncomputable def mO:List iZ:=[⟨.ret,⟨0,[4],[],[]⟩,⟨(un 4 (ui::un 14 [])),[]⟩⟩,⟨(.exit 0),⟨0,[],[],[]⟩,⟨(un 19 []),[]⟩⟩]
noncomputable def L2:LC:=⟨2,⟨2,[0,1,7,8],[],[]⟩,sh2,mO,pre2,fn2⟩
noncomputable def H:List LC:=[L2]
noncomputable def code(i:Nat):Code:=(cB (dX Tryz.f96)).getD i .skip
theorem qO:dE E H (code 0) L2:=⟨qY,fun⟨x1,x2,x3,x4,x5,()⟩ hp=>bE (show L2.step E H (code 0) (x1,(x2,(x3,(x4,(x5,())))))=jX x1 x2 x3 x4 x5 from by kernel_rfl) (ok2 x1 x2 x3 x4 x5 hp)⟩
theorem dD:aT Tryz.prog E:=aN jH
theorem loops:∀c,Tryz.f96.body=some c->aL E H c:=cJ (by kernel_rfl) (by kernel_rfl) fun i l h=>match i,h with
  |0,h=>Option.some.inj h▸qO
  |n+1,h=>by cases h
theorem aLp:bF Tryz.prog 96 fs:=aI dD mixed Tryz.func96 H loops fun⟨x0,x1,()⟩ hw hp=>(show bG E H Tryz.f96 fs.ps fs.rs (x0,(x1,()))=aQ x0 x1 from by kernel_rfl).trans (eq x0 x1 hw hp)
theorem aLo:cX Tryz.prog 96 fs:=⟨aLp,_,Tryz.func96,by kernel_rfl,by kernel_rfl⟩
end cD
namespace bY
noncomputable def fs:FS:=⟨[(.val (.sl 83 bV) .f),(.fn bV .bool)],[(.bool,.o)],fun x=>bY.pre x.1 x.2.1,fun x=>((),((bY x.1 x.2.1),()))⟩
noncomputable def E:fN:=⟨bI,[(96,cD.fs)],[]⟩
noncomputable def H:List LC:=[]
theorem dD:aT Tryz.prog E:=aB cD.aLo (aN jH)
theorem loops:∀c,Tryz.f61.body=some c->aL E H c:=aO (by kernel_rfl)
theorem aLp:bF Tryz.prog 61 fs:=aI dD mixed Tryz.func61 H loops fun⟨x0,x1,()⟩ hw hp=>(show bG E H Tryz.f61 fs.ps fs.rs (x0,(x1,()))=aQ x0 x1 from by kernel_rfl).trans (eq x0 x1 hw hp)
theorem aLo:cX Tryz.prog 61 fs:=⟨aLp,_,Tryz.func61,by kernel_rfl,by kernel_rfl⟩
end bY
namespace bZ
noncomputable def fs:FS:=⟨[(.val (.sl 48 dA) .f),(.fn dA .bool)],[((.int .i64),.o)],fun x=>bZ.pre x.1 x.2.1,fun x=>((),((bZ x.1 x.2.1),()))⟩
noncomputable def E:fN:=⟨bI,[],[]⟩
noncomputable def sh2:iN:=⟨((.one (.dat (.sl 48 dA)))::(.one (.fn dA .bool))::un 5 (ui::ui::un 10 [])),[]⟩
noncomputable def mO:List iZ:=[⟨.ret,⟨0,[4],[],[]⟩,⟨(un 4 (ui::un 14 [])),[]⟩⟩,⟨(.exit 0),⟨0,[],[],[]⟩,⟨(un 19 []),[]⟩⟩]
noncomputable def L2:LC:=⟨2,⟨2,[0,1,7,8],[],[]⟩,sh2,mO,pre2,fn2⟩
noncomputable def H:List LC:=[L2]
noncomputable def code(i:Nat):Code:=(cB (dX Tryz.f98)).getD i .skip
theorem qO:dE E H (code 0) L2:=⟨qY,fun⟨x1,x2,x3,x4,x5,()⟩ hp=>bE (show L2.step E H (code 0) (x1,(x2,(x3,(x4,(x5,())))))=jX x1 x2 x3 x4 x5 from by kernel_rfl) (ok2 x1 x2 x3 x4 x5 hp)⟩
theorem dD:aT Tryz.prog E:=aN jH
theorem loops:∀c,Tryz.f98.body=some c->aL E H c:=cJ (by kernel_rfl) (by kernel_rfl) fun i l h=>match i,h with
  |0,h=>Option.some.inj h▸qO
  |n+1,h=>by cases h
theorem aLp:bF Tryz.prog 98 fs:=aI dD mixed Tryz.func98 H loops fun⟨x0,x1,()⟩ hw hp=>(show bG E H Tryz.f98 fs.ps fs.rs (x0,(x1,()))=aQ x0 x1 from by kernel_rfl).trans (eq x0 x1 hw hp)
theorem aLo:cX Tryz.prog 98 fs:=⟨aLp,_,Tryz.func98,by kernel_rfl,by kernel_rfl⟩
end bZ
namespace bM
noncomputable def fs:FS:=⟨[(.val (.sl 48 dA) .f),(.fn dA .bool)],[(.bool,.o)],fun x=>bM.pre x.1 x.2.1,fun x=>((),((bM x.1 x.2.1),()))⟩
noncomputable def E:fN:=⟨bI,[(98,bZ.fs)],[]⟩
noncomputable def H:List LC:=[]
theorem dD:aT Tryz.prog E:=aB bZ.aLo (aN jH)
theorem loops:∀c,Tryz.f64.body=some c->aL E H c:=aO (by kernel_rfl)
theorem aLp:bF Tryz.prog 64 fs:=aI dD mixed Tryz.func64 H loops fun⟨x0,x1,()⟩ hw hp=>(show bG E H Tryz.f64 fs.ps fs.rs (x0,(x1,()))=aQ x0 x1 from by kernel_rfl).trans (eq x0 x1 hw hp)
theorem aLo:cX Tryz.prog 64 fs:=⟨aLp,_,Tryz.func64,by kernel_rfl,by kernel_rfl⟩
end bM
namespace eE
noncomputable def fs:FS:=⟨[(.val dA .f)],[(.bool,.o)],fun x=>eE.pre x.1,fun x=>((),((eE x.1),()))⟩
noncomputable def E:fN:=⟨bI,[(44,aA.fs),(53,gG.fs)],[]⟩
noncomputable def H:List LC:=[]
theorem dD:aT Tryz.prog E:=aB aA.aLo (aB gG.aLo (aN jH))
theorem loops:∀c,Tryz.f17.body=some c->aL E H c:=aO (by kernel_rfl)
theorem aLp:bF Tryz.prog 17 fs:=aI dD mixed Tryz.func17 H loops fun⟨x0,()⟩ hw hp=>(show bG E H Tryz.f17 fs.ps fs.rs (x0,())=aQ x0 from by kernel_rfl).trans (eq x0 hw hp)
theorem aLo:cX Tryz.prog 17 fs:=⟨aLp,_,Tryz.func17,by kernel_rfl,by kernel_rfl⟩
end eE
namespace eF
noncomputable def fs:FS:=⟨[(.val dA .f)],[(.bool,.o)],fun x=>eF.pre x.1,fun x=>((),((eF x.1),()))⟩
noncomputable def E:fN:=⟨bI,[(17,eE.fs)],[]⟩
noncomputable def H:List LC:=[]
theorem dD:aT Tryz.prog E:=aB eE.aLo (aN jH)
theorem loops:∀c,Tryz.f65.body=some c->aL E H c:=aO (by kernel_rfl)
theorem aLp:bF Tryz.prog 65 fs:=aI dD mixed Tryz.func65 H loops fun⟨x0,()⟩ hw hp=>(show bG E H Tryz.f65 fs.ps fs.rs (x0,())=aQ x0 from by kernel_rfl).trans (eq x0 hw hp)
theorem aLo:cX Tryz.prog 65 fs:=⟨aLp,_,Tryz.func65,by kernel_rfl,by kernel_rfl⟩
end eF
namespace dY
noncomputable def nA:List (Nat×vT):=[(0,(.box fO (.dat fO))),(32,(.box aY (.dat aY)))]
noncomputable def fs:FS:=⟨[(.val fO .f),(.val aY .f)],[(.bool,.o)],fun x=>dY.pre x.1 x.2.1,fun x=>((),((dY x.1 x.2.1),()))⟩
noncomputable def E:fN:=⟨bI,[(44,aA.fs),(11,gF.fs),(56,bT.fs),(57,dH.fs),(58,cH.fs),(59,eP.fs),(62,eR.fs),(61,bY.fs),(64,bM.fs),(65,eF.fs)],[]⟩
noncomputable def vX:iN:=⟨(uu::uu::(.one (.bptr 0 [] fO))::(.one (.bptr 32 [] aY))::un 48 ((.one (.dat (.sl 80 bX)))::ui::ui::un 75 [])),nA⟩
noncomputable def kC:List iZ:=[⟨.ret,⟨0,[4],[],[]⟩,⟨(un 4 ((.one (.dat .bool))::un 125 [])),[]⟩⟩,⟨(.exit 0),⟨0,[2,3],[],[]⟩,⟨(uu::uu::(.one (.bptr 0 [] fO))::(.one (.bptr 32 [] aY))::un 126 []),nA⟩⟩]
noncomputable def L4:LC:=⟨4,⟨4,[2,3,52,53,54],[],[]⟩,vX,kC,pre4,fn4⟩
noncomputable def H:List LC:=[L4]
noncomputable def code(i:Nat):Code:=(cB (dX Tryz.f20)).getD i .skip
theorem nG:dE E H (code 0) L4:=⟨kU,fun⟨x1,x2,x3,x4,x5,()⟩ hp=>bE (show L4.step E H (code 0) (x1,(x2,(x3,(x4,(x5,())))))=eO x1 x2 x3 x4 x5 from by kernel_rfl) (vZ x1 x2 x3 x4 x5 hp)⟩
theorem dD:aT Tryz.prog E:=aB aA.aLo (aB gF.aLo (aB bT.aLo (aB dH.aLo (aB cH.aLo (aB eP.aLo (aB eR.aLo (aB bY.aLo (aB bM.aLo (aB eF.aLo (aN jH))))))))))
theorem loops:∀c,Tryz.f20.body=some c->aL E H c:=cJ (by kernel_rfl) (by kernel_rfl) fun i l h=>match i,h with
  |0,h=>Option.some.inj h▸nG
  |n+1,h=>by cases h
theorem aLp:bF Tryz.prog 20 fs:=aI dD mixed Tryz.func20 H loops fun⟨x0,x1,()⟩ hw hp=>(show bG E H Tryz.f20 fs.ps fs.rs (x0,(x1,()))=aQ x0 x1 from by kernel_rfl).trans (eq x0 x1 hw hp)
theorem aLo:cX Tryz.prog 20 fs:=⟨aLp,_,Tryz.func20,by kernel_rfl,by kernel_rfl⟩
end dY
namespace mX
noncomputable def fs:FS:=⟨[(.val kO .f)],[(.bool,.o)],fun _=>true,fun x=>((),((mX x.1),()))⟩
noncomputable def E:fN:=⟨bI,[(44,aA.fs),(53,gG.fs)],[]⟩
noncomputable def H:List LC:=[]
theorem dD:aT Tryz.prog E:=aB aA.aLo (aB gG.aLo (aN jH))
theorem loops:∀c,Tryz.f46.body=some c->aL E H c:=aO (by kernel_rfl)
theorem aLp:bF Tryz.prog 46 fs:=aI dD mixed Tryz.func46 H loops fun⟨x0,()⟩ hw _=>(show bG E H Tryz.f46 fs.ps fs.rs (x0,())=aQ x0 from by kernel_rfl).trans (eq x0 hw)
theorem aLo:cX Tryz.prog 46 fs:=⟨aLp,_,Tryz.func46,by kernel_rfl,by kernel_rfl⟩
end mX
namespace lU
noncomputable def fs:FS:=⟨[(.val (.sl 3 (.int .i64)) .o),(.val (.int .i64) .f),(.val (.int .i64) .f)],[((.sl 3 (.int .i64)),.o)],fun x=>lU.pre x.1 x.2.1 x.2.2.1,fun x=>((),((lU x.1 x.2.1 x.2.2.1),()))⟩
--def E:
noncomputable def ren:Go.Shelf.Ren:=⟨fun|23=>154|n=>n,fun|22=>32|n=>n,fun|n=>n⟩
theorem aJU:Lays2.n23 Tryz.prog ren where
  mixed:=by kernel_rfl
  f23:=Tryz.func154.trans (congrArg some (by kernel_rfl))
  t0:=Tryz.underlying0
  a0:=Tryz.isAgg0
  z0:=Tryz.sizeOf0
  v0:=Tryz.zeroValue0
  t3:=Tryz.underlying3
  a3:=Tryz.isAgg3
  z3:=Tryz.sizeOf3
  v3:=Tryz.zeroValue3
  t4:=Tryz.underlying4
  a4:=Tryz.isAgg4
  z4:=Tryz.sizeOf4
  v4:=Tryz.zeroValue4
  t22:=Tryz.underlying32
  a22:=Tryz.isAgg32
  z22:=Tryz.sizeOf32
  v22:=Tryz.zeroValue32
  i3:=by kernel_rfl
theorem aLp:bF Tryz.prog 154 fs:=aHo aJU 3
theorem aLo:cX Tryz.prog 154 fs:=⟨aLp,_,Tryz.func154,by kernel_rfl,by kernel_rfl⟩
end lU
namespace gR
noncomputable def fs:FS:=⟨[(.ref bV .o),(.val (.int .i64) .f)],[],fun x=>gR.pre x.1 x.2.1,fun x=>(((gR x.1 x.2.1),()),())⟩
noncomputable def E:fN:=⟨bI,[(154,lU.fs)],[]⟩
noncomputable def H:List LC:=[]
theorem dD:aT Tryz.prog E:=aB lU.aLo (aN jH)
theorem loops:∀c,Tryz.f132.body=some c->aL E H c:=aO (by kernel_rfl)
theorem aLp:bF Tryz.prog 132 fs:=aI dD mixed Tryz.func132 H loops fun⟨x0,x1,()⟩ hw hp=>(show bG E H Tryz.f132 fs.ps fs.rs (x0,(x1,()))=aQ x0 x1 from by kernel_rfl).trans (eq x0 x1 hw hp)
theorem aLo:cX Tryz.prog 132 fs:=⟨aLp,_,Tryz.func132,by kernel_rfl,by kernel_rfl⟩
end gR
namespace fS
noncomputable def fs:FS:=⟨[(.ref bV .o)],[],fun x=>fS.pre x.1,fun x=>(((fS x.1),()),())⟩
noncomputable def E:fN:=⟨bI,[],[]⟩
noncomputable def H:List LC:=[]
theorem dD:aT Tryz.prog E:=aN jH
theorem loops:∀c,Tryz.f133.body=some c->aL E H c:=aO (by kernel_rfl)
theorem aLp:bF Tryz.prog 133 fs:=aI dD mixed Tryz.func133 H loops fun⟨x0,()⟩ hw hp=>(show bG E H Tryz.f133 fs.ps fs.rs (x0,())=aQ x0 from by kernel_rfl).trans (eq x0 hw hp)
theorem aLo:cX Tryz.prog 133 fs:=⟨aLp,_,Tryz.func133,by kernel_rfl,by kernel_rfl⟩
end fS
namespace gI
noncomputable def nA:List (Nat×vT):=[(32,(.box bV (.pair (.dat (.int .i64)) (.pair (.arr 20000000) (.pair (.arr 20000001) (.pair (.arr 20000002) (.dat .unit))))))),(20000000,(.arr 3 (.int .i64))),(20000001,(.arr 3 (.int .i64))),(20000002,(.arr 3 (.int .i64))),(8256,(.box bV (.pair (.dat (.int .i64)) (.pair (.arr 20000003) (.pair (.arr 20000004) (.pair (.arr 20000005) (.dat .unit))))))),(20000003,(.arr 3 (.int .i64))),(20000004,(.arr 3 (.int .i64))),(20000005,(.arr 3 (.int .i64)))]
noncomputable def fs:FS:=⟨[(.val bV .f),(.val (.int .i64) .f)],[(bV,.o)],fun x=>gI.pre x.1 x.2.1,fun x=>((),((gI x.1 x.2.1),()))⟩
noncomputable def E:fN:=⟨bI,[(88,aS.fs),(132,gR.fs),(133,fS.fs)],[]⟩
noncomputable def sh6:iN:=⟨(uu::ui::uu::uu::(.one (.bptr 32 [] bV))::(.one (.bptr 8256 [] bV))::(.one (.dat .bool))::ui::un 32 []),nA⟩
noncomputable def aHX:List iZ:=[⟨(.exit 0),⟨0,[4,5,6],[],[]⟩,⟨(un 4 ((.one (.bptr 32 [] bV))::(.one (.bptr 8256 [] bV))::(.one (.dat .bool))::un 33 [])),nA⟩⟩]
noncomputable def L6:LC:=⟨6,⟨6,[1,4,5,6,7],[],[]⟩,sh6,aHX,pre6,fn6⟩
noncomputable def H:List LC:=[L6]
noncomputable def code(i:Nat):Code:=(cB (dX Tryz.f115)).getD i .skip
theorem aJM:dE E H (code 0) L6:=⟨mu6,fun⟨x1,x2,x3,x4,x5,x6,x7,x8,x9,x10,x11,x12,x13,()⟩ hp=>bE (show L6.step E H (code 0) (x1,(x2,(x3,(x4,(x5,(x6,(x7,(x8,(x9,(x10,(x11,(x12,(x13,())))))))))))))=aCM x1 x2 x3 x4 x5 x6 x7 x8 x9 x10 x11 x12 x13 from by kernel_rfl) (ok6 x1 x2 x3 x4 x5 x6 x7 x8 x9 x10 x11 x12 x13 hp)⟩
theorem dD:aT Tryz.prog E:=aB aS.aLo (aB gR.aLo (aB fS.aLo (aN jH)))
theorem loops:∀c,Tryz.f115.body=some c->aL E H c:=cJ (by kernel_rfl) (by kernel_rfl) fun i l h=>match i,h with
  |0,h=>Option.some.inj h▸aJM
  |n+1,h=>by cases h
theorem aLp:bF Tryz.prog 115 fs:=aI dD mixed Tryz.func115 H loops fun⟨x0,x1,()⟩ hw hp=>(show bG E H Tryz.f115 fs.ps fs.rs (x0,(x1,()))=aQ x0 x1 from by kernel_rfl).trans (eq x0 x1 hw hp)
theorem aLo:cX Tryz.prog 115 fs:=⟨aLp,_,Tryz.func115,by kernel_rfl,by kernel_rfl⟩
end gI
namespace bP
noncomputable def fs:FS:=⟨[(.val (.sl 3 (.int .i64)) .f),(.val (.int .i64) .f)],[((.int .i64),.o)],fun x=>bP.pre x.1 x.2.1,fun x=>((),((bP x.1 x.2.1),()))⟩
noncomputable def E:fN:=⟨bI,[],[]⟩
noncomputable def sh2:iN:=⟨((.one (.dat (.sl 3 (.int .i64))))::ui::un 5 (ui::ui::un 10 [])),[]⟩
noncomputable def mO:List iZ:=[⟨.ret,⟨0,[4],[],[]⟩,⟨(un 4 (ui::un 14 [])),[]⟩⟩,⟨(.exit 0),⟨0,[],[],[]⟩,⟨(un 19 []),[]⟩⟩]
noncomputable def L2:LC:=⟨2,⟨2,[0,1,7,8],[],[]⟩,sh2,mO,pre2,fn2⟩
noncomputable def H:List LC:=[L2]
noncomputable def code(i:Nat):Code:=(cB (dX Tryz.f155)).getD i .skip
theorem qO:dE E H (code 0) L2:=⟨qY,fun⟨x1,x2,x3,x4,()⟩ hp=>bE (show L2.step E H (code 0) (x1,(x2,(x3,(x4,()))))=jX x1 x2 x3 x4 from by kernel_rfl) (ok2 x1 x2 x3 x4 hp)⟩
theorem dD:aT Tryz.prog E:=aN jH
theorem loops:∀c,Tryz.f155.body=some c->aL E H c:=cJ (by kernel_rfl) (by kernel_rfl) fun i l h=>match i,h with
  |0,h=>Option.some.inj h▸qO
  |n+1,h=>by cases h
theorem aLp:bF Tryz.prog 155 fs:=aI dD mixed Tryz.func155 H loops fun⟨x0,x1,()⟩ hw hp=>(show bG E H Tryz.f155 fs.ps fs.rs (x0,(x1,()))=aQ x0 x1 from by kernel_rfl).trans (eq x0 x1 hw hp)
theorem aLo:cX Tryz.prog 155 fs:=⟨aLp,_,Tryz.func155,by kernel_rfl,by kernel_rfl⟩
end bP
namespace bL
noncomputable def fs:FS:=⟨[(.val (.int .i64) .f),(.peek (.int .i64))],[(.bool,.o)],fun x=>bL.pre x.1 x.2.1,fun x=>((),((bL x.1 x.2.1),()))⟩
noncomputable def E:fN:=⟨bI,[],[]⟩
noncomputable def H:List LC:=[]
theorem dD:aT Tryz.prog E:=aN jH
theorem loops:∀c,Tryz.f156.body=some c->aL E H c:=aO (by kernel_rfl)
theorem aLp:bF Tryz.prog 156 fs:=aI dD mixed Tryz.func156 H loops fun⟨x0,x1,()⟩ hw hp=>(show bG E H Tryz.f156 fs.ps fs.rs (x0,(x1,()))=aQ x0 x1 from by kernel_rfl).trans (eq x0 x1 hw hp)
theorem aLo:cX Tryz.prog 156 fs:=⟨aLp,_,Tryz.func156,by kernel_rfl,by kernel_rfl⟩
end bL
namespace jG
noncomputable def fs:FS:=⟨[(.val (.sl 3 (.int .i64)) .o),(.val (.int .i64) .f),(.val (.sl 3 (.int .i64)) .o)],[((.sl 3 (.int .i64)),.o)],fun x=>jG.pre x.1 x.2.1 x.2.2.1,fun x=>((),((jG x.1 x.2.1 x.2.2.1),()))⟩
--def E:
noncomputable def ren:Go.Shelf.Ren:=⟨fun|21=>157|27=>168|28=>169|35=>171|39=>172|n=>n,fun|22=>32|n=>n,fun|n=>n⟩
theorem aJU:Lays2.n21 Tryz.prog ren where
  mixed:=by kernel_rfl
  f21:=Tryz.func157.trans (congrArg some (by kernel_rfl))
  f27:=Tryz.func168.trans (congrArg some (by kernel_rfl))
  f28:=Tryz.func169.trans (congrArg some (by kernel_rfl))
  f35:=Tryz.func171.trans (congrArg some (by kernel_rfl))
  f39:=Tryz.func172.trans (congrArg some (by kernel_rfl))
  t0:=Tryz.underlying0
  a0:=Tryz.isAgg0
  z0:=Tryz.sizeOf0
  v0:=Tryz.zeroValue0
  t3:=Tryz.underlying3
  a3:=Tryz.isAgg3
  z3:=Tryz.sizeOf3
  v3:=Tryz.zeroValue3
  t4:=Tryz.underlying4
  a4:=Tryz.isAgg4
  z4:=Tryz.sizeOf4
  v4:=Tryz.zeroValue4
  t22:=Tryz.underlying32
  a22:=Tryz.isAgg32
  z22:=Tryz.sizeOf32
  v22:=Tryz.zeroValue32
  i3:=by kernel_rfl
theorem aLp:bF Tryz.prog 157 fs:=aH8 aJU 3
theorem aLo:cX Tryz.prog 157 fs:=⟨aLp,_,Tryz.func157,by kernel_rfl,by kernel_rfl⟩
end jG
namespace hN
noncomputable def fs:FS:=⟨[(.val bV .f),(.val (.int .i64) .f),(.val (.int .i64) .f)],[(bV,.o)],fun x=>hN.pre x.1 x.2.1 x.2.2.1,fun x=>((),((hN x.1 x.2.1 x.2.2.1),()))⟩
noncomputable def E:fN:=⟨bI,[(88,aS.fs),(118,bC.fs),(97,cZ.fs),(133,fS.fs),(155,bP.fs),(156,bL.fs),(157,jG.fs)],[]⟩
noncomputable def H:List LC:=[]
theorem dD:aT Tryz.prog E:=aB aS.aLo (aB bC.aLo (aB cZ.aLo (aB fS.aLo (aB bP.aLo (aB bL.aLo (aB jG.aLo (aN jH)))))))
theorem loops:∀c,Tryz.f134.body=some c->aL E H c:=aO (by kernel_rfl)
theorem aLp:bF Tryz.prog 134 fs:=aI dD mixed Tryz.func134 H loops fun⟨x0,x1,x2,()⟩ hw hp=>(show bG E H Tryz.f134 fs.ps fs.rs (x0,(x1,(x2,())))=aQ x0 x1 x2 from by kernel_rfl).trans (eq x0 x1 x2 hw hp)
theorem aLo:cX Tryz.prog 134 fs:=⟨aLp,_,Tryz.func134,by kernel_rfl,by kernel_rfl⟩
end hN
namespace iG
noncomputable def fs:FS:=⟨[(.val bV .f),(.val (.int .i64) .f)],[(bV,.o)],fun x=>iG.pre x.1 x.2.1,fun x=>((),((iG x.1 x.2.1),()))⟩
noncomputable def E:fN:=⟨bI,[(88,aS.fs),(97,cZ.fs),(132,gR.fs),(133,fS.fs),(155,bP.fs)],[]⟩
noncomputable def H:List LC:=[]
theorem dD:aT Tryz.prog E:=aB aS.aLo (aB cZ.aLo (aB gR.aLo (aB fS.aLo (aB bP.aLo (aN jH)))))
theorem loops:∀c,Tryz.f135.body=some c->aL E H c:=aO (by kernel_rfl)
theorem aLp:bF Tryz.prog 135 fs:=aI dD mixed Tryz.func135 H loops fun⟨x0,x1,()⟩ hw hp=>(show bG E H Tryz.f135 fs.ps fs.rs (x0,(x1,()))=aQ x0 x1 from by kernel_rfl).trans (eq x0 x1 hw hp)
theorem aLo:cX Tryz.prog 135 fs:=⟨aLp,_,Tryz.func135,by kernel_rfl,by kernel_rfl⟩
end iG
namespace jM
noncomputable def fs:FS:=⟨[(.val bV .f),(.val (.int .i64) .f)],[((.int .i64),.o)],fun x=>jM.pre x.1 x.2.1,fun x=>((),((jM x.1 x.2.1),()))⟩
noncomputable def E:fN:=⟨bI,[],[]⟩
noncomputable def H:List LC:=[]
theorem dD:aT Tryz.prog E:=aN jH
theorem loops:∀c,Tryz.f158.body=some c->aL E H c:=aO (by kernel_rfl)
theorem aLp:bF Tryz.prog 158 fs:=aI dD mixed Tryz.func158 H loops fun⟨x0,x1,()⟩ hw hp=>(show bG E H Tryz.f158 fs.ps fs.rs (x0,(x1,()))=aQ x0 x1 from by kernel_rfl).trans (eq x0 x1 hw hp)
theorem aLo:cX Tryz.prog 158 fs:=⟨aLp,_,Tryz.func158,by kernel_rfl,by kernel_rfl⟩
end jM
namespace hY
noncomputable def fs:FS:=⟨[(.val bV .f),(.val (.int .i64) .f),(.val (.int .i64) .f),(.val (.int .i64) .f),(.val (.int .i64) .f)],[(bV,.o),(.bool,.o)],fun x=>hY.pre x.1 x.2.1 x.2.2.1 x.2.2.2.1 x.2.2.2.2.1,fun x=>((),((hY x.1 x.2.1 x.2.2.1 x.2.2.2.1 x.2.2.2.2.1).1,((hY x.1 x.2.1 x.2.2.1 x.2.2.2.1 x.2.2.2.2.1).2,())))⟩
noncomputable def E:fN:=⟨bI,[(44,aA.fs),(88,aS.fs),(158,jM.fs)],[]⟩
noncomputable def H:List LC:=[]
theorem dD:aT Tryz.prog E:=aB aA.aLo (aB aS.aLo (aB jM.aLo (aN jH)))
theorem loops:∀c,Tryz.f136.body=some c->aL E H c:=aO (by kernel_rfl)
theorem aLp:bF Tryz.prog 136 fs:=aI dD mixed Tryz.func136 H loops fun⟨x0,x1,x2,x3,x4,()⟩ hw hp=>(show bG E H Tryz.f136 fs.ps fs.rs (x0,(x1,(x2,(x3,(x4,())))))=aQ x0 x1 x2 x3 x4 from by kernel_rfl).trans (eq x0 x1 x2 x3 x4 hw hp)
theorem aLo:cX Tryz.prog 136 fs:=⟨aLp,_,Tryz.func136,by kernel_rfl,by kernel_rfl⟩
end hY
namespace dB
noncomputable def fs:FS:=⟨[(.ref aY .o),(.val kO .f)],[(dA,.o)],fun x=>dB.pre x.1 x.2.1,fun x=>(((dB x.1 x.2.1).1,()),((dB x.1 x.2.1).2,()))⟩
noncomputable def E:fN:=⟨bI,[(134,hN.fs),(135,iG.fs),(136,hY.fs)],[]⟩
noncomputable def H:List LC:=[]
theorem dD:aT Tryz.prog E:=aB hN.aLo (aB iG.aLo (aB hY.aLo (aN jH)))
theorem loops:∀c,Tryz.f116.body=some c->aL E H c:=aO (by kernel_rfl)
theorem aLp:bF Tryz.prog 116 fs:=aI dD mixed Tryz.func116 H loops fun⟨x0,x1,()⟩ hw hp=>(show bG E H Tryz.f116 fs.ps fs.rs (x0,(x1,()))=aQ x0 x1 from by kernel_rfl).trans (eq x0 x1 hw hp)
theorem aLo:cX Tryz.prog 116 fs:=⟨aLp,_,Tryz.func116,by kernel_rfl,by kernel_rfl⟩
end dB
namespace fV
noncomputable def nA:List (Nat×vT):=[(0,(.box bX (.pair (.dat (.int .i64)) (.pair (.dat (.int .i64)) (.pair (.dat (.int .i64)) (.pair (.dat (.int .i64)) (.pair (.arr 20000000) (.dat .unit)))))))),(20000000,(.arr 118 lW))]
noncomputable def fs:FS:=⟨[(.val (.sl 80 bX) .f),(.val (.int .i64) .f),(.val (.int .i64) .f)],[(bX,.o)],fun x=>fV.pre x.1 x.2.1 x.2.2.1,fun x=>((),((fV x.1 x.2.1 x.2.2.1),()))⟩
noncomputable def E:fN:=⟨bI,[(114,aR.fs)],[]⟩
noncomputable def sh2:iN:=⟨(uu::ui::ui::uu::uu::uu::(.one (.bptr 0 [] bX))::uu::uu::(.one (.dat (.sl 80 bX)))::ui::ui::un 19 []),nA⟩
noncomputable def mO:List iZ:=[⟨.ret,⟨0,[6],[],[]⟩,⟨(un 6 ((.one (.bptr 0 [] bX))::un 24 [])),nA⟩⟩,⟨(.exit 0),⟨0,[1,2,6],[],[]⟩,⟨(uu::ui::ui::uu::uu::uu::(.one (.bptr 0 [] bX))::un 24 []),nA⟩⟩]
noncomputable def L2:LC:=⟨2,⟨2,[1,2,6,9,10,11],[],[]⟩,sh2,mO,pre2,fn2⟩
noncomputable def H:List LC:=[L2]
noncomputable def code(i:Nat):Code:=(cB (dX Tryz.f139)).getD i .skip
theorem qO:dE E H (code 0) L2:=⟨qY,fun⟨x1,x2,x3,x4,x5,x6,x7,x8,x9,x10,x11,()⟩ hp=>bE (show L2.step E H (code 0) (x1,(x2,(x3,(x4,(x5,(x6,(x7,(x8,(x9,(x10,(x11,())))))))))))=jX x1 x2 x3 x4 x5 x6 x7 x8 x9 x10 x11 from by kernel_rfl) (ok2 x1 x2 x3 x4 x5 x6 x7 x8 x9 x10 x11 hp)⟩
theorem dD:aT Tryz.prog E:=aB aR.aLo (aN jH)
theorem loops:∀c,Tryz.f139.body=some c->aL E H c:=cJ (by kernel_rfl) (by kernel_rfl) fun i l h=>match i,h with
  |0,h=>Option.some.inj h▸qO
  |n+1,h=>by cases h
theorem aLp:bF Tryz.prog 139 fs:=aI dD mixed Tryz.func139 H loops fun⟨x0,x1,x2,()⟩ hw hp=>(show bG E H Tryz.f139 fs.ps fs.rs (x0,(x1,(x2,())))=aQ x0 x1 x2 from by kernel_rfl).trans (eq x0 x1 x2 hw hp)
theorem aLo:cX Tryz.prog 139 fs:=⟨aLp,_,Tryz.func139,by kernel_rfl,by kernel_rfl⟩
end fV
namespace cQ
noncomputable def fs:FS:=⟨[(.val bX .f),(.val (.int .i64) .f),(.val (.int .i64) .f)],[((.int .i64),.o),((.int .i64),.o)],fun x=>cQ.pre x.1 x.2.1 x.2.2.1,fun x=>((),((cQ x.1 x.2.1 x.2.2.1).1,((cQ x.1 x.2.1 x.2.2.1).2,())))⟩
noncomputable def E:fN:=⟨bI,[],[]⟩
noncomputable def aK6:iN:=⟨(uu::uu::ui::un 44 ((.one (.dat (.sl 118 lW)))::ui::ui::un 10 [])),[]⟩
noncomputable def aFC:List iZ:=[⟨.ret,⟨0,[6,7],[],[]⟩,⟨(un 6 (ui::ui::un 52 [])),[]⟩⟩,⟨(.exit 1),⟨0,[],[],[]⟩,⟨(un 60 []),[]⟩⟩]
noncomputable def L12:LC:=⟨12,⟨12,[2,47,48,49],[],[]⟩,aK6,aFC,pre12,fn12⟩
noncomputable def H:List LC:=[L12]
noncomputable def code(i:Nat):Code:=(cB (dX Tryz.f159)).getD i .skip
theorem aIx:dE E H (code 0) L12:=⟨aFW,fun⟨x1,x2,x3,x4,()⟩ hp=>bE (show L12.step E H (code 0) (x1,(x2,(x3,(x4,()))))=aBI x1 x2 x3 x4 from by kernel_rfl) (aKg x1 x2 x3 x4 hp)⟩
theorem dD:aT Tryz.prog E:=aN jH
theorem loops:∀c,Tryz.f159.body=some c->aL E H c:=cJ (by kernel_rfl) (by kernel_rfl) fun i l h=>match i,h with
  |0,h=>Option.some.inj h▸aIx
  |n+1,h=>by cases h
theorem aLp:bF Tryz.prog 159 fs:=aI dD mixed Tryz.func159 H loops fun⟨x0,x1,x2,()⟩ hw hp=>(show bG E H Tryz.f159 fs.ps fs.rs (x0,(x1,(x2,())))=aQ x0 x1 x2 from by kernel_rfl).trans (eq x0 x1 x2 hw hp)
theorem aLo:cX Tryz.prog 159 fs:=⟨aLp,_,Tryz.func159,by kernel_rfl,by kernel_rfl⟩
end cQ
namespace jY
noncomputable def fs:FS:=⟨[(.val bD .f),(.val .str .f),(.val .str .f),(.val (.int .i64) .f),(.val (.int .i64) .f)],[(bD,.o),((.int .i64),.o),(.bool,.o)],fun x=>jY.pre x.1 x.2.1 x.2.2.1 x.2.2.2.1 x.2.2.2.2.1,fun x=>((),((jY x.1 x.2.1 x.2.2.1 x.2.2.2.1 x.2.2.2.2.1).1,((jY x.1 x.2.1 x.2.2.1 x.2.2.2.1 x.2.2.2.2.1).2.1,((jY x.1 x.2.1 x.2.2.1 x.2.2.2.1 x.2.2.2.2.1).2.2,()))))⟩
noncomputable def E:fN:=⟨bI,[(87,bA.fs),(60,dN.fs)],[]⟩
noncomputable def H:List LC:=[]
theorem dD:aT Tryz.prog E:=aB bA.aLo (aB dN.aLo (aN jH))
theorem loops:∀c,Tryz.f160.body=some c->aL E H c:=aO (by kernel_rfl)
theorem aLp:bF Tryz.prog 160 fs:=aI dD mixed Tryz.func160 H loops fun⟨x0,x1,x2,x3,x4,()⟩ hw hp=>(show bG E H Tryz.f160 fs.ps fs.rs (x0,(x1,(x2,(x3,(x4,())))))=aQ x0 x1 x2 x3 x4 from by kernel_rfl).trans (eq x0 x1 x2 x3 x4 hw hp)
theorem aLo:cX Tryz.prog 160 fs:=⟨aLp,_,Tryz.func160,by kernel_rfl,by kernel_rfl⟩
end jY
namespace jK
noncomputable def fs:FS:=⟨[(.val bX .f),(.val (.int .i64) .f),(.val (.int .i64) .f),(.val (.int .i64) .f),(.val (.int .i64) .f)],[(bX,.o)],fun x=>jK.pre x.1 x.2.1 x.2.2.1 x.2.2.2.1 x.2.2.2.2.1,fun x=>((),((jK x.1 x.2.1 x.2.2.1 x.2.2.2.1 x.2.2.2.2.1),()))⟩
noncomputable def E:fN:=⟨bI,[(114,aR.fs),(159,cQ.fs)],[]⟩
noncomputable def H:List LC:=[]
theorem dD:aT Tryz.prog E:=aB aR.aLo (aB cQ.aLo (aN jH))
theorem loops:∀c,Tryz.f161.body=some c->aL E H c:=aO (by kernel_rfl)
theorem aLp:bF Tryz.prog 161 fs:=aI dD mixed Tryz.func161 H loops fun⟨x0,x1,x2,x3,x4,()⟩ hw hp=>(show bG E H Tryz.f161 fs.ps fs.rs (x0,(x1,(x2,(x3,(x4,())))))=aQ x0 x1 x2 x3 x4 from by kernel_rfl).trans (eq x0 x1 x2 x3 x4 hw hp)
theorem aLo:cX Tryz.prog 161 fs:=⟨aLp,_,Tryz.func161,by kernel_rfl,by kernel_rfl⟩
end jK
namespace fZ
noncomputable def fs:FS:=⟨[(.val (.sl 80 bX) .f),(.val bX .f)],[((.sl 80 bX),.o)],fun x=>fZ.pre x.1 x.2.1,fun x=>((),((fZ x.1 x.2.1),()))⟩
noncomputable def E:fN:=⟨bI,[(114,aR.fs),(89,cK.fs)],[]⟩
noncomputable def vX:iN:=⟨(uu::uu::uu::(.one (.bptr 0 [] bX))::uu::(.one (.arr 20000000))::(.one (.dat .bool))::un 5 ((.one (.arr 20000001))::ui::ui::un 61 [])),[(0,(.box bX (.dat bX))),(20000000,(.arr 80 bX)),(20000001,(.rng 80 bX))]⟩
noncomputable def kC:List iZ:=[⟨(.exit 0),⟨0,[3,5,6],[(5,(80,bX))],[]⟩,⟨(uu::uu::uu::(.one (.bptr 0 [] bX))::uu::(.one (.arr 20000000))::(.one (.dat .bool))::un 69 []),[(0,(.box bX (.dat bX))),(20000000,(.arr 80 bX))]⟩⟩]
noncomputable def L4:LC:=⟨4,⟨4,[3,5,6,12,13,14],[(5,(80,bX))],[12]⟩,vX,kC,pre4,fn4⟩
noncomputable def H:List LC:=[L4]
noncomputable def code(i:Nat):Code:=(cB (dX Tryz.f140)).getD i .skip
theorem nG:dE E H (code 0) L4:=⟨kU,fun⟨x1,x2,x3,x4,x5,x6,x7,()⟩ hp=>bE (show L4.step E H (code 0) (x1,(x2,(x3,(x4,(x5,(x6,(x7,())))))))=eO x1 x2 x3 x4 x5 x6 x7 from by kernel_rfl) (vZ x1 x2 x3 x4 x5 x6 x7 hp)⟩
theorem dD:aT Tryz.prog E:=aB aR.aLo (aB cK.aLo (aN jH))
theorem loops:∀c,Tryz.f140.body=some c->aL E H c:=cJ (by kernel_rfl) (by kernel_rfl) fun i l h=>match i,h with
  |0,h=>Option.some.inj h▸nG
  |n+1,h=>by cases h
theorem aLp:bF Tryz.prog 140 fs:=aI dD mixed Tryz.func140 H loops fun⟨x0,x1,()⟩ hw hp=>(show bG E H Tryz.f140 fs.ps fs.rs (x0,(x1,()))=aQ x0 x1 from by kernel_rfl).trans (eq x0 x1 hw hp)
theorem aLo:cX Tryz.prog 140 fs:=⟨aLp,_,Tryz.func140,by kernel_rfl,by kernel_rfl⟩
end fZ
namespace lT
noncomputable def fs:FS:=⟨[(.ref aY .o),(.val fO .f),(.val kO .f)],[(dA,.o)],fun x=>lT.pre x.1 x.2.1 x.2.2.1,fun x=>(((lT x.1 x.2.1 x.2.2.1).1,()),((lT x.1 x.2.1 x.2.2.1).2,()))⟩
noncomputable def E:fN:=⟨bI,[(139,fV.fs),(159,cQ.fs),(160,jY.fs),(161,jK.fs),(140,fZ.fs)],[]⟩
noncomputable def H:List LC:=[]
theorem dD:aT Tryz.prog E:=aB fV.aLo (aB cQ.aLo (aB jY.aLo (aB jK.aLo (aB fZ.aLo (aN jH)))))
theorem loops:∀c,Tryz.f137.body=some c->aL E H c:=aO (by kernel_rfl)
theorem aLp:bF Tryz.prog 137 fs:=aI dD mixed Tryz.func137 H loops fun⟨x0,x1,x2,()⟩ hw hp=>(show bG E H Tryz.f137 fs.ps fs.rs (x0,(x1,(x2,())))=aQ x0 x1 x2 from by kernel_rfl).trans (eq x0 x1 x2 hw hp)
theorem aLo:cX Tryz.prog 137 fs:=⟨aLp,_,Tryz.func137,by kernel_rfl,by kernel_rfl⟩
end lT
end
end Go.Aw.Pl
