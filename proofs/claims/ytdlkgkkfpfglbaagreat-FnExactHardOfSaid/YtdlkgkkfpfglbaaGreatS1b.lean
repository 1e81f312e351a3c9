import Derived.Test.YtdlkgkkfpfglbaaGreatS1a
namespace Go.Aw.Pl
open Go Go.Aw Go.Proofs
set_option linter.unusedVariables false
set_option maxRecDepth 20000
set_option maxHeartbeats 2000000
noncomputable section
namespace fY
noncomputable def lD:List (Nat×uG):=[(0,(.box bT (.pair (.arr 20000000) (.pair (.dat (.sl 134 dY)) (.pair (.arr 20000001) (.dat (.pair (.int .i64) (.pair (.sl 3 (.int .i64)) (.pair (.sl 138 dL) .unit))))))))),(20000000,(.arr 130 eD)),(20000001,(.arr 95 cW)),(32,(.box bT (.pair (.arr 20000002) (.pair (.arr 20000003) (.pair (.arr 20000004) (.pair (.dat (.int .i64)) (.pair (.arr 20000005) (.pair (.arr 20000006) (.dat .unit))))))))),(20000002,(.arr 130 eD)),(20000003,(.arr 134 dY)),(20000004,(.arr 95 cW)),(20000005,(.arr 3 (.int .i64))),(20000006,(.arr 138 dL))]
noncomputable def fs:FS:=⟨[(.val bT .f)],[(bT,.o)],fun x=>fY.pre x.1,fun x=>((),((fY x.1),()))⟩
noncomputable def E:eG:=⟨aX,[(194,iZ.fs),(197,eE.fs),(195,gJ.fs),(196,fH.fs)],[]⟩
noncomputable def yK:fF:=⟨(uu::(.one (.bptr 0 [] bT))::(.one (.bptr 32 [] bT))::uu::(.one (.dat (.sl 95 cW)))::un 10 ((.one (.dat (.sl 130 eD)))::ui::ui::un 38 [])),lD⟩
noncomputable def kU:List fM:=[⟨(.exit 0),⟨0,[1,2,4],[],[]⟩,⟨(uu::(.one (.bptr 0 [] bT))::(.one (.bptr 32 [] bT))::uu::(.one (.dat (.sl 95 cW)))::un 51 []),lD⟩⟩]
noncomputable def L4:LC:=⟨4,⟨4,[1,2,4,15,16,17],[],[]⟩,yK,kU,pre4,fn4⟩
noncomputable def sh9:fF:=⟨(uu::(.one (.bptr 0 [] bT))::(.one (.bptr 32 [] bT))::un 26 ((.one (.dat (.sl 95 cW)))::ui::ui::un 24 [])),lD⟩
noncomputable def aIz:List fM:=[⟨(.exit 2),⟨0,[1,2],[],[]⟩,⟨(uu::(.one (.bptr 0 [] bT))::(.one (.bptr 32 [] bT))::un 53 []),lD⟩⟩]
noncomputable def L9:LC:=⟨9,⟨9,[1,2,29,30,31],[],[]⟩,sh9,aIz,pre9,fn9⟩
noncomputable def H:List LC:=[L4,L9]
noncomputable def code(i:Nat):Code:=(bE (cA Tryz.f128)).getD i .skip
theorem oY:bM E H (code 0) L4:=⟨qD,fun⟨x1,x2,x3,x4,x5,x6,x7,x8,x9,x10,x11,x12,x13,x14,x15,()⟩ hp=>aT (show L4.step E H (code 0) (x1,(x2,(x3,(x4,(x5,(x6,(x7,(x8,(x9,(x10,(x11,(x12,(x13,(x14,(x15,())))))))))))))))=hJ x1 x2 x3 x4 x5 x6 x7 x8 x9 x10 x11 x12 x13 x14 x15 from by kernel_rfl) (yT x1 x2 x3 x4 x5 x6 x7 x8 x9 x10 x11 x12 x13 x14 x15 hp)⟩
theorem aLj:bM E H (code 1) L9:=⟨mu9,fun⟨x1,x2,x3,x4,x5,x6,x7,x8,x9,x10,x11,x12,x13,x14,()⟩ hp=>aT (show L9.step E H (code 1) (x1,(x2,(x3,(x4,(x5,(x6,(x7,(x8,(x9,(x10,(x11,(x12,(x13,(x14,()))))))))))))))=aEd x1 x2 x3 x4 x5 x6 x7 x8 x9 x10 x11 x12 x13 x14 from by kernel_rfl) (ok9 x1 x2 x3 x4 x5 x6 x7 x8 x9 x10 x11 x12 x13 x14 hp)⟩
theorem bY:aS Tryz.prog E:=aD iZ.aPz (aD eE.aPz (aD gJ.aPz (aD fH.aPz (aI gO))))
theorem loops:∀c,Tryz.f128.body=some c->aH E H c:=bB (by kernel_rfl) (by kernel_rfl) fun i l h=>match i,h with
  |0,h=>Option.some.inj h▸oY
  |1,h=>Option.some.inj h▸aLj
  |n+2,h=>by cases h
theorem aPy:bA Tryz.prog 128 fs:=aF bY aZ Tryz.func128 H loops fun⟨x0,()⟩ hw hp=>(show bC E H Tryz.f128 fs.ps fs.rs (x0,())=aR x0 from by kernel_rfl).trans (eq x0 hw hp)
theorem aPz:cE Tryz.prog 128 fs:=⟨aPy,_,Tryz.func128,by kernel_rfl,by kernel_rfl⟩
end fY
namespace cD
noncomputable def fs:FS:=⟨[(.val iJ .f)],[(iJ,.o)],fun x=>cD.pre x.1,fun x=>((),((cD x.1),()))⟩
noncomputable def E:eG:=⟨aX,[(127,aN.fs),(128,fY.fs)],[]⟩
noncomputable def H:List LC:=[]
theorem bY:aS Tryz.prog E:=aD aN.aPz (aD fY.aPz (aI gO))
theorem loops:∀c,Tryz.f55.body=some c->aH E H c:=aO (by kernel_rfl)
theorem aPy:bA Tryz.prog 55 fs:=aF bY aZ Tryz.func55 H loops fun⟨x0,()⟩ hw hp=>(show bC E H Tryz.f55 fs.ps fs.rs (x0,())=aR x0 from by kernel_rfl).trans (eq x0 hw hp)
theorem aPz:cE Tryz.prog 55 fs:=⟨aPy,_,Tryz.func55,by kernel_rfl,by kernel_rfl⟩
end cD
namespace mP
noncomputable def fs:FS:=⟨[(.val iW .f),(.val (.int .i64) .f)],[((.int .i64),.o)],fun _=>true,fun x=>((),((mP x.1 x.2.1),()))⟩
noncomputable def E:eG:=⟨aX,[(45,aB.fs)],[]⟩
noncomputable def H:List LC:=[]
theorem bY:aS Tryz.prog E:=aD aB.aPz (aI gO)
theorem loops:∀c,Tryz.f42.body=some c->aH E H c:=aO (by kernel_rfl)
theorem aPy:bA Tryz.prog 42 fs:=aF bY aZ Tryz.func42 H loops fun⟨x0,x1,()⟩ hw _=>(show bC E H Tryz.f42 fs.ps fs.rs (x0,(x1,()))=aR x0 x1 from by kernel_rfl).trans (eq x0 x1 hw)
theorem aPz:cE Tryz.prog 42 fs:=⟨aPy,_,Tryz.func42,by kernel_rfl,by kernel_rfl⟩
end mP
namespace dZ
noncomputable def lD:List (Nat×uG):=[(0,(.box iW (.dat iW))),(32,(.box iW (.pair (.dat (.int .i64)) (.pair (.dat (.int .i64)) (.pair (.arr 20000000) (.dat .unit)))))),(20000000,(.arr 122 jH)),(24640,(.box iW (.pair (.dat (.int .i64)) (.pair (.dat (.int .i64)) (.pair (.arr 20000001) (.dat .unit)))))),(20000001,(.arr 122 jH))]
noncomputable def fs:FS:=⟨[(.val iW .f),(.val (.int .i64) .f),(.val (.int .i64) .f),(.val (.sl 122 jH) .f)],[(iW,.o),(.bool,.o)],fun x=>dZ.pre x.1 x.2.1 x.2.2.1 x.2.2.2.1,fun x=>((),((dZ x.1 x.2.1 x.2.2.1 x.2.2.2.1).1,((dZ x.1 x.2.1 x.2.2.1 x.2.2.2.1).2,())))⟩
noncomputable def E:eG:=⟨aX,[(46,mA.fs),(127,aN.fs),(42,mP.fs)],[]⟩
noncomputable def sh7:fF:=⟨(uu::ui::uu::uu::(.one (.bptr 0 [] iW))::uu::uu::uu::(.one (.bptr 32 [] iW))::uu::(.one (.bptr 24640 [] iW))::un 19 ((.one (.dat (.sl 122 jH)))::ui::ui::un 42 [])),lD⟩
noncomputable def aIo:List fM:=[⟨(.exit 0),⟨0,[4,8,10],[],[]⟩,⟨(un 4 ((.one (.bptr 0 [] iW))::uu::uu::uu::(.one (.bptr 32 [] iW))::uu::(.one (.bptr 24640 [] iW))::un 64 [])),lD⟩⟩]
noncomputable def L7:LC:=⟨7,⟨7,[1,4,8,10,30,31,32],[],[]⟩,sh7,aIo,pre7,fn7⟩
noncomputable def H:List LC:=[L7]
noncomputable def code(i:Nat):Code:=(bE (cA Tryz.f56)).getD i .skip
theorem aLI:bM E H (code 0) L7:=⟨mu7,fun⟨x1,x2,x3,x4,x5,x6,x7,x8,x9,x10,x11,x12,x13,()⟩ hp=>aT (show L7.step E H (code 0) (x1,(x2,(x3,(x4,(x5,(x6,(x7,(x8,(x9,(x10,(x11,(x12,(x13,())))))))))))))=aEW x1 x2 x3 x4 x5 x6 x7 x8 x9 x10 x11 x12 x13 from by kernel_rfl) (ok7 x1 x2 x3 x4 x5 x6 x7 x8 x9 x10 x11 x12 x13 hp)⟩
theorem bY:aS Tryz.prog E:=aD mA.aPz (aD aN.aPz (aD mP.aPz (aI gO)))
theorem loops:∀c,Tryz.f56.body=some c->aH E H c:=bB (by kernel_rfl) (by kernel_rfl) fun i l h=>match i,h with
  |0,h=>Option.some.inj h▸aLI
  |n+1,h=>by cases h
theorem aPy:bA Tryz.prog 56 fs:=aF bY aZ Tryz.func56 H loops fun⟨x0,x1,x2,x3,()⟩ hw hp=>(show bC E H Tryz.f56 fs.ps fs.rs (x0,(x1,(x2,(x3,()))))=aR x0 x1 x2 x3 from by kernel_rfl).trans (eq x0 x1 x2 x3 hw hp)
theorem aPz:cE Tryz.prog 56 fs:=⟨aPy,_,Tryz.func56,by kernel_rfl,by kernel_rfl⟩
end dZ
namespace lQ
noncomputable def fs:FS:=⟨[(.val iW .f),(.val (.int .i64) .f)],[(iW,.o)],fun x=>lQ.pre x.1 x.2.1,fun x=>((),((lQ x.1 x.2.1),()))⟩
noncomputable def E:eG:=⟨aX,[(45,aB.fs),(127,aN.fs)],[]⟩
noncomputable def H:List LC:=[]
theorem bY:aS Tryz.prog E:=aD aB.aPz (aD aN.aPz (aI gO))
theorem loops:∀c,Tryz.f58.body=some c->aH E H c:=aO (by kernel_rfl)
theorem aPy:bA Tryz.prog 58 fs:=aF bY aZ Tryz.func58 H loops fun⟨x0,x1,()⟩ hw hp=>(show bC E H Tryz.f58 fs.ps fs.rs (x0,(x1,()))=aR x0 x1 from by kernel_rfl).trans (eq x0 x1 hw hp)
theorem aPz:cE Tryz.prog 58 fs:=⟨aPy,_,Tryz.func58,by kernel_rfl,by kernel_rfl⟩
end lQ
namespace mZ
noncomputable def fs:FS:=⟨[(.val (.pair (.int .i64) (.pair (.int .i64) (.pair (.int .i64) (.pair (.int .i64) dL)))) .f),(.val (.pair (.int .i64) (.pair (.int .i64) (.pair (.int .i64) (.pair (.int .i64) dL)))) .f)],[(.bool,.o)],fun _=>true,fun x=>((),((mZ x.1 x.2.1),()))⟩
noncomputable def E:eG:=⟨aX,[],[]⟩
noncomputable def H:List LC:=[]
theorem bY:aS Tryz.prog E:=aI gO
theorem loops:∀c,Tryz.f214.body=some c->aH E H c:=aO (by kernel_rfl)
theorem aPy:bA Tryz.prog 214 fs:=aF bY aZ Tryz.func214 H loops fun⟨x0,x1,()⟩ hw _=>(show bC E H Tryz.f214 fs.ps fs.rs (x0,(x1,()))=aR x0 x1 from by kernel_rfl).trans (eq x0 x1 hw)
theorem aPz:cE Tryz.prog 214 fs:=⟨aPy,_,Tryz.func214,by kernel_rfl,by kernel_rfl⟩
end mZ
namespace kK
noncomputable def fs:FS:=⟨[(.val jH .f),(.val jH .f)],[(.bool,.o)],fun _=>true,fun x=>((),((kK x.1 x.2.1),()))⟩
noncomputable def E:eG:=⟨aX,[(214,mZ.fs)],[]⟩
noncomputable def H:List LC:=[]
theorem bY:aS Tryz.prog E:=aD mZ.aPz (aI gO)
theorem loops:∀c,Tryz.f158.body=some c->aH E H c:=aO (by kernel_rfl)
theorem aPy:bA Tryz.prog 158 fs:=aF bY aZ Tryz.func158 H loops fun⟨x0,x1,()⟩ hw _=>(show bC E H Tryz.f158 fs.ps fs.rs (x0,(x1,()))=aR x0 x1 from by kernel_rfl).trans (eq x0 x1 hw)
theorem aPz:cE Tryz.prog 158 fs:=⟨aPy,_,Tryz.func158,by kernel_rfl,by kernel_rfl⟩
end kK
namespace hZ
noncomputable def fs:FS:=⟨[(.val (.sl 122 jH) .f),(.val (.sl 122 jH) .f)],[(.bool,.o)],fun _=>true,fun x=>((),((hZ x.1 x.2.1),()))⟩
noncomputable def E:eG:=⟨aX,[(158,kK.fs)],[]⟩
noncomputable def yK:fF:=⟨((.one (.dat (.sl 122 jH)))::(.one (.dat (.sl 122 jH)))::uu::uu::uu::ui::un 21 []),[]⟩
noncomputable def kU:List fM:=[⟨.ret,⟨0,[4],[],[]⟩,⟨(un 4 ((.one (.dat .bool))::un 22 [])),[]⟩⟩,⟨(.exit 0),⟨0,[],[],[]⟩,⟨(un 27 []),[]⟩⟩]
noncomputable def L4:LC:=⟨4,⟨4,[0,1,5],[],[]⟩,yK,kU,pre4,fn4⟩
noncomputable def H:List LC:=[L4]
noncomputable def code(i:Nat):Code:=(bE (cA Tryz.f74)).getD i .skip
theorem oY:bM E H (code 0) L4:=⟨qD,fun⟨x1,x2,x3,()⟩ hp=>aT (show L4.step E H (code 0) (x1,(x2,(x3,())))=hJ x1 x2 x3 from by kernel_rfl) (yT x1 x2 x3 hp)⟩
theorem bY:aS Tryz.prog E:=aD kK.aPz (aI gO)
theorem loops:∀c,Tryz.f74.body=some c->aH E H c:=bB (by kernel_rfl) (by kernel_rfl) fun i l h=>match i,h with
  |0,h=>Option.some.inj h▸oY
  |n+1,h=>by cases h
theorem aPy:bA Tryz.prog 74 fs:=aF bY aZ Tryz.func74 H loops fun⟨x0,x1,()⟩ hw _=>(show bC E H Tryz.f74 fs.ps fs.rs (x0,(x1,()))=aR x0 x1 from by kernel_rfl).trans (eq x0 x1 hw)
theorem aPz:cE Tryz.prog 74 fs:=⟨aPy,_,Tryz.func74,by kernel_rfl,by kernel_rfl⟩
end hZ
namespace nB
noncomputable def fs:FS:=⟨[(.val iW .f),(.val iW .f)],[(.bool,.o)],fun _=>true,fun x=>((),((nB x.1 x.2.1),()))⟩
noncomputable def E:eG:=⟨aX,[(74,hZ.fs)],[]⟩
noncomputable def H:List LC:=[]
theorem bY:aS Tryz.prog E:=aD hZ.aPz (aI gO)
theorem loops:∀c,Tryz.f32.body=some c->aH E H c:=aO (by kernel_rfl)
theorem aPy:bA Tryz.prog 32 fs:=aF bY aZ Tryz.func32 H loops fun⟨x0,x1,()⟩ hw _=>(show bC E H Tryz.f32 fs.ps fs.rs (x0,(x1,()))=aR x0 x1 from by kernel_rfl).trans (eq x0 x1 hw)
theorem aPz:cE Tryz.prog 32 fs:=⟨aPy,_,Tryz.func32,by kernel_rfl,by kernel_rfl⟩
end nB
namespace lN
noncomputable def fs:FS:=⟨[(.val pN .f),(.val pN .f)],[(.bool,.o)],fun _=>true,fun x=>((),((lN x.1 x.2.1),()))⟩
noncomputable def E:eG:=⟨aX,[],[]⟩
noncomputable def H:List LC:=[]
theorem bY:aS Tryz.prog E:=aI gO
theorem loops:∀c,Tryz.f230.body=some c->aH E H c:=aO (by kernel_rfl)
theorem aPy:bA Tryz.prog 230 fs:=aF bY aZ Tryz.func230 H loops fun⟨x0,x1,()⟩ hw _=>(show bC E H Tryz.f230 fs.ps fs.rs (x0,(x1,()))=aR x0 x1 from by kernel_rfl).trans (eq x0 x1 hw)
theorem aPz:cE Tryz.prog 230 fs:=⟨aPy,_,Tryz.func230,by kernel_rfl,by kernel_rfl⟩
end lN
namespace jA
noncomputable def fs:FS:=⟨[(.val (.sl 195 pN) .f),(.val (.sl 195 pN) .f)],[(.bool,.o)],fun _=>true,fun x=>((),((jA x.1 x.2.1),()))⟩
noncomputable def E:eG:=⟨aX,[(230,lN.fs)],[]⟩
noncomputable def yK:fF:=⟨((.one (.dat (.sl 195 pN)))::(.one (.dat (.sl 195 pN)))::uu::uu::uu::ui::un 21 []),[]⟩
noncomputable def kU:List fM:=[⟨.ret,⟨0,[4],[],[]⟩,⟨(un 4 ((.one (.dat .bool))::un 22 [])),[]⟩⟩,⟨(.exit 0),⟨0,[],[],[]⟩,⟨(un 27 []),[]⟩⟩]
noncomputable def L4:LC:=⟨4,⟨4,[0,1,5],[],[]⟩,yK,kU,pre4,fn4⟩
noncomputable def H:List LC:=[L4]
noncomputable def code(i:Nat):Code:=(bE (cA Tryz.f215)).getD i .skip
theorem oY:bM E H (code 0) L4:=⟨qD,fun⟨x1,x2,x3,()⟩ hp=>aT (show L4.step E H (code 0) (x1,(x2,(x3,())))=hJ x1 x2 x3 from by kernel_rfl) (yT x1 x2 x3 hp)⟩
theorem bY:aS Tryz.prog E:=aD lN.aPz (aI gO)
theorem loops:∀c,Tryz.f215.body=some c->aH E H c:=bB (by kernel_rfl) (by kernel_rfl) fun i l h=>match i,h with
  |0,h=>Option.some.inj h▸oY
  |n+1,h=>by cases h
theorem aPy:bA Tryz.prog 215 fs:=aF bY aZ Tryz.func215 H loops fun⟨x0,x1,()⟩ hw _=>(show bC E H Tryz.f215 fs.ps fs.rs (x0,(x1,()))=aR x0 x1 from by kernel_rfl).trans (eq x0 x1 hw)
theorem aPz:cE Tryz.prog 215 fs:=⟨aPy,_,Tryz.func215,by kernel_rfl,by kernel_rfl⟩
end jA
namespace nE
noncomputable def fs:FS:=⟨[(.val eD .f),(.val eD .f)],[(.bool,.o)],fun _=>true,fun x=>((),((nE x.1 x.2.1),()))⟩
noncomputable def E:eG:=⟨aX,[(215,jA.fs)],[]⟩
noncomputable def H:List LC:=[]
theorem bY:aS Tryz.prog E:=aD jA.aPz (aI gO)
theorem loops:∀c,Tryz.f159.body=some c->aH E H c:=aO (by kernel_rfl)
theorem aPy:bA Tryz.prog 159 fs:=aF bY aZ Tryz.func159 H loops fun⟨x0,x1,()⟩ hw _=>(show bC E H Tryz.f159 fs.ps fs.rs (x0,(x1,()))=aR x0 x1 from by kernel_rfl).trans (eq x0 x1 hw)
theorem aPz:cE Tryz.prog 159 fs:=⟨aPy,_,Tryz.func159,by kernel_rfl,by kernel_rfl⟩
end nE
namespace jW
noncomputable def fs:FS:=⟨[(.val (.sl 130 eD) .f),(.val (.sl 130 eD) .f)],[(.bool,.o)],fun _=>true,fun x=>((),((jW x.1 x.2.1),()))⟩
noncomputable def E:eG:=⟨aX,[(159,nE.fs)],[]⟩
noncomputable def yK:fF:=⟨((.one (.dat (.sl 130 eD)))::(.one (.dat (.sl 130 eD)))::uu::uu::uu::ui::un 21 []),[]⟩
noncomputable def kU:List fM:=[⟨.ret,⟨0,[4],[],[]⟩,⟨(un 4 ((.one (.dat .bool))::un 22 [])),[]⟩⟩,⟨(.exit 0),⟨0,[],[],[]⟩,⟨(un 27 []),[]⟩⟩]
noncomputable def L4:LC:=⟨4,⟨4,[0,1,5],[],[]⟩,yK,kU,pre4,fn4⟩
noncomputable def H:List LC:=[L4]
noncomputable def code(i:Nat):Code:=(bE (cA Tryz.f75)).getD i .skip
theorem oY:bM E H (code 0) L4:=⟨qD,fun⟨x1,x2,x3,()⟩ hp=>aT (show L4.step E H (code 0) (x1,(x2,(x3,())))=hJ x1 x2 x3 from by kernel_rfl) (yT x1 x2 x3 hp)⟩
theorem bY:aS Tryz.prog E:=aD nE.aPz (aI gO)
theorem loops:∀c,Tryz.f75.body=some c->aH E H c:=bB (by kernel_rfl) (by kernel_rfl) fun i l h=>match i,h with
  |0,h=>Option.some.inj h▸oY
  |n+1,h=>by cases h
theorem aPy:bA Tryz.prog 75 fs:=aF bY aZ Tryz.func75 H loops fun⟨x0,x1,()⟩ hw _=>(show bC E H Tryz.f75 fs.ps fs.rs (x0,(x1,()))=aR x0 x1 from by kernel_rfl).trans (eq x0 x1 hw)
theorem aPz:cE Tryz.prog 75 fs:=⟨aPy,_,Tryz.func75,by kernel_rfl,by kernel_rfl⟩
end jW
namespace lU
noncomputable def fs:FS:=⟨[(.val (.pair (.int .i64) (.pair (.int .i64) .unit)) .f),(.val (.pair (.int .i64) (.pair (.int .i64) .unit)) .f)],[(.bool,.o)],fun _=>true,fun x=>((),((lU x.1 x.2.1),()))⟩
noncomputable def E:eG:=⟨aX,[],[]⟩
noncomputable def H:List LC:=[]
theorem bY:aS Tryz.prog E:=aI gO
theorem loops:∀c,Tryz.f231.body=some c->aH E H c:=aO (by kernel_rfl)
theorem aPy:bA Tryz.prog 231 fs:=aF bY aZ Tryz.func231 H loops fun⟨x0,x1,()⟩ hw _=>(show bC E H Tryz.f231 fs.ps fs.rs (x0,(x1,()))=aR x0 x1 from by kernel_rfl).trans (eq x0 x1 hw)
theorem aPz:cE Tryz.prog 231 fs:=⟨aPy,_,Tryz.func231,by kernel_rfl,by kernel_rfl⟩
end lU
namespace jB
noncomputable def fs:FS:=⟨[(.val (.sl 136 (.pair (.int .i64) (.pair (.int .i64) .unit))) .f),(.val (.sl 136 (.pair (.int .i64) (.pair (.int .i64) .unit))) .f)],[(.bool,.o)],fun _=>true,fun x=>((),((jB x.1 x.2.1),()))⟩
noncomputable def E:eG:=⟨aX,[(231,lU.fs)],[]⟩
noncomputable def yK:fF:=⟨((.one (.dat (.sl 136 (.pair (.int .i64) (.pair (.int .i64) .unit)))))::(.one (.dat (.sl 136 (.pair (.int .i64) (.pair (.int .i64) .unit)))))::uu::uu::uu::ui::un 21 []),[]⟩
noncomputable def kU:List fM:=[⟨.ret,⟨0,[4],[],[]⟩,⟨(un 4 ((.one (.dat .bool))::un 22 [])),[]⟩⟩,⟨(.exit 0),⟨0,[],[],[]⟩,⟨(un 27 []),[]⟩⟩]
noncomputable def L4:LC:=⟨4,⟨4,[0,1,5],[],[]⟩,yK,kU,pre4,fn4⟩
noncomputable def H:List LC:=[L4]
noncomputable def code(i:Nat):Code:=(bE (cA Tryz.f216)).getD i .skip
theorem oY:bM E H (code 0) L4:=⟨qD,fun⟨x1,x2,x3,()⟩ hp=>aT (show L4.step E H (code 0) (x1,(x2,(x3,())))=hJ x1 x2 x3 from by kernel_rfl) (yT x1 x2 x3 hp)⟩
theorem bY:aS Tryz.prog E:=aD lU.aPz (aI gO)
theorem loops:∀c,Tryz.f216.body=some c->aH E H c:=bB (by kernel_rfl) (by kernel_rfl) fun i l h=>match i,h with
  |0,h=>Option.some.inj h▸oY
  |n+1,h=>by cases h
theorem aPy:bA Tryz.prog 216 fs:=aF bY aZ Tryz.func216 H loops fun⟨x0,x1,()⟩ hw _=>(show bC E H Tryz.f216 fs.ps fs.rs (x0,(x1,()))=aR x0 x1 from by kernel_rfl).trans (eq x0 x1 hw)
theorem aPz:cE Tryz.prog 216 fs:=⟨aPy,_,Tryz.func216,by kernel_rfl,by kernel_rfl⟩
end jB
namespace kN
noncomputable def fs:FS:=⟨[(.val dY .f),(.val dY .f)],[(.bool,.o)],fun _=>true,fun x=>((),((kN x.1 x.2.1),()))⟩
noncomputable def E:eG:=⟨aX,[(216,jB.fs)],[]⟩
noncomputable def H:List LC:=[]
theorem bY:aS Tryz.prog E:=aD jB.aPz (aI gO)
theorem loops:∀c,Tryz.f160.body=some c->aH E H c:=aO (by kernel_rfl)
theorem aPy:bA Tryz.prog 160 fs:=aF bY aZ Tryz.func160 H loops fun⟨x0,x1,()⟩ hw _=>(show bC E H Tryz.f160 fs.ps fs.rs (x0,(x1,()))=aR x0 x1 from by kernel_rfl).trans (eq x0 x1 hw)
theorem aPz:cE Tryz.prog 160 fs:=⟨aPy,_,Tryz.func160,by kernel_rfl,by kernel_rfl⟩
end kN
namespace hP
noncomputable def fs:FS:=⟨[(.val (.sl 134 dY) .f),(.val (.sl 134 dY) .f)],[(.bool,.o)],fun _=>true,fun x=>((),((hP x.1 x.2.1),()))⟩
noncomputable def E:eG:=⟨aX,[(160,kN.fs)],[]⟩
noncomputable def yK:fF:=⟨((.one (.dat (.sl 134 dY)))::(.one (.dat (.sl 134 dY)))::uu::uu::uu::ui::un 21 []),[]⟩
noncomputable def kU:List fM:=[⟨.ret,⟨0,[4],[],[]⟩,⟨(un 4 ((.one (.dat .bool))::un 22 [])),[]⟩⟩,⟨(.exit 0),⟨0,[],[],[]⟩,⟨(un 27 []),[]⟩⟩]
noncomputable def L4:LC:=⟨4,⟨4,[0,1,5],[],[]⟩,yK,kU,pre4,fn4⟩
noncomputable def H:List LC:=[L4]
noncomputable def code(i:Nat):Code:=(bE (cA Tryz.f76)).getD i .skip
theorem oY:bM E H (code 0) L4:=⟨qD,fun⟨x1,x2,x3,()⟩ hp=>aT (show L4.step E H (code 0) (x1,(x2,(x3,())))=hJ x1 x2 x3 from by kernel_rfl) (yT x1 x2 x3 hp)⟩
theorem bY:aS Tryz.prog E:=aD kN.aPz (aI gO)
theorem loops:∀c,Tryz.f76.body=some c->aH E H c:=bB (by kernel_rfl) (by kernel_rfl) fun i l h=>match i,h with
  |0,h=>Option.some.inj h▸oY
  |n+1,h=>by cases h
theorem aPy:bA Tryz.prog 76 fs:=aF bY aZ Tryz.func76 H loops fun⟨x0,x1,()⟩ hw _=>(show bC E H Tryz.f76 fs.ps fs.rs (x0,(x1,()))=aR x0 x1 from by kernel_rfl).trans (eq x0 x1 hw)
theorem aPz:cE Tryz.prog 76 fs:=⟨aPy,_,Tryz.func76,by kernel_rfl,by kernel_rfl⟩
end hP
namespace eB
noncomputable def fs:FS:=⟨[(.val (.sl 3 (.int .i64)) .f),(.val (.sl 3 (.int .i64)) .f)],[(.bool,.o)],fun _=>true,fun x=>((),((eB x.1 x.2.1),()))⟩
noncomputable def E:eG:=⟨aX,[],[]⟩
noncomputable def yK:fF:=⟨((.one (.dat (.sl 3 (.int .i64))))::(.one (.dat (.sl 3 (.int .i64))))::uu::uu::uu::ui::un 20 []),[]⟩
noncomputable def kU:List fM:=[⟨.ret,⟨0,[4],[],[]⟩,⟨(un 4 ((.one (.dat .bool))::un 21 [])),[]⟩⟩,⟨(.exit 0),⟨0,[],[],[]⟩,⟨(un 26 []),[]⟩⟩]
noncomputable def L4:LC:=⟨4,⟨4,[0,1,5],[],[]⟩,yK,kU,pre4,fn4⟩
noncomputable def H:List LC:=[L4]
noncomputable def code(i:Nat):Code:=(bE (cA Tryz.f78)).getD i .skip
theorem oY:bM E H (code 0) L4:=⟨qD,fun⟨x1,x2,x3,()⟩ hp=>aT (show L4.step E H (code 0) (x1,(x2,(x3,())))=hJ x1 x2 x3 from by kernel_rfl) (yT x1 x2 x3 hp)⟩
theorem bY:aS Tryz.prog E:=aI gO
theorem loops:∀c,Tryz.f78.body=some c->aH E H c:=bB (by kernel_rfl) (by kernel_rfl) fun i l h=>match i,h with
  |0,h=>Option.some.inj h▸oY
  |n+1,h=>by cases h
theorem aPy:bA Tryz.prog 78 fs:=aF bY aZ Tryz.func78 H loops fun⟨x0,x1,()⟩ hw _=>(show bC E H Tryz.f78 fs.ps fs.rs (x0,(x1,()))=aR x0 x1 from by kernel_rfl).trans (eq x0 x1 hw)
theorem aPz:cE Tryz.prog 78 fs:=⟨aPy,_,Tryz.func78,by kernel_rfl,by kernel_rfl⟩
end eB
namespace kJ
noncomputable def fs:FS:=⟨[(.val cW .f),(.val cW .f)],[(.bool,.o)],fun _=>true,fun x=>((),((kJ x.1 x.2.1),()))⟩
noncomputable def E:eG:=⟨aX,[(78,eB.fs)],[]⟩
noncomputable def H:List LC:=[]
theorem bY:aS Tryz.prog E:=aD eB.aPz (aI gO)
theorem loops:∀c,Tryz.f161.body=some c->aH E H c:=aO (by kernel_rfl)
theorem aPy:bA Tryz.prog 161 fs:=aF bY aZ Tryz.func161 H loops fun⟨x0,x1,()⟩ hw _=>(show bC E H Tryz.f161 fs.ps fs.rs (x0,(x1,()))=aR x0 x1 from by kernel_rfl).trans (eq x0 x1 hw)
theorem aPz:cE Tryz.prog 161 fs:=⟨aPy,_,Tryz.func161,by kernel_rfl,by kernel_rfl⟩
end kJ
namespace hY
noncomputable def fs:FS:=⟨[(.val (.sl 95 cW) .f),(.val (.sl 95 cW) .f)],[(.bool,.o)],fun _=>true,fun x=>((),((hY x.1 x.2.1),()))⟩
noncomputable def E:eG:=⟨aX,[(161,kJ.fs)],[]⟩
noncomputable def yK:fF:=⟨((.one (.dat (.sl 95 cW)))::(.one (.dat (.sl 95 cW)))::uu::uu::uu::ui::un 21 []),[]⟩
noncomputable def kU:List fM:=[⟨.ret,⟨0,[4],[],[]⟩,⟨(un 4 ((.one (.dat .bool))::un 22 [])),[]⟩⟩,⟨(.exit 0),⟨0,[],[],[]⟩,⟨(un 27 []),[]⟩⟩]
noncomputable def L4:LC:=⟨4,⟨4,[0,1,5],[],[]⟩,yK,kU,pre4,fn4⟩
noncomputable def H:List LC:=[L4]
noncomputable def code(i:Nat):Code:=(bE (cA Tryz.f77)).getD i .skip
theorem oY:bM E H (code 0) L4:=⟨qD,fun⟨x1,x2,x3,()⟩ hp=>aT (show L4.step E H (code 0) (x1,(x2,(x3,())))=hJ x1 x2 x3 from by kernel_rfl) (yT x1 x2 x3 hp)⟩
theorem bY:aS Tryz.prog E:=aD kJ.aPz (aI gO)
theorem loops:∀c,Tryz.f77.body=some c->aH E H c:=bB (by kernel_rfl) (by kernel_rfl) fun i l h=>match i,h with
  |0,h=>Option.some.inj h▸oY
  |n+1,h=>by cases h
theorem aPy:bA Tryz.prog 77 fs:=aF bY aZ Tryz.func77 H loops fun⟨x0,x1,()⟩ hw _=>(show bC E H Tryz.f77 fs.ps fs.rs (x0,(x1,()))=aR x0 x1 from by kernel_rfl).trans (eq x0 x1 hw)
theorem aPz:cE Tryz.prog 77 fs:=⟨aPy,_,Tryz.func77,by kernel_rfl,by kernel_rfl⟩
end hY
namespace jM
noncomputable def fs:FS:=⟨[(.val dL .f),(.val dL .f)],[(.bool,.o)],fun _=>true,fun x=>((),((jM x.1 x.2.1),()))⟩
noncomputable def E:eG:=⟨aX,[],[]⟩
noncomputable def H:List LC:=[]
theorem bY:aS Tryz.prog E:=aI gO
theorem loops:∀c,Tryz.f162.body=some c->aH E H c:=aO (by kernel_rfl)
theorem aPy:bA Tryz.prog 162 fs:=aF bY aZ Tryz.func162 H loops fun⟨x0,x1,()⟩ hw _=>(show bC E H Tryz.f162 fs.ps fs.rs (x0,(x1,()))=aR x0 x1 from by kernel_rfl).trans (eq x0 x1 hw)
theorem aPz:cE Tryz.prog 162 fs:=⟨aPy,_,Tryz.func162,by kernel_rfl,by kernel_rfl⟩
end jM
namespace gF
noncomputable def fs:FS:=⟨[(.val (.sl 138 dL) .f),(.val (.sl 138 dL) .f)],[(.bool,.o)],fun _=>true,fun x=>((),((gF x.1 x.2.1),()))⟩
noncomputable def E:eG:=⟨aX,[(162,jM.fs)],[]⟩
noncomputable def yK:fF:=⟨((.one (.dat (.sl 138 dL)))::(.one (.dat (.sl 138 dL)))::uu::uu::uu::ui::un 21 []),[]⟩
noncomputable def kU:List fM:=[⟨.ret,⟨0,[4],[],[]⟩,⟨(un 4 ((.one (.dat .bool))::un 22 [])),[]⟩⟩,⟨(.exit 0),⟨0,[],[],[]⟩,⟨(un 27 []),[]⟩⟩]
noncomputable def L4:LC:=⟨4,⟨4,[0,1,5],[],[]⟩,yK,kU,pre4,fn4⟩
noncomputable def H:List LC:=[L4]
noncomputable def code(i:Nat):Code:=(bE (cA Tryz.f79)).getD i .skip
theorem oY:bM E H (code 0) L4:=⟨qD,fun⟨x1,x2,x3,()⟩ hp=>aT (show L4.step E H (code 0) (x1,(x2,(x3,())))=hJ x1 x2 x3 from by kernel_rfl) (yT x1 x2 x3 hp)⟩
theorem bY:aS Tryz.prog E:=aD jM.aPz (aI gO)
theorem loops:∀c,Tryz.f79.body=some c->aH E H c:=bB (by kernel_rfl) (by kernel_rfl) fun i l h=>match i,h with
  |0,h=>Option.some.inj h▸oY
  |n+1,h=>by cases h
theorem aPy:bA Tryz.prog 79 fs:=aF bY aZ Tryz.func79 H loops fun⟨x0,x1,()⟩ hw _=>(show bC E H Tryz.f79 fs.ps fs.rs (x0,(x1,()))=aR x0 x1 from by kernel_rfl).trans (eq x0 x1 hw)
theorem aPz:cE Tryz.prog 79 fs:=⟨aPy,_,Tryz.func79,by kernel_rfl,by kernel_rfl⟩
end gF
namespace lS
noncomputable def fs:FS:=⟨[(.val bT .f),(.val bT .f)],[(.bool,.o)],fun _=>true,fun x=>((),((lS x.1 x.2.1),()))⟩
noncomputable def E:eG:=⟨aX,[(75,jW.fs),(76,hP.fs),(78,eB.fs),(77,hY.fs),(79,gF.fs)],[]⟩
noncomputable def H:List LC:=[]
theorem bY:aS Tryz.prog E:=aD jW.aPz (aD hP.aPz (aD eB.aPz (aD hY.aPz (aD gF.aPz (aI gO)))))
theorem loops:∀c,Tryz.f33.body=some c->aH E H c:=aO (by kernel_rfl)
theorem aPy:bA Tryz.prog 33 fs:=aF bY aZ Tryz.func33 H loops fun⟨x0,x1,()⟩ hw _=>(show bC E H Tryz.f33 fs.ps fs.rs (x0,(x1,()))=aR x0 x1 from by kernel_rfl).trans (eq x0 x1 hw)
theorem aPz:cE Tryz.prog 33 fs:=⟨aPy,_,Tryz.func33,by kernel_rfl,by kernel_rfl⟩
end lS
namespace lW
noncomputable def fs:FS:=⟨[(.val iJ .f),(.val iJ .f)],[(.bool,.o)],fun _=>true,fun x=>((),((lW x.1 x.2.1),()))⟩
noncomputable def E:eG:=⟨aX,[(32,nB.fs),(33,lS.fs)],[]⟩
noncomputable def H:List LC:=[]
theorem bY:aS Tryz.prog E:=aD nB.aPz (aD lS.aPz (aI gO))
theorem loops:∀c,Tryz.f9.body=some c->aH E H c:=aO (by kernel_rfl)
theorem aPy:bA Tryz.prog 9 fs:=aF bY aZ Tryz.func9 H loops fun⟨x0,x1,()⟩ hw _=>(show bC E H Tryz.f9 fs.ps fs.rs (x0,(x1,()))=aR x0 x1 from by kernel_rfl).trans (eq x0 x1 hw)
theorem aPz:cE Tryz.prog 9 fs:=⟨aPy,_,Tryz.func9,by kernel_rfl,by kernel_rfl⟩
end lW
namespace jS
noncomputable def fs:FS:=⟨[(.val (.sl 5 (.int .u8)) .f),(.val (.sl 5 (.int .u8)) .f)],[(.bool,.o)],fun _=>true,fun x=>((),((jS x.1 x.2.1),()))⟩
noncomputable def E:eG:=⟨aX,[],[]⟩
noncomputable def yK:fF:=⟨((.one (.dat (.sl 5 (.int .u8))))::(.one (.dat (.sl 5 (.int .u8))))::uu::uu::uu::ui::un 20 []),[]⟩
noncomputable def kU:List fM:=[⟨.ret,⟨0,[4],[],[]⟩,⟨(un 4 ((.one (.dat .bool))::un 21 [])),[]⟩⟩,⟨(.exit 0),⟨0,[],[],[]⟩,⟨(un 26 []),[]⟩⟩]
noncomputable def L4:LC:=⟨4,⟨4,[0,1,5],[],[]⟩,yK,kU,pre4,fn4⟩
noncomputable def H:List LC:=[L4]
noncomputable def code(i:Nat):Code:=(bE (cA Tryz.f10)).getD i .skip
theorem oY:bM E H (code 0) L4:=⟨qD,fun⟨x1,x2,x3,()⟩ hp=>aT (show L4.step E H (code 0) (x1,(x2,(x3,())))=hJ x1 x2 x3 from by kernel_rfl) (yT x1 x2 x3 hp)⟩
theorem bY:aS Tryz.prog E:=aI gO
theorem loops:∀c,Tryz.f10.body=some c->aH E H c:=bB (by kernel_rfl) (by kernel_rfl) fun i l h=>match i,h with
  |0,h=>Option.some.inj h▸oY
  |n+1,h=>by cases h
theorem aPy:bA Tryz.prog 10 fs:=aF bY aZ Tryz.func10 H loops fun⟨x0,x1,()⟩ hw _=>(show bC E H Tryz.f10 fs.ps fs.rs (x0,(x1,()))=aR x0 x1 from by kernel_rfl).trans (eq x0 x1 hw)
theorem aPz:cE Tryz.prog 10 fs:=⟨aPy,_,Tryz.func10,by kernel_rfl,by kernel_rfl⟩
end jS
namespace eH
noncomputable def fs:FS:=⟨[(.mut (.sl 5 (.int .u8))),(.val (.int .i64) .f)],[((.int .i64),.o)],fun x=>eH.pre x.1 x.2.1,fun x=>(((eH x.1 x.2.1).1,()),((eH x.1 x.2.1).2,()))⟩
noncomputable def E:eG:=⟨aX,[],[]⟩
noncomputable def qE:fF:=⟨((.one (.arr 40000001))::ui::uu::uu::uu::ui::un 14 []),[(40000001,(.arr 5 (.int .u8)))]⟩
noncomputable def eK:List fM:=[⟨(.exit 0),⟨0,[1,0],[],[]⟩,⟨((.one (.arr 40000001))::ui::un 18 []),[(40000001,(.arr 5 (.int .u8)))]⟩⟩]
noncomputable def L2:LC:=⟨2,⟨2,[0,1,5],[],[]⟩,qE,eK,pre2,fn2⟩
noncomputable def H:List LC:=[L2]
noncomputable def code(i:Nat):Code:=(bE (cA Tryz.f11)).getD i .skip
theorem jD:bM E H (code 0) L2:=⟨kX,fun⟨x1,x2,x3,()⟩ hp=>aT (show L2.step E H (code 0) (x1,(x2,(x3,())))=cU x1 x2 x3 from by kernel_rfl) (qG x1 x2 x3 hp)⟩
theorem bY:aS Tryz.prog E:=aI gO
theorem loops:∀c,Tryz.f11.body=some c->aH E H c:=bB (by kernel_rfl) (by kernel_rfl) fun i l h=>match i,h with
  |0,h=>Option.some.inj h▸jD
  |n+1,h=>by cases h
theorem aPy:bA Tryz.prog 11 fs:=aF bY aZ Tryz.func11 H loops fun⟨x0,x1,()⟩ hw hp=>(show bC E H Tryz.f11 fs.ps fs.rs (x0,(x1,()))=aR x0 x1 from by kernel_rfl).trans (eq x0 x1 hw hp)
theorem aPz:cE Tryz.prog 11 fs:=⟨aPy,_,Tryz.func11,by kernel_rfl,by kernel_rfl⟩
end eH
namespace aE
noncomputable def fs:FS:=⟨[(.val (.int .i64) .f)],[(.str,.o)],fun x=>aE.pre x.1,fun x=>((),((aE x.1),()))⟩
noncomputable def E:eG:=⟨aX,[],[]⟩
noncomputable def yK:fF:=⟨(ui::uu::uu::(.one (.dat .str))::un 16 []),[]⟩
noncomputable def kU:List fM:=[⟨(.exit 0),⟨0,[3],[],[]⟩,⟨(uu::uu::uu::(.one (.dat .str))::un 16 []),[]⟩⟩]
noncomputable def L4:LC:=⟨4,⟨4,[0,3],[],[]⟩,yK,kU,pre4,fn4⟩
noncomputable def H:List LC:=[L4]
noncomputable def code(i:Nat):Code:=(bE (cA Tryz.f163)).getD i .skip
theorem oY:bM E H (code 0) L4:=⟨qD,fun⟨x1,x2,()⟩ hp=>aT (show L4.step E H (code 0) (x1,(x2,()))=hJ x1 x2 from by kernel_rfl) (yT x1 x2 hp)⟩
theorem bY:aS Tryz.prog E:=aI gO
theorem loops:∀c,Tryz.f163.body=some c->aH E H c:=bB (by kernel_rfl) (by kernel_rfl) fun i l h=>match i,h with
  |0,h=>Option.some.inj h▸oY
  |n+1,h=>by cases h
theorem aPy:bA Tryz.prog 163 fs:=aF bY aZ Tryz.func163 H loops fun⟨x0,()⟩ hw hp=>(show bC E H Tryz.f163 fs.ps fs.rs (x0,())=aR x0 from by kernel_rfl).trans (eq x0 hw hp)
theorem aPz:cE Tryz.prog 163 fs:=⟨aPy,_,Tryz.func163,by kernel_rfl,by kernel_rfl⟩
end aE
namespace cB
noncomputable def lD:List (Nat×uG):=[(40000001,(.arr 122 jH))]
noncomputable def fs:FS:=⟨[(.mut (.sl 122 jH)),(.val (.int .i64) .f)],[((.int .i64),.o)],fun x=>cB.pre x.1 x.2.1,fun x=>(((cB x.1 x.2.1).1,()),((cB x.1 x.2.1).2,()))⟩
noncomputable def E:eG:=⟨aX,[(163,aE.fs)],[]⟩
noncomputable def qE:fF:=⟨((.one (.arr 40000001))::ui::uu::uu::uu::ui::un 80 []),lD⟩
noncomputable def eK:List fM:=[⟨(.exit 0),⟨0,[1,0],[],[]⟩,⟨((.one (.arr 40000001))::ui::un 84 []),lD⟩⟩]
noncomputable def L2:LC:=⟨2,⟨2,[0,1,5],[],[]⟩,qE,eK,pre2,fn2⟩
noncomputable def H:List LC:=[L2]
noncomputable def code(i:Nat):Code:=(bE (cA Tryz.f80)).getD i .skip
theorem jD:bM E H (code 0) L2:=⟨kX,fun⟨x1,x2,x3,()⟩ hp=>aT (show L2.step E H (code 0) (x1,(x2,(x3,())))=cU x1 x2 x3 from by kernel_rfl) (qG x1 x2 x3 hp)⟩
theorem bY:aS Tryz.prog E:=aD aE.aPz (aI gO)
theorem loops:∀c,Tryz.f80.body=some c->aH E H c:=bB (by kernel_rfl) (by kernel_rfl) fun i l h=>match i,h with
  |0,h=>Option.some.inj h▸jD
  |n+1,h=>by cases h
theorem aPy:bA Tryz.prog 80 fs:=aF bY aZ Tryz.func80 H loops fun⟨x0,x1,()⟩ hw hp=>(show bC E H Tryz.f80 fs.ps fs.rs (x0,(x1,()))=aR x0 x1 from by kernel_rfl).trans (eq x0 x1 hw hp)
theorem aPz:cE Tryz.prog 80 fs:=⟨aPy,_,Tryz.func80,by kernel_rfl,by kernel_rfl⟩
end cB
namespace gW
noncomputable def fs:FS:=⟨[(.mut iW),(.val (.int .i64) .f)],[((.int .i64),.o)],fun x=>gW.pre x.1 x.2.1,fun x=>(((gW x.1 x.2.1).1,()),((gW x.1 x.2.1).2,()))⟩
noncomputable def E:eG:=⟨aX,[(80,cB.fs)],[]⟩
noncomputable def H:List LC:=[]
theorem bY:aS Tryz.prog E:=aD cB.aPz (aI gO)
theorem loops:∀c,Tryz.f34.body=some c->aH E H c:=aO (by kernel_rfl)
theorem aPy:bA Tryz.prog 34 fs:=aF bY aZ Tryz.func34 H loops fun⟨x0,x1,()⟩ hw hp=>(show bC E H Tryz.f34 fs.ps fs.rs (x0,(x1,()))=aR x0 x1 from by kernel_rfl).trans (eq x0 x1 hw hp)
theorem aPz:cE Tryz.prog 34 fs:=⟨aPy,_,Tryz.func34,by kernel_rfl,by kernel_rfl⟩
end gW
namespace eI
noncomputable def lD:List (Nat×uG):=[(40000001,(.arr 195 pN))]
noncomputable def fs:FS:=⟨[(.mut (.sl 195 pN)),(.val (.int .i64) .f)],[((.int .i64),.o)],fun x=>eI.pre x.1 x.2.1,fun x=>(((eI x.1 x.2.1).1,()),((eI x.1 x.2.1).2,()))⟩
noncomputable def E:eG:=⟨aX,[(163,aE.fs)],[]⟩
noncomputable def qE:fF:=⟨((.one (.arr 40000001))::ui::uu::uu::uu::ui::un 44 []),lD⟩
noncomputable def eK:List fM:=[⟨(.exit 0),⟨0,[1,0],[],[]⟩,⟨((.one (.arr 40000001))::ui::un 48 []),lD⟩⟩]
noncomputable def L2:LC:=⟨2,⟨2,[0,1,5],[],[]⟩,qE,eK,pre2,fn2⟩
noncomputable def H:List LC:=[L2]
noncomputable def code(i:Nat):Code:=(bE (cA Tryz.f164)).getD i .skip
theorem jD:bM E H (code 0) L2:=⟨kX,fun⟨x1,x2,x3,()⟩ hp=>aT (show L2.step E H (code 0) (x1,(x2,(x3,())))=cU x1 x2 x3 from by kernel_rfl) (qG x1 x2 x3 hp)⟩
theorem bY:aS Tryz.prog E:=aD aE.aPz (aI gO)
theorem loops:∀c,Tryz.f164.body=some c->aH E H c:=bB (by kernel_rfl) (by kernel_rfl) fun i l h=>match i,h with
  |0,h=>Option.some.inj h▸jD
  |n+1,h=>by cases h
theorem aPy:bA Tryz.prog 164 fs:=aF bY aZ Tryz.func164 H loops fun⟨x0,x1,()⟩ hw hp=>(show bC E H Tryz.f164 fs.ps fs.rs (x0,(x1,()))=aR x0 x1 from by kernel_rfl).trans (eq x0 x1 hw hp)
theorem aPz:cE Tryz.prog 164 fs:=⟨aPy,_,Tryz.func164,by kernel_rfl,by kernel_rfl⟩
end eI
namespace fE
noncomputable def lD:List (Nat×uG):=[(40000001,(.arr 130 eD))]
noncomputable def fs:FS:=⟨[(.mut (.sl 130 eD)),(.val (.int .i64) .f)],[((.int .i64),.o)],fun x=>fE.pre x.1 x.2.1,fun x=>(((fE x.1 x.2.1).1,()),((fE x.1 x.2.1).2,()))⟩
noncomputable def E:eG:=⟨aX,[(164,eI.fs)],[]⟩
noncomputable def qE:fF:=⟨((.one (.arr 40000001))::ui::uu::uu::uu::ui::un 28 []),lD⟩
noncomputable def eK:List fM:=[⟨(.exit 0),⟨0,[1,0],[],[]⟩,⟨((.one (.arr 40000001))::ui::un 32 []),lD⟩⟩]
noncomputable def L2:LC:=⟨2,⟨2,[0,1,5],[],[]⟩,qE,eK,pre2,fn2⟩
noncomputable def H:List LC:=[L2]
noncomputable def code(i:Nat):Code:=(bE (cA Tryz.f81)).getD i .skip
theorem jD:bM E H (code 0) L2:=⟨kX,fun⟨x1,x2,x3,()⟩ hp=>aT (show L2.step E H (code 0) (x1,(x2,(x3,())))=cU x1 x2 x3 from by kernel_rfl) (qG x1 x2 x3 hp)⟩
theorem bY:aS Tryz.prog E:=aD eI.aPz (aI gO)
theorem loops:∀c,Tryz.f81.body=some c->aH E H c:=bB (by kernel_rfl) (by kernel_rfl) fun i l h=>match i,h with
  |0,h=>Option.some.inj h▸jD
  |n+1,h=>by cases h
theorem aPy:bA Tryz.prog 81 fs:=aF bY aZ Tryz.func81 H loops fun⟨x0,x1,()⟩ hw hp=>(show bC E H Tryz.f81 fs.ps fs.rs (x0,(x1,()))=aR x0 x1 from by kernel_rfl).trans (eq x0 x1 hw hp)
theorem aPz:cE Tryz.prog 81 fs:=⟨aPy,_,Tryz.func81,by kernel_rfl,by kernel_rfl⟩
end fE
namespace eJ
noncomputable def lD:List (Nat×uG):=[(40000001,(.arr 136 (.pair (.int .i64) (.pair (.int .i64) .unit))))]
noncomputable def fs:FS:=⟨[(.mut (.sl 136 (.pair (.int .i64) (.pair (.int .i64) .unit)))),(.val (.int .i64) .f)],[((.int .i64),.o)],fun x=>eJ.pre x.1 x.2.1,fun x=>(((eJ x.1 x.2.1).1,()),((eJ x.1 x.2.1).2,()))⟩
noncomputable def E:eG:=⟨aX,[],[]⟩
noncomputable def qE:fF:=⟨((.one (.arr 40000001))::ui::uu::uu::uu::ui::un 21 []),lD⟩
noncomputable def eK:List fM:=[⟨(.exit 0),⟨0,[1,0],[],[]⟩,⟨((.one (.arr 40000001))::ui::un 25 []),lD⟩⟩]
noncomputable def L2:LC:=⟨2,⟨2,[0,1,5],[],[]⟩,qE,eK,pre2,fn2⟩
noncomputable def H:List LC:=[L2]
noncomputable def code(i:Nat):Code:=(bE (cA Tryz.f165)).getD i .skip
theorem jD:bM E H (code 0) L2:=⟨kX,fun⟨x1,x2,x3,()⟩ hp=>aT (show L2.step E H (code 0) (x1,(x2,(x3,())))=cU x1 x2 x3 from by kernel_rfl) (qG x1 x2 x3 hp)⟩
theorem bY:aS Tryz.prog E:=aI gO
theorem loops:∀c,Tryz.f165.body=some c->aH E H c:=bB (by kernel_rfl) (by kernel_rfl) fun i l h=>match i,h with
  |0,h=>Option.some.inj h▸jD
  |n+1,h=>by cases h
theorem aPy:bA Tryz.prog 165 fs:=aF bY aZ Tryz.func165 H loops fun⟨x0,x1,()⟩ hw hp=>(show bC E H Tryz.f165 fs.ps fs.rs (x0,(x1,()))=aR x0 x1 from by kernel_rfl).trans (eq x0 x1 hw hp)
theorem aPz:cE Tryz.prog 165 fs:=⟨aPy,_,Tryz.func165,by kernel_rfl,by kernel_rfl⟩
end eJ
namespace dS
noncomputable def lD:List (Nat×uG):=[(40000001,(.arr 134 dY))]
noncomputable def fs:FS:=⟨[(.mut (.sl 134 dY)),(.val (.int .i64) .f)],[((.int .i64),.o)],fun x=>dS.pre x.1 x.2.1,fun x=>(((dS x.1 x.2.1).1,()),((dS x.1 x.2.1).2,()))⟩
noncomputable def E:eG:=⟨aX,[(165,eJ.fs)],[]⟩
noncomputable def qE:fF:=⟨((.one (.arr 40000001))::ui::uu::uu::uu::ui::un 42 []),lD⟩
noncomputable def eK:List fM:=[⟨(.exit 0),⟨0,[1,0],[],[]⟩,⟨((.one (.arr 40000001))::ui::un 46 []),lD⟩⟩]
noncomputable def L2:LC:=⟨2,⟨2,[0,1,5],[],[]⟩,qE,eK,pre2,fn2⟩
noncomputable def H:List LC:=[L2]
noncomputable def code(i:Nat):Code:=(bE (cA Tryz.f82)).getD i .skip
theorem jD:bM E H (code 0) L2:=⟨kX,fun⟨x1,x2,x3,()⟩ hp=>aT (show L2.step E H (code 0) (x1,(x2,(x3,())))=cU x1 x2 x3 from by kernel_rfl) (qG x1 x2 x3 hp)⟩
theorem bY:aS Tryz.prog E:=aD eJ.aPz (aI gO)
theorem loops:∀c,Tryz.f82.body=some c->aH E H c:=bB (by kernel_rfl) (by kernel_rfl) fun i l h=>match i,h with
  |0,h=>Option.some.inj h▸jD
  |n+1,h=>by cases h
theorem aPy:bA Tryz.prog 82 fs:=aF bY aZ Tryz.func82 H loops fun⟨x0,x1,()⟩ hw hp=>(show bC E H Tryz.f82 fs.ps fs.rs (x0,(x1,()))=aR x0 x1 from by kernel_rfl).trans (eq x0 x1 hw hp)
theorem aPz:cE Tryz.prog 82 fs:=⟨aPy,_,Tryz.func82,by kernel_rfl,by kernel_rfl⟩
end dS
namespace bQ
noncomputable def fs:FS:=⟨[(.mut (.sl 3 (.int .i64))),(.val (.int .i64) .f)],[((.int .i64),.o)],fun x=>bQ.pre x.1 x.2.1,fun x=>(((bQ x.1 x.2.1).1,()),((bQ x.1 x.2.1).2,()))⟩
noncomputable def E:eG:=⟨aX,[],[]⟩
noncomputable def qE:fF:=⟨((.one (.arr 40000001))::ui::uu::uu::uu::ui::un 13 []),[(40000001,(.arr 3 (.int .i64)))]⟩
noncomputable def eK:List fM:=[⟨(.exit 0),⟨0,[1,0],[],[]⟩,⟨((.one (.arr 40000001))::ui::un 17 []),[(40000001,(.arr 3 (.int .i64)))]⟩⟩]
noncomputable def L2:LC:=⟨2,⟨2,[0,1,5],[],[]⟩,qE,eK,pre2,fn2⟩
noncomputable def H:List LC:=[L2]
noncomputable def code(i:Nat):Code:=(bE (cA Tryz.f84)).getD i .skip
theorem jD:bM E H (code 0) L2:=⟨kX,fun⟨x1,x2,x3,()⟩ hp=>aT (show L2.step E H (code 0) (x1,(x2,(x3,())))=cU x1 x2 x3 from by kernel_rfl) (qG x1 x2 x3 hp)⟩
theorem bY:aS Tryz.prog E:=aI gO
theorem loops:∀c,Tryz.f84.body=some c->aH E H c:=bB (by kernel_rfl) (by kernel_rfl) fun i l h=>match i,h with
  |0,h=>Option.some.inj h▸jD
  |n+1,h=>by cases h
theorem aPy:bA Tryz.prog 84 fs:=aF bY aZ Tryz.func84 H loops fun⟨x0,x1,()⟩ hw hp=>(show bC E H Tryz.f84 fs.ps fs.rs (x0,(x1,()))=aR x0 x1 from by kernel_rfl).trans (eq x0 x1 hw hp)
theorem aPz:cE Tryz.prog 84 fs:=⟨aPy,_,Tryz.func84,by kernel_rfl,by kernel_rfl⟩
end bQ
namespace dR
noncomputable def lD:List (Nat×uG):=[(40000001,(.arr 95 cW))]
noncomputable def fs:FS:=⟨[(.mut (.sl 95 cW)),(.val (.int .i64) .f)],[((.int .i64),.o)],fun x=>dR.pre x.1 x.2.1,fun x=>(((dR x.1 x.2.1).1,()),((dR x.1 x.2.1).2,()))⟩
noncomputable def E:eG:=⟨aX,[(84,bQ.fs)],[]⟩
noncomputable def qE:fF:=⟨((.one (.arr 40000001))::ui::uu::uu::uu::ui::un 35 []),lD⟩
noncomputable def eK:List fM:=[⟨(.exit 0),⟨0,[1,0],[],[]⟩,⟨((.one (.arr 40000001))::ui::un 39 []),lD⟩⟩]
noncomputable def L2:LC:=⟨2,⟨2,[0,1,5],[],[]⟩,qE,eK,pre2,fn2⟩
noncomputable def H:List LC:=[L2]
noncomputable def code(i:Nat):Code:=(bE (cA Tryz.f83)).getD i .skip
theorem jD:bM E H (code 0) L2:=⟨kX,fun⟨x1,x2,x3,()⟩ hp=>aT (show L2.step E H (code 0) (x1,(x2,(x3,())))=cU x1 x2 x3 from by kernel_rfl) (qG x1 x2 x3 hp)⟩
theorem bY:aS Tryz.prog E:=aD bQ.aPz (aI gO)
theorem loops:∀c,Tryz.f83.body=some c->aH E H c:=bB (by kernel_rfl) (by kernel_rfl) fun i l h=>match i,h with
  |0,h=>Option.some.inj h▸jD
  |n+1,h=>by cases h
theorem aPy:bA Tryz.prog 83 fs:=aF bY aZ Tryz.func83 H loops fun⟨x0,x1,()⟩ hw hp=>(show bC E H Tryz.f83 fs.ps fs.rs (x0,(x1,()))=aR x0 x1 from by kernel_rfl).trans (eq x0 x1 hw hp)
theorem aPz:cE Tryz.prog 83 fs:=⟨aPy,_,Tryz.func83,by kernel_rfl,by kernel_rfl⟩
end dR
namespace dE
noncomputable def lD:List (Nat×uG):=[(40000001,(.arr 138 dL))]
noncomputable def fs:FS:=⟨[(.mut (.sl 138 dL)),(.val (.int .i64) .f)],[((.int .i64),.o)],fun x=>dE.pre x.1 x.2.1,fun x=>(((dE x.1 x.2.1).1,()),((dE x.1 x.2.1).2,()))⟩
noncomputable def E:eG:=⟨aX,[(163,aE.fs)],[]⟩
noncomputable def qE:fF:=⟨((.one (.arr 40000001))::ui::uu::uu::uu::ui::un 37 []),lD⟩
noncomputable def eK:List fM:=[⟨(.exit 0),⟨0,[1,0],[],[]⟩,⟨((.one (.arr 40000001))::ui::un 41 []),lD⟩⟩]
noncomputable def L2:LC:=⟨2,⟨2,[0,1,5],[],[]⟩,qE,eK,pre2,fn2⟩
noncomputable def H:List LC:=[L2]
noncomputable def code(i:Nat):Code:=(bE (cA Tryz.f85)).getD i .skip
theorem jD:bM E H (code 0) L2:=⟨kX,fun⟨x1,x2,x3,()⟩ hp=>aT (show L2.step E H (code 0) (x1,(x2,(x3,())))=cU x1 x2 x3 from by kernel_rfl) (qG x1 x2 x3 hp)⟩
theorem bY:aS Tryz.prog E:=aD aE.aPz (aI gO)
theorem loops:∀c,Tryz.f85.body=some c->aH E H c:=bB (by kernel_rfl) (by kernel_rfl) fun i l h=>match i,h with
  |0,h=>Option.some.inj h▸jD
  |n+1,h=>by cases h
theorem aPy:bA Tryz.prog 85 fs:=aF bY aZ Tryz.func85 H loops fun⟨x0,x1,()⟩ hw hp=>(show bC E H Tryz.f85 fs.ps fs.rs (x0,(x1,()))=aR x0 x1 from by kernel_rfl).trans (eq x0 x1 hw hp)
theorem aPz:cE Tryz.prog 85 fs:=⟨aPy,_,Tryz.func85,by kernel_rfl,by kernel_rfl⟩
end dE
namespace fC
noncomputable def fs:FS:=⟨[(.mut bT),(.val (.int .i64) .f)],[((.int .i64),.o)],fun x=>fC.pre x.1 x.2.1,fun x=>(((fC x.1 x.2.1).1,()),((fC x.1 x.2.1).2,()))⟩
noncomputable def E:eG:=⟨aX,[(81,fE.fs),(82,dS.fs),(84,bQ.fs),(83,dR.fs),(85,dE.fs)],[]⟩
noncomputable def H:List LC:=[]
theorem bY:aS Tryz.prog E:=aD fE.aPz (aD dS.aPz (aD bQ.aPz (aD dR.aPz (aD dE.aPz (aI gO)))))
theorem loops:∀c,Tryz.f35.body=some c->aH E H c:=aO (by kernel_rfl)
theorem aPy:bA Tryz.prog 35 fs:=aF bY aZ Tryz.func35 H loops fun⟨x0,x1,()⟩ hw hp=>(show bC E H Tryz.f35 fs.ps fs.rs (x0,(x1,()))=aR x0 x1 from by kernel_rfl).trans (eq x0 x1 hw hp)
theorem aPz:cE Tryz.prog 35 fs:=⟨aPy,_,Tryz.func35,by kernel_rfl,by kernel_rfl⟩
end fC
namespace fD
noncomputable def fs:FS:=⟨[(.mut iJ),(.val (.int .i64) .f)],[((.int .i64),.o)],fun x=>fD.pre x.1 x.2.1,fun x=>(((fD x.1 x.2.1).1,()),((fD x.1 x.2.1).2,()))⟩
noncomputable def E:eG:=⟨aX,[(34,gW.fs),(35,fC.fs)],[]⟩
noncomputable def H:List LC:=[]
theorem bY:aS Tryz.prog E:=aD gW.aPz (aD fC.aPz (aI gO))
theorem loops:∀c,Tryz.f12.body=some c->aH E H c:=aO (by kernel_rfl)
theorem aPy:bA Tryz.prog 12 fs:=aF bY aZ Tryz.func12 H loops fun⟨x0,x1,()⟩ hw hp=>(show bC E H Tryz.f12 fs.ps fs.rs (x0,(x1,()))=aR x0 x1 from by kernel_rfl).trans (eq x0 x1 hw hp)
theorem aPz:cE Tryz.prog 12 fs:=⟨aPy,_,Tryz.func12,by kernel_rfl,by kernel_rfl⟩
end fD
namespace cX
noncomputable def fs:FS:=⟨[(.val (.sl 122 jH) .f),(.val (.int .i64) .f)],[((.int .i64),.o)],fun x=>cX.pre x.1 x.2.1,fun x=>((),((cX x.1 x.2.1),()))⟩
noncomputable def E:eG:=⟨aX,[(163,aE.fs)],[]⟩
noncomputable def qE:fF:=⟨((.one (.dat (.sl 122 jH)))::ui::uu::uu::uu::ui::un 98 []),[]⟩
noncomputable def eK:List fM:=[⟨.ret,⟨0,[4],[],[]⟩,⟨(un 4 (ui::un 99 [])),[]⟩⟩,⟨(.exit 0),⟨0,[1],[],[]⟩,⟨(uu::ui::un 102 []),[]⟩⟩]
noncomputable def L2:LC:=⟨2,⟨2,[0,1,5],[],[]⟩,qE,eK,pre2,fn2⟩
noncomputable def H:List LC:=[L2]
noncomputable def code(i:Nat):Code:=(bE (cA Tryz.f86)).getD i .skip
theorem jD:bM E H (code 0) L2:=⟨kX,fun⟨x1,x2,x3,()⟩ hp=>aT (show L2.step E H (code 0) (x1,(x2,(x3,())))=cU x1 x2 x3 from by kernel_rfl) (qG x1 x2 x3 hp)⟩
theorem bY:aS Tryz.prog E:=aD aE.aPz (aI gO)
theorem loops:∀c,Tryz.f86.body=some c->aH E H c:=bB (by kernel_rfl) (by kernel_rfl) fun i l h=>match i,h with
  |0,h=>Option.some.inj h▸jD
  |n+1,h=>by cases h
theorem aPy:bA Tryz.prog 86 fs:=aF bY aZ Tryz.func86 H loops fun⟨x0,x1,()⟩ hw hp=>(show bC E H Tryz.f86 fs.ps fs.rs (x0,(x1,()))=aR x0 x1 from by kernel_rfl).trans (eq x0 x1 hw hp)
theorem aPz:cE Tryz.prog 86 fs:=⟨aPy,_,Tryz.func86,by kernel_rfl,by kernel_rfl⟩
end cX
namespace fA
noncomputable def fs:FS:=⟨[(.val iW .f),(.val (.int .i64) .f)],[((.int .i64),.o)],fun x=>fA.pre x.1 x.2.1,fun x=>((),((fA x.1 x.2.1),()))⟩
noncomputable def E:eG:=⟨aX,[(86,cX.fs)],[]⟩
noncomputable def H:List LC:=[]
theorem bY:aS Tryz.prog E:=aD cX.aPz (aI gO)
theorem loops:∀c,Tryz.f36.body=some c->aH E H c:=aO (by kernel_rfl)
theorem aPy:bA Tryz.prog 36 fs:=aF bY aZ Tryz.func36 H loops fun⟨x0,x1,()⟩ hw hp=>(show bC E H Tryz.f36 fs.ps fs.rs (x0,(x1,()))=aR x0 x1 from by kernel_rfl).trans (eq x0 x1 hw hp)
theorem aPz:cE Tryz.prog 36 fs:=⟨aPy,_,Tryz.func36,by kernel_rfl,by kernel_rfl⟩
end fA
namespace dV
noncomputable def fs:FS:=⟨[(.val (.sl 195 pN) .f),(.val (.int .i64) .f)],[((.int .i64),.o)],fun x=>dV.pre x.1 x.2.1,fun x=>((),((dV x.1 x.2.1),()))⟩
noncomputable def E:eG:=⟨aX,[(163,aE.fs)],[]⟩
noncomputable def qE:fF:=⟨((.one (.dat (.sl 195 pN)))::ui::uu::uu::uu::ui::un 54 []),[]⟩
noncomputable def eK:List fM:=[⟨.ret,⟨0,[4],[],[]⟩,⟨(un 4 (ui::un 55 [])),[]⟩⟩,⟨(.exit 0),⟨0,[1],[],[]⟩,⟨(uu::ui::un 58 []),[]⟩⟩]
noncomputable def L2:LC:=⟨2,⟨2,[0,1,5],[],[]⟩,qE,eK,pre2,fn2⟩
noncomputable def H:List LC:=[L2]
noncomputable def code(i:Nat):Code:=(bE (cA Tryz.f166)).getD i .skip
theorem jD:bM E H (code 0) L2:=⟨kX,fun⟨x1,x2,x3,()⟩ hp=>aT (show L2.step E H (code 0) (x1,(x2,(x3,())))=cU x1 x2 x3 from by kernel_rfl) (qG x1 x2 x3 hp)⟩
theorem bY:aS Tryz.prog E:=aD aE.aPz (aI gO)
theorem loops:∀c,Tryz.f166.body=some c->aH E H c:=bB (by kernel_rfl) (by kernel_rfl) fun i l h=>match i,h with
  |0,h=>Option.some.inj h▸jD
  |n+1,h=>by cases h
theorem aPy:bA Tryz.prog 166 fs:=aF bY aZ Tryz.func166 H loops fun⟨x0,x1,()⟩ hw hp=>(show bC E H Tryz.f166 fs.ps fs.rs (x0,(x1,()))=aR x0 x1 from by kernel_rfl).trans (eq x0 x1 hw hp)
theorem aPz:cE Tryz.prog 166 fs:=⟨aPy,_,Tryz.func166,by kernel_rfl,by kernel_rfl⟩
end dV
namespace eM
noncomputable def fs:FS:=⟨[(.val (.sl 130 eD) .f),(.val (.int .i64) .f)],[((.int .i64),.o)],fun x=>eM.pre x.1 x.2.1,fun x=>((),((eM x.1 x.2.1),()))⟩
noncomputable def E:eG:=⟨aX,[(166,dV.fs)],[]⟩
noncomputable def qE:fF:=⟨((.one (.dat (.sl 130 eD)))::ui::uu::uu::uu::ui::un 34 []),[]⟩
noncomputable def eK:List fM:=[⟨.ret,⟨0,[4],[],[]⟩,⟨(un 4 (ui::un 35 [])),[]⟩⟩,⟨(.exit 0),⟨0,[1],[],[]⟩,⟨(uu::ui::un 38 []),[]⟩⟩]
noncomputable def L2:LC:=⟨2,⟨2,[0,1,5],[],[]⟩,qE,eK,pre2,fn2⟩
noncomputable def H:List LC:=[L2]
noncomputable def code(i:Nat):Code:=(bE (cA Tryz.f87)).getD i .skip
theorem jD:bM E H (code 0) L2:=⟨kX,fun⟨x1,x2,x3,()⟩ hp=>aT (show L2.step E H (code 0) (x1,(x2,(x3,())))=cU x1 x2 x3 from by kernel_rfl) (qG x1 x2 x3 hp)⟩
theorem bY:aS Tryz.prog E:=aD dV.aPz (aI gO)
theorem loops:∀c,Tryz.f87.body=some c->aH E H c:=bB (by kernel_rfl) (by kernel_rfl) fun i l h=>match i,h with
  |0,h=>Option.some.inj h▸jD
  |n+1,h=>by cases h
theorem aPy:bA Tryz.prog 87 fs:=aF bY aZ Tryz.func87 H loops fun⟨x0,x1,()⟩ hw hp=>(show bC E H Tryz.f87 fs.ps fs.rs (x0,(x1,()))=aR x0 x1 from by kernel_rfl).trans (eq x0 x1 hw hp)
theorem aPz:cE Tryz.prog 87 fs:=⟨aPy,_,Tryz.func87,by kernel_rfl,by kernel_rfl⟩
end eM
namespace dU
noncomputable def fs:FS:=⟨[(.val (.sl 136 (.pair (.int .i64) (.pair (.int .i64) .unit))) .f),(.val (.int .i64) .f)],[((.int .i64),.o)],fun x=>dU.pre x.1 x.2.1,fun x=>((),((dU x.1 x.2.1),()))⟩
noncomputable def E:eG:=⟨aX,[],[]⟩
noncomputable def qE:fF:=⟨((.one (.dat (.sl 136 (.pair (.int .i64) (.pair (.int .i64) .unit)))))::ui::uu::uu::uu::ui::un 25 []),[]⟩
noncomputable def eK:List fM:=[⟨.ret,⟨0,[4],[],[]⟩,⟨(un 4 (ui::un 26 [])),[]⟩⟩,⟨(.exit 0),⟨0,[1],[],[]⟩,⟨(uu::ui::un 29 []),[]⟩⟩]
noncomputable def L2:LC:=⟨2,⟨2,[0,1,5],[],[]⟩,qE,eK,pre2,fn2⟩
noncomputable def H:List LC:=[L2]
noncomputable def code(i:Nat):Code:=(bE (cA Tryz.f167)).getD i .skip
theorem jD:bM E H (code 0) L2:=⟨kX,fun⟨x1,x2,x3,()⟩ hp=>aT (show L2.step E H (code 0) (x1,(x2,(x3,())))=cU x1 x2 x3 from by kernel_rfl) (qG x1 x2 x3 hp)⟩
theorem bY:aS Tryz.prog E:=aI gO
theorem loops:∀c,Tryz.f167.body=some c->aH E H c:=bB (by kernel_rfl) (by kernel_rfl) fun i l h=>match i,h with
  |0,h=>Option.some.inj h▸jD
  |n+1,h=>by cases h
theorem aPy:bA Tryz.prog 167 fs:=aF bY aZ Tryz.func167 H loops fun⟨x0,x1,()⟩ hw hp=>(show bC E H Tryz.f167 fs.ps fs.rs (x0,(x1,()))=aR x0 x1 from by kernel_rfl).trans (eq x0 x1 hw hp)
theorem aPz:cE Tryz.prog 167 fs:=⟨aPy,_,Tryz.func167,by kernel_rfl,by kernel_rfl⟩
end dU
namespace dH
noncomputable def fs:FS:=⟨[(.val (.sl 134 dY) .f),(.val (.int .i64) .f)],[((.int .i64),.o)],fun x=>dH.pre x.1 x.2.1,fun x=>((),((dH x.1 x.2.1),()))⟩
noncomputable def E:eG:=⟨aX,[(167,dU.fs)],[]⟩
noncomputable def qE:fF:=⟨((.one (.dat (.sl 134 dY)))::ui::uu::uu::uu::ui::un 52 []),[]⟩
noncomputable def eK:List fM:=[⟨.ret,⟨0,[4],[],[]⟩,⟨(un 4 (ui::un 53 [])),[]⟩⟩,⟨(.exit 0),⟨0,[1],[],[]⟩,⟨(uu::ui::un 56 []),[]⟩⟩]
noncomputable def L2:LC:=⟨2,⟨2,[0,1,5],[],[]⟩,qE,eK,pre2,fn2⟩
noncomputable def H:List LC:=[L2]
noncomputable def code(i:Nat):Code:=(bE (cA Tryz.f88)).getD i .skip
theorem jD:bM E H (code 0) L2:=⟨kX,fun⟨x1,x2,x3,()⟩ hp=>aT (show L2.step E H (code 0) (x1,(x2,(x3,())))=cU x1 x2 x3 from by kernel_rfl) (qG x1 x2 x3 hp)⟩
theorem bY:aS Tryz.prog E:=aD dU.aPz (aI gO)
theorem loops:∀c,Tryz.f88.body=some c->aH E H c:=bB (by kernel_rfl) (by kernel_rfl) fun i l h=>match i,h with
  |0,h=>Option.some.inj h▸jD
  |n+1,h=>by cases h
theorem aPy:bA Tryz.prog 88 fs:=aF bY aZ Tryz.func88 H loops fun⟨x0,x1,()⟩ hw hp=>(show bC E H Tryz.f88 fs.ps fs.rs (x0,(x1,()))=aR x0 x1 from by kernel_rfl).trans (eq x0 x1 hw hp)
theorem aPz:cE Tryz.prog 88 fs:=⟨aPy,_,Tryz.func88,by kernel_rfl,by kernel_rfl⟩
end dH
namespace bK
noncomputable def fs:FS:=⟨[(.val (.sl 3 (.int .i64)) .f),(.val (.int .i64) .f)],[((.int .i64),.o)],fun x=>bK.pre x.1 x.2.1,fun x=>((),((bK x.1 x.2.1),()))⟩
noncomputable def E:eG:=⟨aX,[],[]⟩
noncomputable def qE:fF:=⟨((.one (.dat (.sl 3 (.int .i64))))::ui::uu::uu::uu::ui::un 15 []),[]⟩
noncomputable def eK:List fM:=[⟨.ret,⟨0,[4],[],[]⟩,⟨(un 4 (ui::un 16 [])),[]⟩⟩,⟨(.exit 0),⟨0,[1],[],[]⟩,⟨(uu::ui::un 19 []),[]⟩⟩]
noncomputable def L2:LC:=⟨2,⟨2,[0,1,5],[],[]⟩,qE,eK,pre2,fn2⟩
noncomputable def H:List LC:=[L2]
noncomputable def code(i:Nat):Code:=(bE (cA Tryz.f90)).getD i .skip
theorem jD:bM E H (code 0) L2:=⟨kX,fun⟨x1,x2,x3,()⟩ hp=>aT (show L2.step E H (code 0) (x1,(x2,(x3,())))=cU x1 x2 x3 from by kernel_rfl) (qG x1 x2 x3 hp)⟩
theorem bY:aS Tryz.prog E:=aI gO
theorem loops:∀c,Tryz.f90.body=some c->aH E H c:=bB (by kernel_rfl) (by kernel_rfl) fun i l h=>match i,h with
  |0,h=>Option.some.inj h▸jD
  |n+1,h=>by cases h
theorem aPy:bA Tryz.prog 90 fs:=aF bY aZ Tryz.func90 H loops fun⟨x0,x1,()⟩ hw hp=>(show bC E H Tryz.f90 fs.ps fs.rs (x0,(x1,()))=aR x0 x1 from by kernel_rfl).trans (eq x0 x1 hw hp)
theorem aPz:cE Tryz.prog 90 fs:=⟨aPy,_,Tryz.func90,by kernel_rfl,by kernel_rfl⟩
end bK
namespace dI
noncomputable def fs:FS:=⟨[(.val (.sl 95 cW) .f),(.val (.int .i64) .f)],[((.int .i64),.o)],fun x=>dI.pre x.1 x.2.1,fun x=>((),((dI x.1 x.2.1),()))⟩
noncomputable def E:eG:=⟨aX,[(90,bK.fs)],[]⟩
noncomputable def qE:fF:=⟨((.one (.dat (.sl 95 cW)))::ui::uu::uu::uu::ui::un 43 []),[]⟩
noncomputable def eK:List fM:=[⟨.ret,⟨0,[4],[],[]⟩,⟨(un 4 (ui::un 44 [])),[]⟩⟩,⟨(.exit 0),⟨0,[1],[],[]⟩,⟨(uu::ui::un 47 []),[]⟩⟩]
noncomputable def L2:LC:=⟨2,⟨2,[0,1,5],[],[]⟩,qE,eK,pre2,fn2⟩
noncomputable def H:List LC:=[L2]
noncomputable def code(i:Nat):Code:=(bE (cA Tryz.f89)).getD i .skip
theorem jD:bM E H (code 0) L2:=⟨kX,fun⟨x1,x2,x3,()⟩ hp=>aT (show L2.step E H (code 0) (x1,(x2,(x3,())))=cU x1 x2 x3 from by kernel_rfl) (qG x1 x2 x3 hp)⟩
theorem bY:aS Tryz.prog E:=aD bK.aPz (aI gO)
theorem loops:∀c,Tryz.f89.body=some c->aH E H c:=bB (by kernel_rfl) (by kernel_rfl) fun i l h=>match i,h with
  |0,h=>Option.some.inj h▸jD
  |n+1,h=>by cases h
theorem aPy:bA Tryz.prog 89 fs:=aF bY aZ Tryz.func89 H loops fun⟨x0,x1,()⟩ hw hp=>(show bC E H Tryz.f89 fs.ps fs.rs (x0,(x1,()))=aR x0 x1 from by kernel_rfl).trans (eq x0 x1 hw hp)
theorem aPz:cE Tryz.prog 89 fs:=⟨aPy,_,Tryz.func89,by kernel_rfl,by kernel_rfl⟩
end dI
namespace cY
noncomputable def fs:FS:=⟨[(.val (.sl 138 dL) .f),(.val (.int .i64) .f)],[((.int .i64),.o)],fun x=>cY.pre x.1 x.2.1,fun x=>((),((cY x.1 x.2.1),()))⟩
noncomputable def E:eG:=⟨aX,[(163,aE.fs)],[]⟩
noncomputable def qE:fF:=⟨((.one (.dat (.sl 138 dL)))::ui::uu::uu::uu::ui::un 45 []),[]⟩
noncomputable def eK:List fM:=[⟨.ret,⟨0,[4],[],[]⟩,⟨(un 4 (ui::un 46 [])),[]⟩⟩,⟨(.exit 0),⟨0,[1],[],[]⟩,⟨(uu::ui::un 49 []),[]⟩⟩]
noncomputable def L2:LC:=⟨2,⟨2,[0,1,5],[],[]⟩,qE,eK,pre2,fn2⟩
noncomputable def H:List LC:=[L2]
noncomputable def code(i:Nat):Code:=(bE (cA Tryz.f91)).getD i .skip
theorem jD:bM E H (code 0) L2:=⟨kX,fun⟨x1,x2,x3,()⟩ hp=>aT (show L2.step E H (code 0) (x1,(x2,(x3,())))=cU x1 x2 x3 from by kernel_rfl) (qG x1 x2 x3 hp)⟩
theorem bY:aS Tryz.prog E:=aD aE.aPz (aI gO)
theorem loops:∀c,Tryz.f91.body=some c->aH E H c:=bB (by kernel_rfl) (by kernel_rfl) fun i l h=>match i,h with
  |0,h=>Option.some.inj h▸jD
  |n+1,h=>by cases h
theorem aPy:bA Tryz.prog 91 fs:=aF bY aZ Tryz.func91 H loops fun⟨x0,x1,()⟩ hw hp=>(show bC E H Tryz.f91 fs.ps fs.rs (x0,(x1,()))=aR x0 x1 from by kernel_rfl).trans (eq x0 x1 hw hp)
theorem aPz:cE Tryz.prog 91 fs:=⟨aPy,_,Tryz.func91,by kernel_rfl,by kernel_rfl⟩
end cY
namespace eO
noncomputable def fs:FS:=⟨[(.val bT .f),(.val (.int .i64) .f)],[((.int .i64),.o)],fun x=>eO.pre x.1 x.2.1,fun x=>((),((eO x.1 x.2.1),()))⟩
noncomputable def E:eG:=⟨aX,[(87,eM.fs),(88,dH.fs),(90,bK.fs),(89,dI.fs),(91,cY.fs)],[]⟩
noncomputable def H:List LC:=[]
theorem bY:aS Tryz.prog E:=aD eM.aPz (aD dH.aPz (aD bK.aPz (aD dI.aPz (aD cY.aPz (aI gO)))))
theorem loops:∀c,Tryz.f37.body=some c->aH E H c:=aO (by kernel_rfl)
theorem aPy:bA Tryz.prog 37 fs:=aF bY aZ Tryz.func37 H loops fun⟨x0,x1,()⟩ hw hp=>(show bC E H Tryz.f37 fs.ps fs.rs (x0,(x1,()))=aR x0 x1 from by kernel_rfl).trans (eq x0 x1 hw hp)
theorem aPz:cE Tryz.prog 37 fs:=⟨aPy,_,Tryz.func37,by kernel_rfl,by kernel_rfl⟩
end eO
namespace fI
noncomputable def fs:FS:=⟨[(.val iJ .f),(.val (.int .i64) .f)],[((.int .i64),.o)],fun x=>fI.pre x.1 x.2.1,fun x=>((),((fI x.1 x.2.1),()))⟩
noncomputable def E:eG:=⟨aX,[(36,fA.fs),(37,eO.fs)],[]⟩
noncomputable def H:List LC:=[]
theorem bY:aS Tryz.prog E:=aD fA.aPz (aD eO.aPz (aI gO))
theorem loops:∀c,Tryz.f13.body=some c->aH E H c:=aO (by kernel_rfl)
theorem aPy:bA Tryz.prog 13 fs:=aF bY aZ Tryz.func13 H loops fun⟨x0,x1,()⟩ hw hp=>(show bC E H Tryz.f13 fs.ps fs.rs (x0,(x1,()))=aR x0 x1 from by kernel_rfl).trans (eq x0 x1 hw hp)
theorem aPz:cE Tryz.prog 13 fs:=⟨aPy,_,Tryz.func13,by kernel_rfl,by kernel_rfl⟩
end fI
namespace mB
noncomputable def lD:List (Nat×uG):=[(10000000,(.box bN (.dat bN))),(0,(.box eD (.pair (.dat (.int .i64)) (.pair (.dat (.int .i64)) (.pair (.arr 20000000) (.dat .unit)))))),(20000000,(.arr 195 pN)),(8224,(.box eD (.pair (.dat (.int .i64)) (.pair (.dat (.int .i64)) (.pair (.arr 20000001) (.dat .unit)))))),(20000001,(.arr 195 pN))]
noncomputable def fs:FS:=⟨[(.ref bN .f)],[(eD,.o)],fun _=>true,fun x=>(((mB x.1).1,()),((mB x.1).2,()))⟩
noncomputable def E:eG:=⟨aX,[(209,aA.fs),(211,aP.fs)],[]⟩
noncomputable def sh6:fF:=⟨((.one (.bptr 10000000 [] bN))::uu::(.one (.bptr 0 [] eD))::(.one (.bptr 8224 [] eD))::ui::ui::un 44 []),lD⟩
noncomputable def aOy:List fM:=[⟨(.exit 0),⟨0,[2,3,0],[],[]⟩,⟨((.one (.bptr 10000000 [] bN))::uu::(.one (.bptr 0 [] eD))::(.one (.bptr 8224 [] eD))::un 46 []),lD⟩⟩]
noncomputable def L6:LC:=⟨6,⟨6,[0,2,3,4,5],[],[]⟩,sh6,aOy,pre6,fn6⟩
noncomputable def H:List LC:=[L6]
noncomputable def code(i:Nat):Code:=(bE (cA Tryz.f226)).getD i .skip
theorem aOS:bM E H (code 0) L6:=⟨mu6,fun⟨x1,x2,x3,x4,x5,x6,x7,x8,x9,x10,x11,()⟩ hp=>aT (show L6.step E H (code 0) (x1,(x2,(x3,(x4,(x5,(x6,(x7,(x8,(x9,(x10,(x11,())))))))))))=aNG x1 x2 x3 x4 x5 x6 x7 x8 x9 x10 x11 from by kernel_rfl) (ok6 x1 x2 x3 x4 x5 x6 x7 x8 x9 x10 x11 hp)⟩
theorem bY:aS Tryz.prog E:=aD aA.aPz (aD aP.aPz (aI gO))
theorem loops:∀c,Tryz.f226.body=some c->aH E H c:=bB (by kernel_rfl) (by kernel_rfl) fun i l h=>match i,h with
  |0,h=>Option.some.inj h▸aOS
  |n+1,h=>by cases h
theorem aPy:bA Tryz.prog 226 fs:=aF bY aZ Tryz.func226 H loops fun⟨x0,()⟩ hw _=>(show bC E H Tryz.f226 fs.ps fs.rs (x0,())=aR x0 from by kernel_rfl).trans (eq x0 hw)
theorem aPz:cE Tryz.prog 226 fs:=⟨aPy,_,Tryz.func226,by kernel_rfl,by kernel_rfl⟩
end mB
namespace jR
noncomputable def lD:List (Nat×uG):=[(10000000,(.box bN (.dat bN))),(0,(.box dY (.pair (.dat (.int .i64)) (.pair (.dat (.int .i64)) (.pair (.dat (.int .i64)) (.pair (.dat (.int .i64)) (.pair (.arr 20000000) (.dat .unit)))))))),(20000000,(.arr 136 (.pair (.int .i64) (.pair (.int .i64) .unit)))),(8224,(.box dY (.pair (.dat (.int .i64)) (.pair (.dat (.int .i64)) (.pair (.dat (.int .i64)) (.pair (.dat (.int .i64)) (.pair (.arr 20000001) (.dat .unit)))))))),(20000001,(.arr 136 (.pair (.int .i64) (.pair (.int .i64) .unit))))]
noncomputable def fs:FS:=⟨[(.ref bN .f)],[(dY,.o)],fun _=>true,fun x=>(((jR x.1).1,()),((jR x.1).2,()))⟩
noncomputable def E:eG:=⟨aX,[(209,aA.fs)],[]⟩
noncomputable def sh8:fF:=⟨((.one (.bptr 10000000 [] bN))::uu::(.one (.bptr 0 [] dY))::(.one (.bptr 8224 [] dY))::ui::ui::un 42 []),lD⟩
noncomputable def aL4:List fM:=[⟨(.exit 0),⟨0,[2,3,0],[],[]⟩,⟨((.one (.bptr 10000000 [] bN))::uu::(.one (.bptr 0 [] dY))::(.one (.bptr 8224 [] dY))::un 44 []),lD⟩⟩]
noncomputable def L8:LC:=⟨8,⟨8,[0,2,3,4,5],[],[]⟩,sh8,aL4,pre8,fn8⟩
noncomputable def H:List LC:=[L8]
noncomputable def code(i:Nat):Code:=(bE (cA Tryz.f227)).getD i .skip
theorem aND:bM E H (code 0) L8:=⟨mu8,fun⟨x1,x2,x3,x4,x5,x6,x7,x8,x9,x10,x11,x12,x13,x14,x15,()⟩ hp=>aT (show L8.step E H (code 0) (x1,(x2,(x3,(x4,(x5,(x6,(x7,(x8,(x9,(x10,(x11,(x12,(x13,(x14,(x15,())))))))))))))))=aJr x1 x2 x3 x4 x5 x6 x7 x8 x9 x10 x11 x12 x13 x14 x15 from by kernel_rfl) (ok8 x1 x2 x3 x4 x5 x6 x7 x8 x9 x10 x11 x12 x13 x14 x15 hp)⟩
theorem bY:aS Tryz.prog E:=aD aA.aPz (aI gO)
theorem loops:∀c,Tryz.f227.body=some c->aH E H c:=bB (by kernel_rfl) (by kernel_rfl) fun i l h=>match i,h with
  |0,h=>Option.some.inj h▸aND
  |n+1,h=>by cases h
theorem aPy:bA Tryz.prog 227 fs:=aF bY aZ Tryz.func227 H loops fun⟨x0,()⟩ hw _=>(show bC E H Tryz.f227 fs.ps fs.rs (x0,())=aR x0 from by kernel_rfl).trans (eq x0 hw)
theorem aPz:cE Tryz.prog 227 fs:=⟨aPy,_,Tryz.func227,by kernel_rfl,by kernel_rfl⟩
end jR
namespace gE
noncomputable def lD:List (Nat×uG):=[(10000000,(.box bN (.dat bN))),(0,(.box cW (.pair (.dat (.int .i64)) (.pair (.arr 20000000) (.pair (.arr 20000001) (.pair (.arr 20000002) (.dat .unit))))))),(20000000,(.arr 3 (.int .i64))),(20000001,(.arr 3 (.int .i64))),(20000002,(.arr 3 (.int .i64))),(8224,(.box cW (.pair (.dat (.int .i64)) (.pair (.arr 20000003) (.pair (.arr 20000004) (.pair (.arr 20000005) (.dat .unit))))))),(20000003,(.arr 3 (.int .i64))),(20000004,(.arr 3 (.int .i64))),(20000005,(.arr 3 (.int .i64)))]
noncomputable def fs:FS:=⟨[(.ref bN .f),(.val (.int .i64) .f)],[(cW,.o)],fun x=>gE.pre x.1 x.2.1,fun x=>(((gE x.1 x.2.1).1,()),((gE x.1 x.2.1).2,()))⟩
noncomputable def E:eG:=⟨aX,[(209,aA.fs)],[]⟩
noncomputable def sh5:fF:=⟨((.one (.bptr 10000000 [] bN))::ui::uu::uu::(.one (.bptr 0 [] cW))::(.one (.bptr 8224 [] cW))::ui::ui::un 51 []),lD⟩
noncomputable def zB:List fM:=[⟨(.exit 0),⟨0,[0,1,4,5],[],[]⟩,⟨((.one (.bptr 10000000 [] bN))::ui::uu::uu::(.one (.bptr 0 [] cW))::(.one (.bptr 8224 [] cW))::un 53 []),lD⟩⟩]
noncomputable def L5:LC:=⟨5,⟨5,[0,1,4,5,6,7],[],[]⟩,sh5,zB,pre5,fn5⟩
noncomputable def aOW:fF:=⟨((.one (.bptr 10000000 [] bN))::ui::uu::uu::(.one (.bptr 0 [] cW))::(.one (.bptr 8224 [] cW))::un 4 (ui::un 48 [])),lD⟩
noncomputable def aNQ:List fM:=[⟨(.exit 2),⟨0,[4,5,0],[],[]⟩,⟨((.one (.bptr 10000000 [] bN))::uu::uu::uu::(.one (.bptr 0 [] cW))::(.one (.bptr 8224 [] cW))::un 53 []),lD⟩⟩]
noncomputable def L12:LC:=⟨12,⟨12,[0,1,4,5,10],[],[]⟩,aOW,aNQ,pre12,fn12⟩
noncomputable def H:List LC:=[L5,L12]
noncomputable def code(i:Nat):Code:=(bE (cA Tryz.f228)).getD i .skip
theorem aCz:bM E H (code 0) L5:=⟨mu5,fun⟨x1,x2,x3,x4,x5,x6,x7,x8,x9,x10,x11,x12,x13,x14,()⟩ hp=>aT (show L5.step E H (code 0) (x1,(x2,(x3,(x4,(x5,(x6,(x7,(x8,(x9,(x10,(x11,(x12,(x13,(x14,()))))))))))))))=tS x1 x2 x3 x4 x5 x6 x7 x8 x9 x10 x11 x12 x13 x14 from by kernel_rfl) (ok5 x1 x2 x3 x4 x5 x6 x7 x8 x9 x10 x11 x12 x13 x14 hp)⟩
theorem aOv:bM E H (code 1) L12:=⟨aOn,fun⟨x1,x2,x3,x4,x5,x6,x7,x8,x9,x10,x11,x12,x13,()⟩ hp=>aT (show L12.step E H (code 1) (x1,(x2,(x3,(x4,(x5,(x6,(x7,(x8,(x9,(x10,(x11,(x12,(x13,())))))))))))))=aLn x1 x2 x3 x4 x5 x6 x7 x8 x9 x10 x11 x12 x13 from by kernel_rfl) (aP3 x1 x2 x3 x4 x5 x6 x7 x8 x9 x10 x11 x12 x13 hp)⟩
theorem bY:aS Tryz.prog E:=aD aA.aPz (aI gO)
theorem loops:∀c,Tryz.f228.body=some c->aH E H c:=bB (by kernel_rfl) (by kernel_rfl) fun i l h=>match i,h with
  |0,h=>Option.some.inj h▸aCz
  |1,h=>Option.some.inj h▸aOv
  |n+2,h=>by cases h
theorem aPy:bA Tryz.prog 228 fs:=aF bY aZ Tryz.func228 H loops fun⟨x0,x1,()⟩ hw hp=>(show bC E H Tryz.f228 fs.ps fs.rs (x0,(x1,()))=aR x0 x1 from by kernel_rfl).trans (eq x0 x1 hw hp)
theorem aPz:cE Tryz.prog 228 fs:=⟨aPy,_,Tryz.func228,by kernel_rfl,by kernel_rfl⟩
end gE
namespace eR
noncomputable def lD:List (Nat×uG):=[(10000000,(.box bN (.dat bN))),(0,(.box bT (.pair (.arr 20000000) (.pair (.arr 20000001) (.pair (.arr 20000002) (.pair (.dat (.int .i64)) (.pair (.arr 20000003) (.pair (.arr 20000004) (.dat .unit))))))))),(20000000,(.arr 130 eD)),(20000001,(.arr 134 dY)),(20000002,(.arr 95 cW)),(20000003,(.arr 3 (.int .i64))),(20000004,(.arr 138 dL)),(8224,(.box bT (.pair (.arr 20000005) (.pair (.arr 20000006) (.pair (.arr 20000007) (.pair (.dat (.int .i64)) (.pair (.arr 20000008) (.pair (.arr 20000009) (.dat .unit))))))))),(20000005,(.arr 130 eD)),(20000006,(.arr 134 dY)),(20000007,(.arr 95 cW)),(20000008,(.arr 3 (.int .i64))),(20000009,(.arr 138 dL))]
noncomputable def fs:FS:=⟨[(.ref bN .f),(.val (.int .i64) .f)],[(bT,.o)],fun x=>eR.pre x.1 x.2.1,fun x=>(((eR x.1 x.2.1).1,()),((eR x.1 x.2.1).2,()))⟩
noncomputable def E:eG:=⟨aX,[(209,aA.fs),(211,aP.fs),(226,mB.fs),(227,jR.fs),(228,gE.fs)],[]⟩
noncomputable def yK:fF:=⟨((.one (.bptr 10000000 [] bN))::ui::uu::uu::(.one (.bptr 0 [] bT))::(.one (.bptr 8224 [] bT))::ui::ui::un 109 []),lD⟩
noncomputable def kU:List fM:=[⟨(.exit 0),⟨0,[0,1,4,5],[],[]⟩,⟨((.one (.bptr 10000000 [] bN))::ui::uu::uu::(.one (.bptr 0 [] bT))::(.one (.bptr 8224 [] bT))::un 111 []),lD⟩⟩]
noncomputable def L4:LC:=⟨4,⟨4,[0,1,4,5,6,7],[],[]⟩,yK,kU,pre4,fn4⟩
noncomputable def aNU:fF:=⟨((.one (.bptr 10000000 [] bN))::ui::uu::uu::(.one (.bptr 0 [] bT))::(.one (.bptr 8224 [] bT))::ui::uu::uu::ui::un 107 []),lD⟩
noncomputable def aIJ:List fM:=[⟨(.exit 2),⟨0,[0,1,4,5],[],[]⟩,⟨((.one (.bptr 10000000 [] bN))::ui::uu::uu::(.one (.bptr 0 [] bT))::(.one (.bptr 8224 [] bT))::un 111 []),lD⟩⟩]
noncomputable def L10:LC:=⟨10,⟨10,[0,1,4,5,6,9],[],[]⟩,aNU,aIJ,pre10,fn10⟩
noncomputable def aOL:fF:=⟨((.one (.bptr 10000000 [] bN))::ui::uu::uu::(.one (.bptr 0 [] bT))::(.one (.bptr 8224 [] bT))::ui::un 4 (ui::un 105 [])),lD⟩
noncomputable def aNA:List fM:=[⟨(.exit 4),⟨0,[0,4,5],[],[]⟩,⟨((.one (.bptr 10000000 [] bN))::uu::uu::uu::(.one (.bptr 0 [] bT))::(.one (.bptr 8224 [] bT))::un 111 []),lD⟩⟩]
noncomputable def L16:LC:=⟨16,⟨16,[0,1,4,5,6,11],[],[]⟩,aOL,aNA,pre16,fn16⟩
noncomputable def aPi:fF:=⟨((.one (.bptr 10000000 [] bN))::uu::uu::uu::(.one (.bptr 0 [] bT))::(.one (.bptr 8224 [] bT))::un 7 (ui::un 103 [])),lD⟩
noncomputable def aNw:List fM:=[⟨(.exit 6),⟨0,[4,5,0],[],[]⟩,⟨((.one (.bptr 10000000 [] bN))::uu::uu::uu::(.one (.bptr 0 [] bT))::(.one (.bptr 8224 [] bT))::un 111 []),lD⟩⟩]
noncomputable def L22:LC:=⟨22,⟨22,[0,4,5,13],[],[]⟩,aPi,aNw,pre22,fn22⟩
noncomputable def H:List LC:=[L4,L10,L16,L22]
noncomputable def code(i:Nat):Code:=(bE (cA Tryz.f206)).getD i .skip
theorem oY:bM E H (code 0) L4:=⟨qD,fun⟨x1,x2,x3,x4,x5,x6,x7,x8,x9,x10,x11,x12,x13,x14,x15,x16,x17,x18,()⟩ hp=>aT (show L4.step E H (code 0) (x1,(x2,(x3,(x4,(x5,(x6,(x7,(x8,(x9,(x10,(x11,(x12,(x13,(x14,(x15,(x16,(x17,(x18,()))))))))))))))))))=hJ x1 x2 x3 x4 x5 x6 x7 x8 x9 x10 x11 x12 x13 x14 x15 x16 x17 x18 from by kernel_rfl) (yT x1 x2 x3 x4 x5 x6 x7 x8 x9 x10 x11 x12 x13 x14 x15 x16 x17 x18 hp)⟩
theorem aLc:bM E H (code 1) L10:=⟨aLY,fun⟨x1,x2,x3,x4,x5,x6,x7,x8,x9,x10,x11,x12,x13,x14,x15,x16,x17,x18,()⟩ hp=>aT (show L10.step E H (code 1) (x1,(x2,(x3,(x4,(x5,(x6,(x7,(x8,(x9,(x10,(x11,(x12,(x13,(x14,(x15,(x16,(x17,(x18,()))))))))))))))))))=aEG x1 x2 x3 x4 x5 x6 x7 x8 x9 x10 x11 x12 x13 x14 x15 x16 x17 x18 from by kernel_rfl) (aO0 x1 x2 x3 x4 x5 x6 x7 x8 x9 x10 x11 x12 x13 x14 x15 x16 x17 x18 hp)⟩
theorem aOz:bM E H (code 2) L16:=⟨aOB,fun⟨x1,x2,x3,x4,x5,x6,x7,x8,x9,x10,x11,x12,x13,x14,x15,x16,x17,x18,()⟩ hp=>aT (show L16.step E H (code 2) (x1,(x2,(x3,(x4,(x5,(x6,(x7,(x8,(x9,(x10,(x11,(x12,(x13,(x14,(x15,(x16,(x17,(x18,()))))))))))))))))))=aLX x1 x2 x3 x4 x5 x6 x7 x8 x9 x10 x11 x12 x13 x14 x15 x16 x17 x18 from by kernel_rfl) (aOP x1 x2 x3 x4 x5 x6 x7 x8 x9 x10 x11 x12 x13 x14 x15 x16 x17 x18 hp)⟩
theorem aOg:bM E H (code 3) L22:=⟨aOf,fun⟨x1,x2,x3,x4,x5,x6,x7,x8,x9,x10,x11,x12,x13,x14,x15,x16,()⟩ hp=>aT (show L22.step E H (code 3) (x1,(x2,(x3,(x4,(x5,(x6,(x7,(x8,(x9,(x10,(x11,(x12,(x13,(x14,(x15,(x16,()))))))))))))))))=aLq x1 x2 x3 x4 x5 x6 x7 x8 x9 x10 x11 x12 x13 x14 x15 x16 from by kernel_rfl) (aON x1 x2 x3 x4 x5 x6 x7 x8 x9 x10 x11 x12 x13 x14 x15 x16 hp)⟩
theorem bY:aS Tryz.prog E:=aD aA.aPz (aD aP.aPz (aD mB.aPz (aD jR.aPz (aD gE.aPz (aI gO)))))
theorem loops:∀c,Tryz.f206.body=some c->aH E H c:=bB (by kernel_rfl) (by kernel_rfl) fun i l h=>match i,h with
  |0,h=>Option.some.inj h▸oY
  |1,h=>Option.some.inj h▸aLc
  |2,h=>Option.some.inj h▸aOz
  |3,h=>Option.some.inj h▸aOg
  |n+4,h=>by cases h
theorem aPy:bA Tryz.prog 206 fs:=aF bY aZ Tryz.func206 H loops fun⟨x0,x1,()⟩ hw hp=>(show bC E H Tryz.f206 fs.ps fs.rs (x0,(x1,()))=aR x0 x1 from by kernel_rfl).trans (eq x0 x1 hw hp)
theorem aPz:cE Tryz.prog 206 fs:=⟨aPy,_,Tryz.func206,by kernel_rfl,by kernel_rfl⟩
end eR
namespace kA
noncomputable def fs:FS:=⟨[(.val gA .f),(.val (.sl 5 (.int .u8)) .f)],[(bT,.o),(.bool,.o)],fun x=>kA.pre x.1 x.2.1,fun x=>((),((kA x.1 x.2.1).1,((kA x.1 x.2.1).2,())))⟩
noncomputable def E:eG:=⟨aX,[(68,iC.fs),(51,bX.fs),(206,eR.fs)],[]⟩
noncomputable def H:List LC:=[]
theorem bY:aS Tryz.prog E:=aD iC.aPz (aD bX.aPz (aD eR.aPz (aI gO)))
theorem loops:∀c,Tryz.f145.body=some c->aH E H c:=aO (by kernel_rfl)
theorem aPy:bA Tryz.prog 145 fs:=aF bY aZ Tryz.func145 H loops fun⟨x0,x1,()⟩ hw hp=>(show bC E H Tryz.f145 fs.ps fs.rs (x0,(x1,()))=aR x0 x1 from by kernel_rfl).trans (eq x0 x1 hw hp)
theorem aPz:cE Tryz.prog 145 fs:=⟨aPy,_,Tryz.func145,by kernel_rfl,by kernel_rfl⟩
end kA
namespace nD
noncomputable def fs:FS:=⟨[(.val gA .f),(.val iJ .o),(.val kO .f)],[(iJ,.o)],fun x=>nD.pre x.1 x.2.1 x.2.2.1,fun x=>((),((nD x.1 x.2.1 x.2.2.1),()))⟩
noncomputable def E:eG:=⟨aX,[(146,mI.fs),(144,eC.fs),(147,lT.fs),(145,kA.fs)],[]⟩
noncomputable def H:List LC:=[]
theorem bY:aS Tryz.prog E:=aD mI.aPz (aD eC.aPz (aD lT.aPz (aD kA.aPz (aI gO))))
theorem loops:∀c,Tryz.f66.body=some c->aH E H c:=aO (by kernel_rfl)
theorem aPy:bA Tryz.prog 66 fs:=aF bY aZ Tryz.func66 H loops fun⟨x0,x1,x2,()⟩ hw hp=>(show bC E H Tryz.f66 fs.ps fs.rs (x0,(x1,(x2,())))=aR x0 x1 x2 from by kernel_rfl).trans (eq x0 x1 x2 hw hp)
theorem aPz:cE Tryz.prog 66 fs:=⟨aPy,_,Tryz.func66,by kernel_rfl,by kernel_rfl⟩
end nD
namespace mQ
noncomputable def fs:FS:=⟨[(.val gA .f),(.val iJ .f),(.val kO .f)],[(iJ,.o)],fun x=>mQ.pre x.1 x.2.1 x.2.2.1,fun x=>((),((mQ x.1 x.2.1 x.2.2.1),()))⟩
noncomputable def E:eG:=⟨aX,[(64,mN.fs),(19,cO.fs),(65,gC.fs),(66,nD.fs)],[]⟩
noncomputable def H:List LC:=[]
theorem bY:aS Tryz.prog E:=aD mN.aPz (aD cO.aPz (aD gC.aPz (aD nD.aPz (aI gO))))
theorem loops:∀c,Tryz.f25.body=some c->aH E H c:=aO (by kernel_rfl)
theorem aPy:bA Tryz.prog 25 fs:=aF bY aZ Tryz.func25 H loops fun⟨x0,x1,x2,()⟩ hw hp=>(show bC E H Tryz.f25 fs.ps fs.rs (x0,(x1,(x2,())))=aR x0 x1 x2 from by kernel_rfl).trans (eq x0 x1 x2 hw hp)
theorem aPz:cE Tryz.prog 25 fs:=⟨aPy,_,Tryz.func25,by kernel_rfl,by kernel_rfl⟩
end mQ
namespace kW
noncomputable def fs:FS:=⟨[(.val gA .f),(.val (.sl 5 (.int .u8)) .f)],[(iJ,.o)],fun x=>kW.pre x.1 x.2.1,fun x=>((),((kW x.1 x.2.1),()))⟩
noncomputable def E:eG:=⟨aX,[(27,kI.fs),(30,kR.fs),(25,mQ.fs)],[]⟩
noncomputable def yK:fF:=⟨(uu::uu::(.one (.bptr 0 [] gA))::uu::(.one (.bptr 32 [] iJ))::(.one (.bptr 8256 [] iJ))::(.one (.arr 20000012))::uu::ui::un 21 []),[(0,(.box gA (.dat gA))),(32,(.box iJ (.pair (.dat (.int .i64)) (.pair (.dat (.int .i64)) (.pair (.pair (.dat (.int .i64)) (.pair (.dat (.int .i64)) (.pair (.arr 20000000) (.dat .unit)))) (.pair (.pair (.arr 20000001) (.pair (.arr 20000002) (.pair (.arr 20000003) (.pair (.dat (.int .i64)) (.pair (.arr 20000004) (.pair (.arr 20000005) (.dat .unit))))))) (.dat .unit))))))),(20000000,(.arr 122 jH)),(20000001,(.arr 130 eD)),(20000002,(.arr 134 dY)),(20000003,(.arr 95 cW)),(20000004,(.arr 3 (.int .i64))),(20000005,(.arr 138 dL)),(8256,(.box iJ (.pair (.dat (.int .i64)) (.pair (.dat (.int .i64)) (.pair (.pair (.dat (.int .i64)) (.pair (.dat (.int .i64)) (.pair (.arr 20000006) (.dat .unit)))) (.pair (.pair (.arr 20000007) (.pair (.arr 20000008) (.pair (.arr 20000009) (.pair (.dat (.int .i64)) (.pair (.arr 20000010) (.pair (.arr 20000011) (.dat .unit))))))) (.dat .unit))))))),(20000006,(.arr 122 jH)),(20000007,(.arr 130 eD)),(20000008,(.arr 134 dY)),(20000009,(.arr 95 cW)),(20000010,(.arr 3 (.int .i64))),(20000011,(.arr 138 dL)),(20000012,(.arr 52 kO))]⟩
noncomputable def kU:List fM:=[⟨(.exit 0),⟨0,[4,5],[],[]⟩,⟨(un 4 ((.one (.bptr 32 [] iJ))::(.one (.bptr 8256 [] iJ))::un 24 [])),[(32,(.box iJ (.pair (.dat (.int .i64)) (.pair (.dat (.int .i64)) (.pair (.pair (.dat (.int .i64)) (.pair (.dat (.int .i64)) (.pair (.arr 20000000) (.dat .unit)))) (.pair (.pair (.arr 20000001) (.pair (.arr 20000002) (.pair (.arr 20000003) (.pair (.dat (.int .i64)) (.pair (.arr 20000004) (.pair (.arr 20000005) (.dat .unit))))))) (.dat .unit))))))),(20000000,(.arr 122 jH)),(20000001,(.arr 130 eD)),(20000002,(.arr 134 dY)),(20000003,(.arr 95 cW)),(20000004,(.arr 3 (.int .i64))),(20000005,(.arr 138 dL)),(8256,(.box iJ (.pair (.dat (.int .i64)) (.pair (.dat (.int .i64)) (.pair (.pair (.dat (.int .i64)) (.pair (.dat (.int .i64)) (.pair (.arr 20000006) (.dat .unit)))) (.pair (.pair (.arr 20000007) (.pair (.arr 20000008) (.pair (.arr 20000009) (.pair (.dat (.int .i64)) (.pair (.arr 20000010) (.pair (.arr 20000011) (.dat .unit))))))) (.dat .unit))))))),(20000006,(.arr 122 jH)),(20000007,(.arr 130 eD)),(20000008,(.arr 134 dY)),(20000009,(.arr 95 cW)),(20000010,(.arr 3 (.int .i64))),(20000011,(.arr 138 dL))]⟩⟩]
noncomputable def L4:LC:=⟨4,⟨4,[2,4,5,6,8],[],[]⟩,yK,kU,pre4,fn4⟩
noncomputable def H:List LC:=[L4]
noncomputable def code(i:Nat):Code:=(bE (cA Tryz.f5)).getD i .skip
theorem oY:bM E H (code 0) L4:=⟨qD,fun⟨x1,x2,x3,x4,x5,x6,x7,x8,x9,x10,x11,x12,x13,x14,x15,x16,x17,x18,x19,x20,x21,x22,x23,x24,x25,x26,x27,x28,x29,x30,x31,()⟩ hp=>aT (show L4.step E H (code 0) (x1,(x2,(x3,(x4,(x5,(x6,(x7,(x8,(x9,(x10,(x11,(x12,(x13,(x14,(x15,(x16,(x17,(x18,(x19,(x20,(x21,(x22,(x23,(x24,(x25,(x26,(x27,(x28,(x29,(x30,(x31,())))))))))))))))))))))))))))))))=hJ x1 x2 x3 x4 x5 x6 x7 x8 x9 x10 x11 x12 x13 x14 x15 x16 x17 x18 x19 x20 x21 x22 x23 x24 x25 x26 x27 x28 x29 x30 x31 from by kernel_rfl) (yT x1 x2 x3 x4 x5 x6 x7 x8 x9 x10 x11 x12 x13 x14 x15 x16 x17 x18 x19 x20 x21 x22 x23 x24 x25 x26 x27 x28 x29 x30 x31 hp)⟩
theorem bY:aS Tryz.prog E:=aD kI.aPz (aD kR.aPz (aD mQ.aPz (aI gO)))
theorem loops:∀c,Tryz.f5.body=some c->aH E H c:=bB (by kernel_rfl) (by kernel_rfl) fun i l h=>match i,h with
  |0,h=>Option.some.inj h▸oY
  |n+1,h=>by cases h
theorem aPy:bA Tryz.prog 5 fs:=aF bY aZ Tryz.func5 H loops fun⟨x0,x1,()⟩ hw hp=>(show bC E H Tryz.f5 fs.ps fs.rs (x0,(x1,()))=aR x0 x1 from by kernel_rfl).trans (eq x0 x1 hw hp)
theorem aPz:cE Tryz.prog 5 fs:=⟨aPy,_,Tryz.func5,by kernel_rfl,by kernel_rfl⟩
end kW
namespace yQ
noncomputable def fs:FS:=⟨[(.cell 1 bN),(.ref bN .f),(.ref eD .o)],[],fun x=>yQ.pre x.1 x.2.1,fun x=>(((yQ x.1 x.2.1).1,((yQ x.1 x.2.1).2,())),())⟩
noncomputable def we:uH:=⟨198,198,fs,[(.par 0),(.par 2)],[(.arg 0),(.of 0),(.arg 1)]⟩
noncomputable def E:eG:=⟨aX,[(136,aC.fs),(137,aV.fs)],[]⟩
noncomputable def H:List LC:=[]
theorem bY:aS Tryz.prog E:=aD aC.aPz (aD aV.aPz (aI gO))
theorem loops:∀c,Tryz.f198.body=some c->aH E H c:=aO (by kernel_rfl)
theorem aPy:pM Tryz.prog 198 fs we.real:=fn_soundW bY aZ Tryz.func198 H loops fun⟨x0,x1,()⟩ hw hp=>(show pX E H Tryz.f198 fs.ps fs.rs we.real (x0,(x1,()))=aR x0 x1 from by kernel_rfl).trans (eq x0 x1 hw hp)
theorem aPz:vC Tryz.prog we:=⟨aPy,_,Tryz.func198,by kernel_rfl,by kernel_rfl⟩
end yQ
namespace jU
noncomputable def lD:List (Nat×uG):=[(10000000,(.box bN (.dat bN))),(10000064,(.box .op (.bptr 10000000 [] bN))),(10000128,(.box eD (.pair (.dat (.int .i64)) (.pair (.dat (.int .i64)) (.pair (.arr 20000000) (.dat .unit)))))),(20000000,(.arr 195 pN))]
noncomputable def fs:FS:=⟨[(.ref bN .f),(.cell 0 bN),(.ref eD .o)],[],fun x=>jU.pre x.1 x.2.1,fun x=>(((jU x.1 x.2.1).1,((jU x.1 x.2.1).2,())),())⟩
noncomputable def we:uH:=⟨129,198,fs,[(.par 0),(.clo 198 [1,2])],[(.arg 0),(.cap 1 0),(.cap 1 1)]⟩
noncomputable def E:eG:=⟨aX,[(136,aC.fs)],[yQ.we]⟩
noncomputable def qE:fF:=⟨((.one (.bptr 10000000 [] bN))::(.one (.clo 198 (.pair (.bptr 10000064 [] .op) (.pair (.bptr 10000128 [] eD) .unit))))::uu::uu::ui::ui::un 16 []),lD⟩
noncomputable def eK:List fM:=[⟨(.exit 0),⟨0,[0,1],[],[]⟩,⟨((.one (.bptr 10000000 [] bN))::(.one (.clo 198 (.pair (.bptr 10000064 [] .op) (.pair (.bptr 10000128 [] eD) .unit))))::un 20 []),lD⟩⟩]
noncomputable def L2:LC:=⟨2,⟨2,[0,1,4,5],[],[]⟩,qE,eK,pre2,fn2⟩
noncomputable def H:List LC:=[L2]
noncomputable def code(i:Nat):Code:=(bE (cA Tryz.f129)).getD i .skip
theorem jD:bM E H (code 0) L2:=⟨kX,fun⟨x1,x2,x3,x4,x5,x6,x7,()⟩ hp=>aT (show L2.step E H (code 0) (x1,(x2,(x3,(x4,(x5,(x6,(x7,())))))))=cU x1 x2 x3 x4 x5 x6 x7 from by kernel_rfl) (qG x1 x2 x3 x4 x5 x6 x7 hp)⟩
theorem bY:aS Tryz.prog E:=aD aC.aPz (nQ yQ.aPz (aI gO))
theorem loops:∀c,Tryz.f129.body=some c->aH E H c:=bB (by kernel_rfl) (by kernel_rfl) fun i l h=>match i,h with
  |0,h=>Option.some.inj h▸jD
  |n+1,h=>by cases h
theorem aPy:pM Tryz.prog 129 fs we.real:=fn_soundW bY aZ Tryz.func129 H loops fun⟨x0,x1,()⟩ hw hp=>(show pX E H Tryz.f129 fs.ps fs.rs we.real (x0,(x1,()))=aR x0 x1 from by kernel_rfl).trans (eq x0 x1 hw hp)
theorem aPz:vC Tryz.prog we:=⟨aPy,_,Tryz.func129,by kernel_rfl,by kernel_rfl⟩
end jU
namespace nZ
noncomputable def fs:FS:=⟨[(.ref bN .f)],[(eD,.o)],fun _=>true,fun x=>(((nZ x.1).1,()),((nZ x.1).2,()))⟩
noncomputable def E:eG:=⟨aX,[(136,aC.fs)],[jU.we]⟩
noncomputable def H:List LC:=[]
theorem bY:aS Tryz.prog E:=aD aC.aPz (nQ jU.aPz (aI gO))
theorem loops:∀c,Tryz.f131.body=some c->aH E H c:=aO (by kernel_rfl)
theorem aPy:bA Tryz.prog 131 fs:=aF bY aZ Tryz.func131 H loops fun⟨x0,()⟩ hw _=>(show bC E H Tryz.f131 fs.ps fs.rs (x0,())=aR x0 from by kernel_rfl).trans (eq x0 hw)
theorem aPz:cE Tryz.prog 131 fs:=⟨aPy,_,Tryz.func131,by kernel_rfl,by kernel_rfl⟩
end nZ
namespace rA
noncomputable def fs:FS:=⟨[(.cell 1 bN),(.ref bN .f),(.ref dY .o)],[],fun x=>rA.pre x.1 x.2.1,fun x=>(((rA x.1 x.2.1).1,((rA x.1 x.2.1).2,())),())⟩
noncomputable def we:uH:=⟨199,199,fs,[(.par 0),(.par 2)],[(.arg 0),(.of 0),(.arg 1)]⟩
noncomputable def E:eG:=⟨aX,[(136,aC.fs)],[]⟩
noncomputable def H:List LC:=[]
theorem bY:aS Tryz.prog E:=aD aC.aPz (aI gO)
theorem loops:∀c,Tryz.f199.body=some c->aH E H c:=aO (by kernel_rfl)
theorem aPy:pM Tryz.prog 199 fs we.real:=fn_soundW bY aZ Tryz.func199 H loops fun⟨x0,x1,()⟩ hw hp=>(show pX E H Tryz.f199 fs.ps fs.rs we.real (x0,(x1,()))=aR x0 x1 from by kernel_rfl).trans (eq x0 x1 hw hp)
theorem aPz:vC Tryz.prog we:=⟨aPy,_,Tryz.func199,by kernel_rfl,by kernel_rfl⟩
end rA
namespace gX
noncomputable def lD:List (Nat×uG):=[(10000000,(.box bN (.dat bN))),(10000064,(.box .op (.bptr 10000000 [] bN))),(10000128,(.box dY (.pair (.dat (.int .i64)) (.pair (.dat (.int .i64)) (.pair (.dat (.int .i64)) (.pair (.dat (.int .i64)) (.pair (.arr 20000000) (.dat .unit)))))))),(20000000,(.arr 136 (.pair (.int .i64) (.pair (.int .i64) .unit))))]
noncomputable def fs:FS:=⟨[(.ref bN .f),(.cell 0 bN),(.ref dY .o)],[],fun x=>gX.pre x.1 x.2.1,fun x=>(((gX x.1 x.2.1).1,((gX x.1 x.2.1).2,())),())⟩
noncomputable def we:uH:=⟨129,199,fs,[(.par 0),(.clo 199 [1,2])],[(.arg 0),(.cap 1 0),(.cap 1 1)]⟩
noncomputable def E:eG:=⟨aX,[(136,aC.fs)],[rA.we]⟩
noncomputable def qE:fF:=⟨((.one (.bptr 10000000 [] bN))::(.one (.clo 199 (.pair (.bptr 10000064 [] .op) (.pair (.bptr 10000128 [] dY) .unit))))::uu::uu::ui::ui::un 16 []),lD⟩
noncomputable def eK:List fM:=[⟨(.exit 0),⟨0,[0,1],[],[]⟩,⟨((.one (.bptr 10000000 [] bN))::(.one (.clo 199 (.pair (.bptr 10000064 [] .op) (.pair (.bptr 10000128 [] dY) .unit))))::un 20 []),lD⟩⟩]
noncomputable def L2:LC:=⟨2,⟨2,[0,1,4,5],[],[]⟩,qE,eK,pre2,fn2⟩
noncomputable def H:List LC:=[L2]
noncomputable def code(i:Nat):Code:=(bE (cA Tryz.f129)).getD i .skip
theorem jD:bM E H (code 0) L2:=⟨kX,fun⟨x1,x2,x3,x4,x5,x6,x7,x8,x9,()⟩ hp=>aT (show L2.step E H (code 0) (x1,(x2,(x3,(x4,(x5,(x6,(x7,(x8,(x9,())))))))))=cU x1 x2 x3 x4 x5 x6 x7 x8 x9 from by kernel_rfl) (qG x1 x2 x3 x4 x5 x6 x7 x8 x9 hp)⟩
theorem bY:aS Tryz.prog E:=aD aC.aPz (nQ rA.aPz (aI gO))
theorem loops:∀c,Tryz.f129.body=some c->aH E H c:=bB (by kernel_rfl) (by kernel_rfl) fun i l h=>match i,h with
  |0,h=>Option.some.inj h▸jD
  |n+1,h=>by cases h
theorem aPy:pM Tryz.prog 129 fs we.real:=fn_soundW bY aZ Tryz.func129 H loops fun⟨x0,x1,()⟩ hw hp=>(show pX E H Tryz.f129 fs.ps fs.rs we.real (x0,(x1,()))=aR x0 x1 from by kernel_rfl).trans (eq x0 x1 hw hp)
theorem aPz:vC Tryz.prog we:=⟨aPy,_,Tryz.func129,by kernel_rfl,by kernel_rfl⟩
end gX
namespace lI
noncomputable def fs:FS:=⟨[(.ref bN .f)],[(dY,.o)],fun _=>true,fun x=>(((lI x.1).1,()),((lI x.1).2,()))⟩
noncomputable def E:eG:=⟨aX,[(136,aC.fs)],[gX.we]⟩
noncomputable def H:List LC:=[]
theorem bY:aS Tryz.prog E:=aD aC.aPz (nQ gX.aPz (aI gO))
theorem loops:∀c,Tryz.f133.body=some c->aH E H c:=aO (by kernel_rfl)
theorem aPy:bA Tryz.prog 133 fs:=aF bY aZ Tryz.func133 H loops fun⟨x0,()⟩ hw _=>(show bC E H Tryz.f133 fs.ps fs.rs (x0,())=aR x0 from by kernel_rfl).trans (eq x0 hw)
theorem aPz:cE Tryz.prog 133 fs:=⟨aPy,_,Tryz.func133,by kernel_rfl,by kernel_rfl⟩
end lI
namespace qX
noncomputable def fs:FS:=⟨[(.ref cW .o),(.cell 2 bN),(.ref bN .f)],[],fun x=>qX.pre x.1 x.2.1,fun x=>(((qX x.1 x.2.1).1,((qX x.1 x.2.1).2,())),())⟩
noncomputable def we:uH:=⟨200,200,fs,[(.par 0),(.par 1)],[(.arg 0),(.arg 1),(.of 1)]⟩
noncomputable def E:eG:=⟨aX,[(136,aC.fs)],[]⟩
noncomputable def H:List LC:=[]
theorem bY:aS Tryz.prog E:=aD aC.aPz (aI gO)
theorem loops:∀c,Tryz.f200.body=some c->aH E H c:=aO (by kernel_rfl)
theorem aPy:pM Tryz.prog 200 fs we.real:=fn_soundW bY aZ Tryz.func200 H loops fun⟨x0,x1,()⟩ hw hp=>(show pX E H Tryz.f200 fs.ps fs.rs we.real (x0,(x1,()))=aR x0 x1 from by kernel_rfl).trans (eq x0 x1 hw hp)
theorem aPz:vC Tryz.prog we:=⟨aPy,_,Tryz.func200,by kernel_rfl,by kernel_rfl⟩
end qX
namespace gY
noncomputable def lD:List (Nat×uG):=[(10000000,(.box bN (.dat bN))),(10000064,(.box cW (.pair (.dat (.int .i64)) (.pair (.arr 20000000) (.pair (.arr 20000001) (.pair (.arr 20000002) (.dat .unit))))))),(20000000,(.arr 3 (.int .i64))),(20000001,(.arr 3 (.int .i64))),(20000002,(.arr 3 (.int .i64))),(10000128,(.box .op (.bptr 10000000 [] bN)))]
noncomputable def fs:FS:=⟨[(.ref bN .f),(.ref cW .o),(.cell 0 bN)],[],fun x=>gY.pre x.1 x.2.1,fun x=>(((gY x.1 x.2.1).1,((gY x.1 x.2.1).2,())),())⟩
noncomputable def we:uH:=⟨129,200,fs,[(.par 0),(.clo 200 [1,2])],[(.arg 0),(.cap 1 0),(.cap 1 1)]⟩
noncomputable def E:eG:=⟨aX,[(136,aC.fs)],[qX.we]⟩
noncomputable def qE:fF:=⟨((.one (.bptr 10000000 [] bN))::(.one (.clo 200 (.pair (.bptr 10000064 [] cW) (.pair (.bptr 10000128 [] .op) .unit))))::uu::uu::ui::ui::un 16 []),lD⟩
noncomputable def eK:List fM:=[⟨(.exit 0),⟨0,[0,1],[],[]⟩,⟨((.one (.bptr 10000000 [] bN))::(.one (.clo 200 (.pair (.bptr 10000064 [] cW) (.pair (.bptr 10000128 [] .op) .unit))))::un 20 []),lD⟩⟩]
noncomputable def L2:LC:=⟨2,⟨2,[0,1,4,5],[],[]⟩,qE,eK,pre2,fn2⟩
noncomputable def H:List LC:=[L2]
noncomputable def code(i:Nat):Code:=(bE (cA Tryz.f129)).getD i .skip
theorem jD:bM E H (code 0) L2:=⟨kX,fun⟨x1,x2,x3,x4,x5,x6,x7,x8,()⟩ hp=>aT (show L2.step E H (code 0) (x1,(x2,(x3,(x4,(x5,(x6,(x7,(x8,()))))))))=cU x1 x2 x3 x4 x5 x6 x7 x8 from by kernel_rfl) (qG x1 x2 x3 x4 x5 x6 x7 x8 hp)⟩
theorem bY:aS Tryz.prog E:=aD aC.aPz (nQ qX.aPz (aI gO))
theorem loops:∀c,Tryz.f129.body=some c->aH E H c:=bB (by kernel_rfl) (by kernel_rfl) fun i l h=>match i,h with
  |0,h=>Option.some.inj h▸jD
  |n+1,h=>by cases h
theorem aPy:pM Tryz.prog 129 fs we.real:=fn_soundW bY aZ Tryz.func129 H loops fun⟨x0,x1,()⟩ hw hp=>(show pX E H Tryz.f129 fs.ps fs.rs we.real (x0,(x1,()))=aR x0 x1 from by kernel_rfl).trans (eq x0 x1 hw hp)
theorem aPz:vC Tryz.prog we:=⟨aPy,_,Tryz.func129,by kernel_rfl,by kernel_rfl⟩
end gY
namespace gV
noncomputable def fs:FS:=⟨[(.ref bN .f),(.val (.int .i64) .f)],[(cW,.o)],fun x=>gV.pre x.1 x.2.1,fun x=>(((gV x.1 x.2.1).1,()),((gV x.1 x.2.1).2,()))⟩
noncomputable def E:eG:=⟨aX,[(136,aC.fs)],[gY.we]⟩
noncomputable def yK:fF:=⟨((.one (.bptr 10000000 [] bN))::ui::(.one (.bptr 0 [] .op))::uu::(.one (.bptr 32 [] cW))::(.one (.bptr 8288 [] cW))::ui::un 19 []),[(10000000,(.box bN (.dat bN))),(0,(.box .op (.bptr 10000000 [] bN))),(32,(.box cW (.pair (.dat (.int .i64)) (.pair (.arr 20000000) (.pair (.arr 20000001) (.pair (.arr 20000002) (.dat .unit))))))),(20000000,(.arr 3 (.int .i64))),(20000001,(.arr 3 (.int .i64))),(20000002,(.arr 3 (.int .i64))),(8288,(.box cW (.pair (.dat (.int .i64)) (.pair (.arr 20000003) (.pair (.arr 20000004) (.pair (.arr 20000005) (.dat .unit))))))),(20000003,(.arr 3 (.int .i64))),(20000004,(.arr 3 (.int .i64))),(20000005,(.arr 3 (.int .i64)))]⟩
noncomputable def kU:List fM:=[⟨(.exit 0),⟨0,[4,5,0],[],[]⟩,⟨((.one (.bptr 10000000 [] bN))::uu::uu::uu::(.one (.bptr 32 [] cW))::(.one (.bptr 8288 [] cW))::un 20 []),[(10000000,(.box bN (.dat bN))),(32,(.box cW (.pair (.dat (.int .i64)) (.pair (.arr 20000000) (.pair (.arr 20000001) (.pair (.arr 20000002) (.dat .unit))))))),(20000000,(.arr 3 (.int .i64))),(20000001,(.arr 3 (.int .i64))),(20000002,(.arr 3 (.int .i64))),(8288,(.box cW (.pair (.dat (.int .i64)) (.pair (.arr 20000003) (.pair (.arr 20000004) (.pair (.arr 20000005) (.dat .unit))))))),(20000003,(.arr 3 (.int .i64))),(20000004,(.arr 3 (.int .i64))),(20000005,(.arr 3 (.int .i64)))]⟩⟩]
noncomputable def L4:LC:=⟨4,⟨4,[1,2,4,5,6,0],[],[]⟩,yK,kU,pre4,fn4⟩
noncomputable def H:List LC:=[L4]
noncomputable def code(i:Nat):Code:=(bE (cA Tryz.f135)).getD i .skip
theorem oY:bM E H (code 0) L4:=⟨qD,fun⟨x1,x2,x3,x4,x5,x6,x7,x8,x9,x10,x11,x12,x13,()⟩ hp=>aT (show L4.step E H (code 0) (x1,(x2,(x3,(x4,(x5,(x6,(x7,(x8,(x9,(x10,(x11,(x12,(x13,())))))))))))))=hJ x1 x2 x3 x4 x5 x6 x7 x8 x9 x10 x11 x12 x13 from by kernel_rfl) (yT x1 x2 x3 x4 x5 x6 x7 x8 x9 x10 x11 x12 x13 hp)⟩
theorem bY:aS Tryz.prog E:=aD aC.aPz (nQ gY.aPz (aI gO))
theorem loops:∀c,Tryz.f135.body=some c->aH E H c:=bB (by kernel_rfl) (by kernel_rfl) fun i l h=>match i,h with
  |0,h=>Option.some.inj h▸oY
  |n+1,h=>by cases h
theorem aPy:bA Tryz.prog 135 fs:=aF bY aZ Tryz.func135 H loops fun⟨x0,x1,()⟩ hw hp=>(show bC E H Tryz.f135 fs.ps fs.rs (x0,(x1,()))=aR x0 x1 from by kernel_rfl).trans (eq x0 x1 hw hp)
theorem aPz:cE Tryz.prog 135 fs:=⟨aPy,_,Tryz.func135,by kernel_rfl,by kernel_rfl⟩
end gV
namespace pB
noncomputable def fs:FS:=⟨[(.ref bT .o),(.cell 2 bN),(.ref bN .f)],[],fun x=>pB.pre x.1 x.2.1,fun x=>(((pB x.1 x.2.1).1,((pB x.1 x.2.1).2,())),())⟩
noncomputable def we:uH:=⟨130,130,fs,[(.par 0),(.par 1)],[(.arg 0),(.arg 1),(.of 1)]⟩
noncomputable def E:eG:=⟨aX,[(131,nZ.fs)],[]⟩
noncomputable def H:List LC:=[]
theorem bY:aS Tryz.prog E:=aD nZ.aPz (aI gO)
theorem loops:∀c,Tryz.f130.body=some c->aH E H c:=aO (by kernel_rfl)
theorem aPy:pM Tryz.prog 130 fs we.real:=fn_soundW bY aZ Tryz.func130 H loops fun⟨x0,x1,()⟩ hw hp=>(show pX E H Tryz.f130 fs.ps fs.rs we.real (x0,(x1,()))=aR x0 x1 from by kernel_rfl).trans (eq x0 x1 hw hp)
theorem aPz:vC Tryz.prog we:=⟨aPy,_,Tryz.func130,by kernel_rfl,by kernel_rfl⟩
end pB
namespace fK
noncomputable def lD:List (Nat×uG):=[(10000000,(.box bN (.dat bN))),(10000064,(.box bT (.pair (.arr 20000000) (.pair (.arr 20000001) (.pair (.arr 20000002) (.pair (.dat (.int .i64)) (.pair (.arr 20000003) (.pair (.arr 20000004) (.dat .unit))))))))),(20000000,(.arr 130 eD)),(20000001,(.arr 134 dY)),(20000002,(.arr 95 cW)),(20000003,(.arr 3 (.int .i64))),(20000004,(.arr 138 dL)),(10000128,(.box .op (.bptr 10000000 [] bN)))]
noncomputable def fs:FS:=⟨[(.ref bN .f),(.ref bT .o),(.cell 0 bN)],[],fun x=>fK.pre x.1 x.2.1,fun x=>(((fK x.1 x.2.1).1,((fK x.1 x.2.1).2,())),())⟩
noncomputable def we:uH:=⟨129,130,fs,[(.par 0),(.clo 130 [1,2])],[(.arg 0),(.cap 1 0),(.cap 1 1)]⟩
noncomputable def E:eG:=⟨aX,[(136,aC.fs)],[pB.we]⟩
noncomputable def qE:fF:=⟨((.one (.bptr 10000000 [] bN))::(.one (.clo 130 (.pair (.bptr 10000064 [] bT) (.pair (.bptr 10000128 [] .op) .unit))))::uu::uu::ui::ui::un 16 []),lD⟩
noncomputable def eK:List fM:=[⟨(.exit 0),⟨0,[0,1],[],[]⟩,⟨((.one (.bptr 10000000 [] bN))::(.one (.clo 130 (.pair (.bptr 10000064 [] bT) (.pair (.bptr 10000128 [] .op) .unit))))::un 20 []),lD⟩⟩]
noncomputable def L2:LC:=⟨2,⟨2,[0,1,4,5],[],[]⟩,qE,eK,pre2,fn2⟩
noncomputable def H:List LC:=[L2]
noncomputable def code(i:Nat):Code:=(bE (cA Tryz.f129)).getD i .skip
theorem jD:bM E H (code 0) L2:=⟨kX,fun⟨x1,x2,x3,x4,x5,x6,x7,x8,x9,x10,()⟩ hp=>aT (show L2.step E H (code 0) (x1,(x2,(x3,(x4,(x5,(x6,(x7,(x8,(x9,(x10,()))))))))))=cU x1 x2 x3 x4 x5 x6 x7 x8 x9 x10 from by kernel_rfl) (qG x1 x2 x3 x4 x5 x6 x7 x8 x9 x10 hp)⟩
theorem bY:aS Tryz.prog E:=aD aC.aPz (nQ pB.aPz (aI gO))
theorem loops:∀c,Tryz.f129.body=some c->aH E H c:=bB (by kernel_rfl) (by kernel_rfl) fun i l h=>match i,h with
  |0,h=>Option.some.inj h▸jD
  |n+1,h=>by cases h
theorem aPy:pM Tryz.prog 129 fs we.real:=fn_soundW bY aZ Tryz.func129 H loops fun⟨x0,x1,()⟩ hw hp=>(show pX E H Tryz.f129 fs.ps fs.rs we.real (x0,(x1,()))=aR x0 x1 from by kernel_rfl).trans (eq x0 x1 hw hp)
theorem aPz:vC Tryz.prog we:=⟨aPy,_,Tryz.func129,by kernel_rfl,by kernel_rfl⟩
end fK
namespace pC
noncomputable def fs:FS:=⟨[(.ref bT .o),(.cell 2 bN),(.ref bN .f)],[],fun x=>pC.pre x.1 x.2.1,fun x=>(((pC x.1 x.2.1).1,((pC x.1 x.2.1).2,())),())⟩
noncomputable def we:uH:=⟨132,132,fs,[(.par 0),(.par 1)],[(.arg 0),(.arg 1),(.of 1)]⟩
noncomputable def E:eG:=⟨aX,[(133,lI.fs)],[]⟩
noncomputable def H:List LC:=[]
theorem bY:aS Tryz.prog E:=aD lI.aPz (aI gO)
theorem loops:∀c,Tryz.f132.body=some c->aH E H c:=aO (by kernel_rfl)
theorem aPy:pM Tryz.prog 132 fs we.real:=fn_soundW bY aZ Tryz.func132 H loops fun⟨x0,x1,()⟩ hw hp=>(show pX E H Tryz.f132 fs.ps fs.rs we.real (x0,(x1,()))=aR x0 x1 from by kernel_rfl).trans (eq x0 x1 hw hp)
theorem aPz:vC Tryz.prog we:=⟨aPy,_,Tryz.func132,by kernel_rfl,by kernel_rfl⟩
end pC
namespace fL
noncomputable def lD:List (Nat×uG):=[(10000000,(.box bN (.dat bN))),(10000064,(.box bT (.pair (.arr 20000000) (.pair (.arr 20000001) (.pair (.arr 20000002) (.pair (.dat (.int .i64)) (.pair (.arr 20000003) (.pair (.arr 20000004) (.dat .unit))))))))),(20000000,(.arr 130 eD)),(20000001,(.arr 134 dY)),(20000002,(.arr 95 cW)),(20000003,(.arr 3 (.int .i64))),(20000004,(.arr 138 dL)),(10000128,(.box .op (.bptr 10000000 [] bN)))]
noncomputable def fs:FS:=⟨[(.ref bN .f),(.ref bT .o),(.cell 0 bN)],[],fun x=>fL.pre x.1 x.2.1,fun x=>(((fL x.1 x.2.1).1,((fL x.1 x.2.1).2,())),())⟩
noncomputable def we:uH:=⟨129,132,fs,[(.par 0),(.clo 132 [1,2])],[(.arg 0),(.cap 1 0),(.cap 1 1)]⟩
noncomputable def E:eG:=⟨aX,[(136,aC.fs)],[pC.we]⟩
noncomputable def qE:fF:=⟨((.one (.bptr 10000000 [] bN))::(.one (.clo 132 (.pair (.bptr 10000064 [] bT) (.pair (.bptr 10000128 [] .op) .unit))))::uu::uu::ui::ui::un 16 []),lD⟩
noncomputable def eK:List fM:=[⟨(.exit 0),⟨0,[0,1],[],[]⟩,⟨((.one (.bptr 10000000 [] bN))::(.one (.clo 132 (.pair (.bptr 10000064 [] bT) (.pair (.bptr 10000128 [] .op) .unit))))::un 20 []),lD⟩⟩]
noncomputable def L2:LC:=⟨2,⟨2,[0,1,4,5],[],[]⟩,qE,eK,pre2,fn2⟩
noncomputable def H:List LC:=[L2]
noncomputable def code(i:Nat):Code:=(bE (cA Tryz.f129)).getD i .skip
theorem jD:bM E H (code 0) L2:=⟨kX,fun⟨x1,x2,x3,x4,x5,x6,x7,x8,x9,x10,()⟩ hp=>aT (show L2.step E H (code 0) (x1,(x2,(x3,(x4,(x5,(x6,(x7,(x8,(x9,(x10,()))))))))))=cU x1 x2 x3 x4 x5 x6 x7 x8 x9 x10 from by kernel_rfl) (qG x1 x2 x3 x4 x5 x6 x7 x8 x9 x10 hp)⟩
theorem bY:aS Tryz.prog E:=aD aC.aPz (nQ pC.aPz (aI gO))
theorem loops:∀c,Tryz.f129.body=some c->aH E H c:=bB (by kernel_rfl) (by kernel_rfl) fun i l h=>match i,h with
  |0,h=>Option.some.inj h▸jD
  |n+1,h=>by cases h
theorem aPy:pM Tryz.prog 129 fs we.real:=fn_soundW bY aZ Tryz.func129 H loops fun⟨x0,x1,()⟩ hw hp=>(show pX E H Tryz.f129 fs.ps fs.rs we.real (x0,(x1,()))=aR x0 x1 from by kernel_rfl).trans (eq x0 x1 hw hp)
theorem aPz:vC Tryz.prog we:=⟨aPy,_,Tryz.func129,by kernel_rfl,by kernel_rfl⟩
end fL
namespace nS
noncomputable def fs:FS:=⟨[(.ref bT .o),(.cell 2 bN),(.ref bN .f),(.ref gA .o)],[],fun x=>nS.pre x.1 x.2.1 x.2.2.1,fun x=>(((nS x.1 x.2.1 x.2.2.1).1,((nS x.1 x.2.1 x.2.2.1).2.1,((nS x.1 x.2.1 x.2.2.1).2.2,()))),())⟩
noncomputable def we:uH:=⟨134,134,fs,[(.par 0),(.par 1),(.par 3)],[(.arg 0),(.arg 1),(.of 1),(.arg 2)]⟩
noncomputable def E:eG:=⟨aX,[(135,gV.fs)],[]⟩
noncomputable def H:List LC:=[]
theorem bY:aS Tryz.prog E:=aD gV.aPz (aI gO)
theorem loops:∀c,Tryz.f134.body=some c->aH E H c:=aO (by kernel_rfl)
theorem aPy:pM Tryz.prog 134 fs we.real:=fn_soundW bY aZ Tryz.func134 H loops fun⟨x0,x1,x2,()⟩ hw hp=>(show pX E H Tryz.f134 fs.ps fs.rs we.real (x0,(x1,(x2,())))=aR x0 x1 x2 from by kernel_rfl).trans (eq x0 x1 x2 hw hp)
theorem aPz:vC Tryz.prog we:=⟨aPy,_,Tryz.func134,by kernel_rfl,by kernel_rfl⟩
end nS
namespace eL
noncomputable def lD:List (Nat×uG):=[(10000000,(.box bN (.dat bN))),(10000064,(.box bT (.pair (.arr 20000000) (.pair (.arr 20000001) (.pair (.arr 20000002) (.pair (.dat (.int .i64)) (.pair (.arr 20000003) (.pair (.arr 20000004) (.dat .unit))))))))),(20000000,(.arr 130 eD)),(20000001,(.arr 134 dY)),(20000002,(.arr 95 cW)),(20000003,(.arr 3 (.int .i64))),(20000004,(.arr 138 dL)),(10000128,(.box .op (.bptr 10000000 [] bN))),(10000192,(.box gA (.dat gA)))]
noncomputable def fs:FS:=⟨[(.ref bN .f),(.ref bT .o),(.cell 0 bN),(.ref gA .o)],[],fun x=>eL.pre x.1 x.2.1 x.2.2.1,fun x=>(((eL x.1 x.2.1 x.2.2.1).1,((eL x.1 x.2.1 x.2.2.1).2.1,((eL x.1 x.2.1 x.2.2.1).2.2,()))),())⟩
noncomputable def we:uH:=⟨129,134,fs,[(.par 0),(.clo 134 [1,2,3])],[(.arg 0),(.cap 1 0),(.cap 1 1),(.cap 1 2)]⟩
noncomputable def E:eG:=⟨aX,[(136,aC.fs)],[nS.we]⟩
noncomputable def qE:fF:=⟨((.one (.bptr 10000000 [] bN))::(.one (.clo 134 (.pair (.bptr 10000064 [] bT) (.pair (.bptr 10000128 [] .op) (.pair (.bptr 10000192 [] gA) .unit)))))::uu::uu::ui::ui::un 16 []),lD⟩
noncomputable def eK:List fM:=[⟨(.exit 0),⟨0,[0,1],[],[]⟩,⟨((.one (.bptr 10000000 [] bN))::(.one (.clo 134 (.pair (.bptr 10000064 [] bT) (.pair (.bptr 10000128 [] .op) (.pair (.bptr 10000192 [] gA) .unit)))))::un 20 []),lD⟩⟩]
noncomputable def L2:LC:=⟨2,⟨2,[0,1,4,5],[],[]⟩,qE,eK,pre2,fn2⟩
noncomputable def H:List LC:=[L2]
noncomputable def code(i:Nat):Code:=(bE (cA Tryz.f129)).getD i .skip
theorem jD:bM E H (code 0) L2:=⟨kX,fun⟨x1,x2,x3,x4,x5,x6,x7,x8,x9,x10,x11,()⟩ hp=>aT (show L2.step E H (code 0) (x1,(x2,(x3,(x4,(x5,(x6,(x7,(x8,(x9,(x10,(x11,())))))))))))=cU x1 x2 x3 x4 x5 x6 x7 x8 x9 x10 x11 from by kernel_rfl) (qG x1 x2 x3 x4 x5 x6 x7 x8 x9 x10 x11 hp)⟩
theorem bY:aS Tryz.prog E:=aD aC.aPz (nQ nS.aPz (aI gO))
theorem loops:∀c,Tryz.f129.body=some c->aH E H c:=bB (by kernel_rfl) (by kernel_rfl) fun i l h=>match i,h with
  |0,h=>Option.some.inj h▸jD
  |n+1,h=>by cases h
theorem aPy:pM Tryz.prog 129 fs we.real:=fn_soundW bY aZ Tryz.func129 H loops fun⟨x0,x1,x2,()⟩ hw hp=>(show pX E H Tryz.f129 fs.ps fs.rs we.real (x0,(x1,(x2,())))=aR x0 x1 x2 from by kernel_rfl).trans (eq x0 x1 x2 hw hp)
theorem aPz:vC Tryz.prog we:=⟨aPy,_,Tryz.func129,by kernel_rfl,by kernel_rfl⟩
end eL
namespace iO
noncomputable def lD:List (Nat×uG):=[(0,(.box gA (.dat gA))),(32,(.box bT (.pair (.arr 20000000) (.pair (.arr 20000001) (.pair (.arr 20000002) (.pair (.dat (.int .i64)) (.pair (.arr 20000003) (.pair (.arr 20000004) (.dat .unit))))))))),(20000000,(.arr 130 eD)),(20000001,(.arr 134 dY)),(20000002,(.arr 95 cW)),(20000003,(.arr 3 (.int .i64))),(20000004,(.arr 138 dL)),(24672,(.box .op (.bptr 24640 [] bN))),(24640,(.box bN (.dat bN))),(32768,(.box bT (.pair (.arr 20000005) (.pair (.arr 20000006) (.pair (.arr 20000007) (.pair (.dat (.int .i64)) (.pair (.arr 20000008) (.pair (.arr 20000009) (.dat .unit))))))))),(20000005,(.arr 130 eD)),(20000006,(.arr 134 dY)),(20000007,(.arr 95 cW)),(20000008,(.arr 3 (.int .i64))),(20000009,(.arr 138 dL))]
noncomputable def fs:FS:=⟨[(.val gA .f),(.val (.sl 5 (.int .u8)) .f)],[(bT,.o),(.bool,.o)],fun x=>iO.pre x.1 x.2.1,fun x=>((),((iO x.1 x.2.1).1,((iO x.1 x.2.1).2,())))⟩
noncomputable def E:eG:=⟨aX,[(67,iE.fs),(136,aC.fs),(137,aV.fs),(47,dO.fs)],[fK.we,fL.we,eL.we]⟩
noncomputable def aNU:fF:=⟨(uu::(.one (.dat (.sl 5 (.int .u8))))::(.one (.bptr 0 [] gA))::uu::(.one (.bptr 32 [] bT))::uu::(.one (.bptr 24672 [] .op))::(.one (.bptr 32768 [] bT))::ui::un 71 []),lD⟩
noncomputable def aIJ:List fM:=[⟨(.exit 0),⟨0,[1,2,4,6,7],[],[]⟩,⟨(uu::(.one (.dat (.sl 5 (.int .u8))))::(.one (.bptr 0 [] gA))::uu::(.one (.bptr 32 [] bT))::uu::(.one (.bptr 24672 [] .op))::(.one (.bptr 32768 [] bT))::un 72 []),lD⟩⟩]
noncomputable def L10:LC:=⟨10,⟨10,[1,2,4,6,7,8],[],[]⟩,aNU,aIJ,pre10,fn10⟩
noncomputable def H:List LC:=[L10]
noncomputable def code(i:Nat):Code:=(bE (cA Tryz.f57)).getD i .skip
theorem aLc:bM E H (code 0) L10:=⟨aLY,fun⟨x1,x2,x3,x4,x5,x6,x7,x8,x9,x10,x11,x12,x13,x14,x15,x16,x17,x18,()⟩ hp=>aT (show L10.step E H (code 0) (x1,(x2,(x3,(x4,(x5,(x6,(x7,(x8,(x9,(x10,(x11,(x12,(x13,(x14,(x15,(x16,(x17,(x18,()))))))))))))))))))=aEG x1 x2 x3 x4 x5 x6 x7 x8 x9 x10 x11 x12 x13 x14 x15 x16 x17 x18 from by kernel_rfl) (aO0 x1 x2 x3 x4 x5 x6 x7 x8 x9 x10 x11 x12 x13 x14 x15 x16 x17 x18 hp)⟩
theorem bY:aS Tryz.prog E:=aD iE.aPz (aD aC.aPz (aD aV.aPz (aD dO.aPz (nQ fK.aPz (nQ fL.aPz (nQ eL.aPz (aI gO)))))))
theorem loops:∀c,Tryz.f57.body=some c->aH E H c:=bB (by kernel_rfl) (by kernel_rfl) fun i l h=>match i,h with
  |0,h=>Option.some.inj h▸aLc
  |n+1,h=>by cases h
theorem aPy:bA Tryz.prog 57 fs:=aF bY aZ Tryz.func57 H loops fun⟨x0,x1,()⟩ hw hp=>(show bC E H Tryz.f57 fs.ps fs.rs (x0,(x1,()))=aR x0 x1 from by kernel_rfl).trans (eq x0 x1 hw hp)
theorem aPz:cE Tryz.prog 57 fs:=⟨aPy,_,Tryz.func57,by kernel_rfl,by kernel_rfl⟩
end iO
namespace mJ
noncomputable def fs:FS:=⟨[(.val gA .f),(.val iJ .f),(.val kO .f)],[(iJ,.o)],fun x=>mJ.pre x.1 x.2.1 x.2.2.1,fun x=>((),((mJ x.1 x.2.1 x.2.2.1),()))⟩
noncomputable def E:eG:=⟨aX,[(54,kT.fs),(18,cM.fs),(55,cD.fs),(42,mP.fs),(56,dZ.fs),(58,lQ.fs),(57,iO.fs)],[]⟩
noncomputable def H:List LC:=[]
theorem bY:aS Tryz.prog E:=aD kT.aPz (aD cM.aPz (aD cD.aPz (aD mP.aPz (aD dZ.aPz (aD lQ.aPz (aD iO.aPz (aI gO)))))))
theorem loops:∀c,Tryz.f21.body=some c->aH E H c:=aO (by kernel_rfl)
theorem aPy:bA Tryz.prog 21 fs:=aF bY aZ Tryz.func21 H loops fun⟨x0,x1,x2,()⟩ hw hp=>(show bC E H Tryz.f21 fs.ps fs.rs (x0,(x1,(x2,())))=aR x0 x1 x2 from by kernel_rfl).trans (eq x0 x1 x2 hw hp)
theorem aPz:cE Tryz.prog 21 fs:=⟨aPy,_,Tryz.func21,by kernel_rfl,by kernel_rfl⟩
end mJ
namespace kB
noncomputable def fs:FS:=⟨[(.val gA .f),(.val (.sl 5 (.int .u8)) .f)],[(iJ,.o)],fun x=>kB.pre x.1 x.2.1,fun x=>((),((kB x.1 x.2.1),()))⟩
noncomputable def E:eG:=⟨aX,[(26,kH.fs),(31,kP.fs),(21,mJ.fs)],[]⟩
noncomputable def yK:fF:=⟨(uu::uu::(.one (.bptr 0 [] gA))::uu::(.one (.bptr 32 [] iJ))::(.one (.bptr 8256 [] iJ))::un 11 ((.one (.arr 20000012))::ui::ui::un 9 [])),[(0,(.box gA (.dat gA))),(32,(.box iJ (.pair (.dat (.int .i64)) (.pair (.dat (.int .i64)) (.pair (.pair (.dat (.int .i64)) (.pair (.dat (.int .i64)) (.pair (.arr 20000000) (.dat .unit)))) (.pair (.pair (.arr 20000001) (.pair (.arr 20000002) (.pair (.arr 20000003) (.pair (.dat (.int .i64)) (.pair (.arr 20000004) (.pair (.arr 20000005) (.dat .unit))))))) (.dat .unit))))))),(20000000,(.arr 122 jH)),(20000001,(.arr 130 eD)),(20000002,(.arr 134 dY)),(20000003,(.arr 95 cW)),(20000004,(.arr 3 (.int .i64))),(20000005,(.arr 138 dL)),(8256,(.box iJ (.pair (.dat (.int .i64)) (.pair (.dat (.int .i64)) (.pair (.pair (.dat (.int .i64)) (.pair (.dat (.int .i64)) (.pair (.arr 20000006) (.dat .unit)))) (.pair (.pair (.arr 20000007) (.pair (.arr 20000008) (.pair (.arr 20000009) (.pair (.dat (.int .i64)) (.pair (.arr 20000010) (.pair (.arr 20000011) (.dat .unit))))))) (.dat .unit))))))),(20000006,(.arr 122 jH)),(20000007,(.arr 130 eD)),(20000008,(.arr 134 dY)),(20000009,(.arr 95 cW)),(20000010,(.arr 3 (.int .i64))),(20000011,(.arr 138 dL)),(20000012,(.arr 52 kO))]⟩
noncomputable def kU:List fM:=[⟨(.exit 0),⟨0,[4,5],[],[]⟩,⟨(un 4 ((.one (.bptr 32 [] iJ))::(.one (.bptr 8256 [] iJ))::un 23 [])),[(32,(.box iJ (.pair (.dat (.int .i64)) (.pair (.dat (.int .i64)) (.pair (.pair (.dat (.int .i64)) (.pair (.dat (.int .i64)) (.pair (.arr 20000000) (.dat .unit)))) (.pair (.pair (.arr 20000001) (.pair (.arr 20000002) (.pair (.arr 20000003) (.pair (.dat (.int .i64)) (.pair (.arr 20000004) (.pair (.arr 20000005) (.dat .unit))))))) (.dat .unit))))))),(20000000,(.arr 122 jH)),(20000001,(.arr 130 eD)),(20000002,(.arr 134 dY)),(20000003,(.arr 95 cW)),(20000004,(.arr 3 (.int .i64))),(20000005,(.arr 138 dL)),(8256,(.box iJ (.pair (.dat (.int .i64)) (.pair (.dat (.int .i64)) (.pair (.pair (.dat (.int .i64)) (.pair (.dat (.int .i64)) (.pair (.arr 20000006) (.dat .unit)))) (.pair (.pair (.arr 20000007) (.pair (.arr 20000008) (.pair (.arr 20000009) (.pair (.dat (.int .i64)) (.pair (.arr 20000010) (.pair (.arr 20000011) (.dat .unit))))))) (.dat .unit))))))),(20000006,(.arr 122 jH)),(20000007,(.arr 130 eD)),(20000008,(.arr 134 dY)),(20000009,(.arr 95 cW)),(20000010,(.arr 3 (.int .i64))),(20000011,(.arr 138 dL))]⟩⟩]
noncomputable def L4:LC:=⟨4,⟨4,[2,4,5,17,18,19],[],[]⟩,yK,kU,pre4,fn4⟩
noncomputable def H:List LC:=[L4]
noncomputable def code(i:Nat):Code:=(bE (cA Tryz.f8)).getD i .skip
theorem oY:bM E H (code 0) L4:=⟨qD,fun⟨x1,x2,x3,x4,x5,x6,x7,x8,x9,x10,x11,x12,x13,x14,x15,x16,x17,x18,x19,x20,x21,x22,x23,x24,x25,x26,x27,x28,x29,x30,x31,x32,()⟩ hp=>aT (show L4.step E H (code 0) (x1,(x2,(x3,(x4,(x5,(x6,(x7,(x8,(x9,(x10,(x11,(x12,(x13,(x14,(x15,(x16,(x17,(x18,(x19,(x20,(x21,(x22,(x23,(x24,(x25,(x26,(x27,(x28,(x29,(x30,(x31,(x32,()))))))))))))))))))))))))))))))))=hJ x1 x2 x3 x4 x5 x6 x7 x8 x9 x10 x11 x12 x13 x14 x15 x16 x17 x18 x19 x20 x21 x22 x23 x24 x25 x26 x27 x28 x29 x30 x31 x32 from by kernel_rfl) (yT x1 x2 x3 x4 x5 x6 x7 x8 x9 x10 x11 x12 x13 x14 x15 x16 x17 x18 x19 x20 x21 x22 x23 x24 x25 x26 x27 x28 x29 x30 x31 x32 hp)⟩
theorem bY:aS Tryz.prog E:=aD kH.aPz (aD kP.aPz (aD mJ.aPz (aI gO)))
theorem loops:∀c,Tryz.f8.body=some c->aH E H c:=bB (by kernel_rfl) (by kernel_rfl) fun i l h=>match i,h with
  |0,h=>Option.some.inj h▸oY
  |n+1,h=>by cases h
theorem aPy:bA Tryz.prog 8 fs:=aF bY aZ Tryz.func8 H loops fun⟨x0,x1,()⟩ hw hp=>(show bC E H Tryz.f8 fs.ps fs.rs (x0,(x1,()))=aR x0 x1 from by kernel_rfl).trans (eq x0 x1 hw hp)
theorem aPz:cE Tryz.prog 8 fs:=⟨aPy,_,Tryz.func8,by kernel_rfl,by kernel_rfl⟩
end kB
namespace jI
noncomputable def fs:FS:=⟨[(.val gA .f),(.val (.sl 5 (.int .u8)) .f)],[(.bool,.o)],fun _=>true,fun x=>((),((jI x.1 x.2.1),()))⟩
noncomputable def E:eG:=⟨aX,[(6,mC.fs),(7,eP.fs),(9,lW.fs),(10,jS.fs),(11,eH.fs),(12,fD.fs),(13,fI.fs),(5,kW.fs),(8,kB.fs)],[]⟩
noncomputable def H:List LC:=[]
theorem bY:aS Tryz.prog E:=aD mC.aPz (aD eP.aPz (aD lW.aPz (aD jS.aPz (aD eH.aPz (aD fD.aPz (aD fI.aPz (aD kW.aPz (aD kB.aPz (aI gO)))))))))
theorem loops:∀c,Tryz.f3.body=some c->aH E H c:=aO (by kernel_rfl)
theorem aPy:bA Tryz.prog 3 fs:=aF bY aZ Tryz.func3 H loops fun⟨x0,x1,()⟩ hw _=>(show bC E H Tryz.f3 fs.ps fs.rs (x0,(x1,()))=aR x0 x1 from by kernel_rfl).trans (eq x0 x1 hw)
theorem aPz:cE Tryz.prog 3 fs:=⟨aPy,_,Tryz.func3,by kernel_rfl,by kernel_rfl⟩
end jI
end
end Go.Aw.Pl
