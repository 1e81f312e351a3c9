import Derived.Test.YtdlkgkkfpfglbaaGreatS1a
namespace Go.Aw.Pl
open Go Go.Aw Go.Proofs
set_option linter.unusedVariables false
set_option maxRecDepth 20000
set_option maxHeartbeats 2000000
noncomputable section
namespace cD
noncomputable def fs:FS:=⟨[(.val iI .f)],[(iI,.o)],fun x=>cD.pre x.1,fun x=>((),((cD x.1),()))⟩
noncomputable def E:eI:=⟨aX,[(127,aN.fs),(128,fY.fs)],[]⟩
noncomputable def H:List LC:=[]
theorem bZ:aS Tryz.prog E:=aD aN.aPz (aD fY.aPz (aI gO))
theorem loops:∀c,Tryz.f55.body=some c->aH E H c:=aO (by kernel_rfl)
theorem aPy:bA Tryz.prog 55 fs:=aF bZ aZ Tryz.func55 H loops fun⟨x0,()⟩ hw hp=>(show bB E H Tryz.f55 fs.ps fs.rs (x0,())=aR x0 from by kernel_rfl).trans (eq x0 hw hp)
theorem aPz:cE Tryz.prog 55 fs:=⟨aPy,_,Tryz.func55,by kernel_rfl,by kernel_rfl⟩
end cD
namespace mS
noncomputable def fs:FS:=⟨[(.val iS .f),(.val (.int .i64) .f)],[((.int .i64),.o)],fun _=>true,fun x=>((),((mS x.1 x.2.1),()))⟩
noncomputable def E:eI:=⟨aX,[(45,aB.fs)],[]⟩
noncomputable def H:List LC:=[]
theorem bZ:aS Tryz.prog E:=aD aB.aPz (aI gO)
theorem loops:∀c,Tryz.f42.body=some c->aH E H c:=aO (by kernel_rfl)
theorem aPy:bA Tryz.prog 42 fs:=aF bZ aZ Tryz.func42 H loops fun⟨x0,x1,()⟩ hw _=>(show bB E H Tryz.f42 fs.ps fs.rs (x0,(x1,()))=aR x0 x1 from by kernel_rfl).trans (eq x0 x1 hw)
theorem aPz:cE Tryz.prog 42 fs:=⟨aPy,_,Tryz.func42,by kernel_rfl,by kernel_rfl⟩
end mS
namespace eA
noncomputable def lQ:List (Nat×uN):=[(0,(.box iS (.dat iS))),(32,(.box iS (.pair (.dat (.int .i64)) (.pair (.dat (.int .i64)) (.pair (.arr 20000000) (.dat .unit)))))),(20000000,(.arr 122 jN)),(24640,(.box iS (.pair (.dat (.int .i64)) (.pair (.dat (.int .i64)) (.pair (.arr 20000001) (.dat .unit)))))),(20000001,(.arr 122 jN))]
noncomputable def fs:FS:=⟨[(.val iS .f),(.val (.int .i64) .f),(.val (.int .i64) .f),(.val (.sl 122 jN) .f)],[(iS,.o),(.bool,.o)],fun x=>eA.pre x.1 x.2.1 x.2.2.1 x.2.2.2.1,fun x=>((),((eA x.1 x.2.1 x.2.2.1 x.2.2.2.1).1,((eA x.1 x.2.1 x.2.2.1 x.2.2.2.1).2,())))⟩
noncomputable def E:eI:=⟨aX,[(46,mA.fs),(127,aN.fs),(42,mS.fs)],[]⟩
noncomputable def sh7:fG:=⟨(uu::ui::uu::uu::(.one (.bptr 0 [] iS))::uu::uu::uu::(.one (.bptr 32 [] iS))::uu::(.one (.bptr 24640 [] iS))::un 19 ((.one (.dat (.sl 122 jN)))::ui::ui::un 42 [])),lQ⟩
noncomputable def aHE:List fQ:=[⟨(.exit 0),⟨0,[4,8,10],[],[]⟩,⟨(un 4 ((.one (.bptr 0 [] iS))::uu::uu::uu::(.one (.bptr 32 [] iS))::uu::(.one (.bptr 24640 [] iS))::un 64 [])),lQ⟩⟩]
noncomputable def L7:LC:=⟨7,⟨7,[1,4,8,10,30,31,32],[],[]⟩,sh7,aHE,pre7,fn7⟩
noncomputable def H:List LC:=[L7]
noncomputable def code(i:Nat):Code:=(bF (cA Tryz.f56)).getD i .skip
theorem aM5:bM E H (code 0) L7:=⟨mu7,fun⟨x1,x2,x3,x4,x5,x6,x7,x8,x9,x10,x11,x12,x13,()⟩ hp=>aU (show L7.step E H (code 0) (x1,(x2,(x3,(x4,(x5,(x6,(x7,(x8,(x9,(x10,(x11,(x12,(x13,())))))))))))))=aDV x1 x2 x3 x4 x5 x6 x7 x8 x9 x10 x11 x12 x13 from by kernel_rfl) (ok7 x1 x2 x3 x4 x5 x6 x7 x8 x9 x10 x11 x12 x13 hp)⟩
theorem bZ:aS Tryz.prog E:=aD mA.aPz (aD aN.aPz (aD mS.aPz (aI gO)))
theorem loops:∀c,Tryz.f56.body=some c->aH E H c:=bC (by kernel_rfl) (by kernel_rfl) fun i l h=>match i,h with
  |0,h=>Option.some.inj h▸aM5
  |n+1,h=>by cases h
theorem aPy:bA Tryz.prog 56 fs:=aF bZ aZ Tryz.func56 H loops fun⟨x0,x1,x2,x3,()⟩ hw hp=>(show bB E H Tryz.f56 fs.ps fs.rs (x0,(x1,(x2,(x3,()))))=aR x0 x1 x2 x3 from by kernel_rfl).trans (eq x0 x1 x2 x3 hw hp)
theorem aPz:cE Tryz.prog 56 fs:=⟨aPy,_,Tryz.func56,by kernel_rfl,by kernel_rfl⟩
end eA
namespace lS
noncomputable def fs:FS:=⟨[(.val iS .f),(.val (.int .i64) .f)],[(iS,.o)],fun x=>lS.pre x.1 x.2.1,fun x=>((),((lS x.1 x.2.1),()))⟩
noncomputable def E:eI:=⟨aX,[(45,aB.fs),(127,aN.fs)],[]⟩
noncomputable def H:List LC:=[]
theorem bZ:aS Tryz.prog E:=aD aB.aPz (aD aN.aPz (aI gO))
theorem loops:∀c,Tryz.f58.body=some c->aH E H c:=aO (by kernel_rfl)
theorem aPy:bA Tryz.prog 58 fs:=aF bZ aZ Tryz.func58 H loops fun⟨x0,x1,()⟩ hw hp=>(show bB E H Tryz.f58 fs.ps fs.rs (x0,(x1,()))=aR x0 x1 from by kernel_rfl).trans (eq x0 x1 hw hp)
theorem aPz:cE Tryz.prog 58 fs:=⟨aPy,_,Tryz.func58,by kernel_rfl,by kernel_rfl⟩
end lS
namespace nC
noncomputable def fs:FS:=⟨[(.val (.pair (.int .i64) (.pair (.int .i64) (.pair (.int .i64) (.pair (.int .i64) dK)))) .f),(.val (.pair (.int .i64) (.pair (.int .i64) (.pair (.int .i64) (.pair (.int .i64) dK)))) .f)],[(.bool,.o)],fun _=>true,fun x=>((),((nC x.1 x.2.1),()))⟩
noncomputable def E:eI:=⟨aX,[],[]⟩
noncomputable def H:List LC:=[]
theorem bZ:aS Tryz.prog E:=aI gO
theorem loops:∀c,Tryz.f214.body=some c->aH E H c:=aO (by kernel_rfl)
theorem aPy:bA Tryz.prog 214 fs:=aF bZ aZ Tryz.func214 H loops fun⟨x0,x1,()⟩ hw _=>(show bB E H Tryz.f214 fs.ps fs.rs (x0,(x1,()))=aR x0 x1 from by kernel_rfl).trans (eq x0 x1 hw)
theorem aPz:cE Tryz.prog 214 fs:=⟨aPy,_,Tryz.func214,by kernel_rfl,by kernel_rfl⟩
end nC
namespace kM
noncomputable def fs:FS:=⟨[(.val jN .f),(.val jN .f)],[(.bool,.o)],fun _=>true,fun x=>((),((kM x.1 x.2.1),()))⟩
noncomputable def E:eI:=⟨aX,[(214,nC.fs)],[]⟩
noncomputable def H:List LC:=[]
theorem bZ:aS Tryz.prog E:=aD nC.aPz (aI gO)
theorem loops:∀c,Tryz.f158.body=some c->aH E H c:=aO (by kernel_rfl)
theorem aPy:bA Tryz.prog 158 fs:=aF bZ aZ Tryz.func158 H loops fun⟨x0,x1,()⟩ hw _=>(show bB E H Tryz.f158 fs.ps fs.rs (x0,(x1,()))=aR x0 x1 from by kernel_rfl).trans (eq x0 x1 hw)
theorem aPz:cE Tryz.prog 158 fs:=⟨aPy,_,Tryz.func158,by kernel_rfl,by kernel_rfl⟩
end kM
namespace hY
noncomputable def fs:FS:=⟨[(.val (.sl 122 jN) .f),(.val (.sl 122 jN) .f)],[(.bool,.o)],fun _=>true,fun x=>((),((hY x.1 x.2.1),()))⟩
noncomputable def E:eI:=⟨aX,[(158,kM.fs)],[]⟩
noncomputable def yZ:fG:=⟨((.one (.dat (.sl 122 jN)))::(.one (.dat (.sl 122 jN)))::uu::uu::uu::ui::un 21 []),[]⟩
noncomputable def kT:List fQ:=[⟨.ret,⟨0,[4],[],[]⟩,⟨(un 4 ((.one (.dat .bool))::un 22 [])),[]⟩⟩,⟨(.exit 0),⟨0,[],[],[]⟩,⟨(un 27 []),[]⟩⟩]
noncomputable def L4:LC:=⟨4,⟨4,[0,1,5],[],[]⟩,yZ,kT,pre4,fn4⟩
noncomputable def H:List LC:=[L4]
noncomputable def code(i:Nat):Code:=(bF (cA Tryz.f74)).getD i .skip
theorem oZ:bM E H (code 0) L4:=⟨qD,fun⟨x1,x2,x3,()⟩ hp=>aU (show L4.step E H (code 0) (x1,(x2,(x3,())))=hJ x1 x2 x3 from by kernel_rfl) (zE x1 x2 x3 hp)⟩
theorem bZ:aS Tryz.prog E:=aD kM.aPz (aI gO)
theorem loops:∀c,Tryz.f74.body=some c->aH E H c:=bC (by kernel_rfl) (by kernel_rfl) fun i l h=>match i,h with
  |0,h=>Option.some.inj h▸oZ
  |n+1,h=>by cases h
theorem aPy:bA Tryz.prog 74 fs:=aF bZ aZ Tryz.func74 H loops fun⟨x0,x1,()⟩ hw _=>(show bB E H Tryz.f74 fs.ps fs.rs (x0,(x1,()))=aR x0 x1 from by kernel_rfl).trans (eq x0 x1 hw)
theorem aPz:cE Tryz.prog 74 fs:=⟨aPy,_,Tryz.func74,by kernel_rfl,by kernel_rfl⟩
end hY
namespace nD
noncomputable def fs:FS:=⟨[(.val iS .f),(.val iS .f)],[(.bool,.o)],fun _=>true,fun x=>((),((nD x.1 x.2.1),()))⟩
noncomputable def E:eI:=⟨aX,[(74,hY.fs)],[]⟩
noncomputable def H:List LC:=[]
theorem bZ:aS Tryz.prog E:=aD hY.aPz (aI gO)
theorem loops:∀c,Tryz.f32.body=some c->aH E H c:=aO (by kernel_rfl)
theorem aPy:bA Tryz.prog 32 fs:=aF bZ aZ Tryz.func32 H loops fun⟨x0,x1,()⟩ hw _=>(show bB E H Tryz.f32 fs.ps fs.rs (x0,(x1,()))=aR x0 x1 from by kernel_rfl).trans (eq x0 x1 hw)
theorem aPz:cE Tryz.prog 32 fs:=⟨aPy,_,Tryz.func32,by kernel_rfl,by kernel_rfl⟩
end nD
namespace lP
noncomputable def fs:FS:=⟨[(.val pM .f),(.val pM .f)],[(.bool,.o)],fun _=>true,fun x=>((),((lP x.1 x.2.1),()))⟩
noncomputable def E:eI:=⟨aX,[],[]⟩
noncomputable def H:List LC:=[]
theorem bZ:aS Tryz.prog E:=aI gO
theorem loops:∀c,Tryz.f230.body=some c->aH E H c:=aO (by kernel_rfl)
theorem aPy:bA Tryz.prog 230 fs:=aF bZ aZ Tryz.func230 H loops fun⟨x0,x1,()⟩ hw _=>(show bB E H Tryz.f230 fs.ps fs.rs (x0,(x1,()))=aR x0 x1 from by kernel_rfl).trans (eq x0 x1 hw)
theorem aPz:cE Tryz.prog 230 fs:=⟨aPy,_,Tryz.func230,by kernel_rfl,by kernel_rfl⟩
end lP
namespace iQ
noncomputable def fs:FS:=⟨[(.val (.sl 195 pM) .f),(.val (.sl 195 pM) .f)],[(.bool,.o)],fun _=>true,fun x=>((),((iQ x.1 x.2.1),()))⟩
noncomputable def E:eI:=⟨aX,[(230,lP.fs)],[]⟩
noncomputable def yZ:fG:=⟨((.one (.dat (.sl 195 pM)))::(.one (.dat (.sl 195 pM)))::uu::uu::uu::ui::un 21 []),[]⟩
noncomputable def kT:List fQ:=[⟨.ret,⟨0,[4],[],[]⟩,⟨(un 4 ((.one (.dat .bool))::un 22 [])),[]⟩⟩,⟨(.exit 0),⟨0,[],[],[]⟩,⟨(un 27 []),[]⟩⟩]
noncomputable def L4:LC:=⟨4,⟨4,[0,1,5],[],[]⟩,yZ,kT,pre4,fn4⟩
noncomputable def H:List LC:=[L4]
noncomputable def code(i:Nat):Code:=(bF (cA Tryz.f215)).getD i .skip
theorem oZ:bM E H (code 0) L4:=⟨qD,fun⟨x1,x2,x3,()⟩ hp=>aU (show L4.step E H (code 0) (x1,(x2,(x3,())))=hJ x1 x2 x3 from by kernel_rfl) (zE x1 x2 x3 hp)⟩
theorem bZ:aS Tryz.prog E:=aD lP.aPz (aI gO)
theorem loops:∀c,Tryz.f215.body=some c->aH E H c:=bC (by kernel_rfl) (by kernel_rfl) fun i l h=>match i,h with
  |0,h=>Option.some.inj h▸oZ
  |n+1,h=>by cases h
theorem aPy:bA Tryz.prog 215 fs:=aF bZ aZ Tryz.func215 H loops fun⟨x0,x1,()⟩ hw _=>(show bB E H Tryz.f215 fs.ps fs.rs (x0,(x1,()))=aR x0 x1 from by kernel_rfl).trans (eq x0 x1 hw)
theorem aPz:cE Tryz.prog 215 fs:=⟨aPy,_,Tryz.func215,by kernel_rfl,by kernel_rfl⟩
end iQ
namespace nA
noncomputable def fs:FS:=⟨[(.val dZ .f),(.val dZ .f)],[(.bool,.o)],fun _=>true,fun x=>((),((nA x.1 x.2.1),()))⟩
noncomputable def E:eI:=⟨aX,[(215,iQ.fs)],[]⟩
noncomputable def H:List LC:=[]
theorem bZ:aS Tryz.prog E:=aD iQ.aPz (aI gO)
theorem loops:∀c,Tryz.f159.body=some c->aH E H c:=aO (by kernel_rfl)
theorem aPy:bA Tryz.prog 159 fs:=aF bZ aZ Tryz.func159 H loops fun⟨x0,x1,()⟩ hw _=>(show bB E H Tryz.f159 fs.ps fs.rs (x0,(x1,()))=aR x0 x1 from by kernel_rfl).trans (eq x0 x1 hw)
theorem aPz:cE Tryz.prog 159 fs:=⟨aPy,_,Tryz.func159,by kernel_rfl,by kernel_rfl⟩
end nA
namespace kB
noncomputable def fs:FS:=⟨[(.val (.sl 130 dZ) .f),(.val (.sl 130 dZ) .f)],[(.bool,.o)],fun _=>true,fun x=>((),((kB x.1 x.2.1),()))⟩
noncomputable def E:eI:=⟨aX,[(159,nA.fs)],[]⟩
noncomputable def yZ:fG:=⟨((.one (.dat (.sl 130 dZ)))::(.one (.dat (.sl 130 dZ)))::uu::uu::uu::ui::un 21 []),[]⟩
noncomputable def kT:List fQ:=[⟨.ret,⟨0,[4],[],[]⟩,⟨(un 4 ((.one (.dat .bool))::un 22 [])),[]⟩⟩,⟨(.exit 0),⟨0,[],[],[]⟩,⟨(un 27 []),[]⟩⟩]
noncomputable def L4:LC:=⟨4,⟨4,[0,1,5],[],[]⟩,yZ,kT,pre4,fn4⟩
noncomputable def H:List LC:=[L4]
noncomputable def code(i:Nat):Code:=(bF (cA Tryz.f75)).getD i .skip
theorem oZ:bM E H (code 0) L4:=⟨qD,fun⟨x1,x2,x3,()⟩ hp=>aU (show L4.step E H (code 0) (x1,(x2,(x3,())))=hJ x1 x2 x3 from by kernel_rfl) (zE x1 x2 x3 hp)⟩
theorem bZ:aS Tryz.prog E:=aD nA.aPz (aI gO)
theorem loops:∀c,Tryz.f75.body=some c->aH E H c:=bC (by kernel_rfl) (by kernel_rfl) fun i l h=>match i,h with
  |0,h=>Option.some.inj h▸oZ
  |n+1,h=>by cases h
theorem aPy:bA Tryz.prog 75 fs:=aF bZ aZ Tryz.func75 H loops fun⟨x0,x1,()⟩ hw _=>(show bB E H Tryz.f75 fs.ps fs.rs (x0,(x1,()))=aR x0 x1 from by kernel_rfl).trans (eq x0 x1 hw)
theorem aPz:cE Tryz.prog 75 fs:=⟨aPy,_,Tryz.func75,by kernel_rfl,by kernel_rfl⟩
end kB
namespace lM
noncomputable def fs:FS:=⟨[(.val (.pair (.int .i64) (.pair (.int .i64) .unit)) .f),(.val (.pair (.int .i64) (.pair (.int .i64) .unit)) .f)],[(.bool,.o)],fun _=>true,fun x=>((),((lM x.1 x.2.1),()))⟩
noncomputable def E:eI:=⟨aX,[],[]⟩
noncomputable def H:List LC:=[]
theorem bZ:aS Tryz.prog E:=aI gO
theorem loops:∀c,Tryz.f231.body=some c->aH E H c:=aO (by kernel_rfl)
theorem aPy:bA Tryz.prog 231 fs:=aF bZ aZ Tryz.func231 H loops fun⟨x0,x1,()⟩ hw _=>(show bB E H Tryz.f231 fs.ps fs.rs (x0,(x1,()))=aR x0 x1 from by kernel_rfl).trans (eq x0 x1 hw)
theorem aPz:cE Tryz.prog 231 fs:=⟨aPy,_,Tryz.func231,by kernel_rfl,by kernel_rfl⟩
end lM
namespace iP
noncomputable def fs:FS:=⟨[(.val (.sl 136 (.pair (.int .i64) (.pair (.int .i64) .unit))) .f),(.val (.sl 136 (.pair (.int .i64) (.pair (.int .i64) .unit))) .f)],[(.bool,.o)],fun _=>true,fun x=>((),((iP x.1 x.2.1),()))⟩
noncomputable def E:eI:=⟨aX,[(231,lM.fs)],[]⟩
noncomputable def yZ:fG:=⟨((.one (.dat (.sl 136 (.pair (.int .i64) (.pair (.int .i64) .unit)))))::(.one (.dat (.sl 136 (.pair (.int .i64) (.pair (.int .i64) .unit)))))::uu::uu::uu::ui::un 21 []),[]⟩
noncomputable def kT:List fQ:=[⟨.ret,⟨0,[4],[],[]⟩,⟨(un 4 ((.one (.dat .bool))::un 22 [])),[]⟩⟩,⟨(.exit 0),⟨0,[],[],[]⟩,⟨(un 27 []),[]⟩⟩]
noncomputable def L4:LC:=⟨4,⟨4,[0,1,5],[],[]⟩,yZ,kT,pre4,fn4⟩
noncomputable def H:List LC:=[L4]
noncomputable def code(i:Nat):Code:=(bF (cA Tryz.f216)).getD i .skip
theorem oZ:bM E H (code 0) L4:=⟨qD,fun⟨x1,x2,x3,()⟩ hp=>aU (show L4.step E H (code 0) (x1,(x2,(x3,())))=hJ x1 x2 x3 from by kernel_rfl) (zE x1 x2 x3 hp)⟩
theorem bZ:aS Tryz.prog E:=aD lM.aPz (aI gO)
theorem loops:∀c,Tryz.f216.body=some c->aH E H c:=bC (by kernel_rfl) (by kernel_rfl) fun i l h=>match i,h with
  |0,h=>Option.some.inj h▸oZ
  |n+1,h=>by cases h
theorem aPy:bA Tryz.prog 216 fs:=aF bZ aZ Tryz.func216 H loops fun⟨x0,x1,()⟩ hw _=>(show bB E H Tryz.f216 fs.ps fs.rs (x0,(x1,()))=aR x0 x1 from by kernel_rfl).trans (eq x0 x1 hw)
theorem aPz:cE Tryz.prog 216 fs:=⟨aPy,_,Tryz.func216,by kernel_rfl,by kernel_rfl⟩
end iP
namespace kK
noncomputable def fs:FS:=⟨[(.val dX .f),(.val dX .f)],[(.bool,.o)],fun _=>true,fun x=>((),((kK x.1 x.2.1),()))⟩
noncomputable def E:eI:=⟨aX,[(216,iP.fs)],[]⟩
noncomputable def H:List LC:=[]
theorem bZ:aS Tryz.prog E:=aD iP.aPz (aI gO)
theorem loops:∀c,Tryz.f160.body=some c->aH E H c:=aO (by kernel_rfl)
theorem aPy:bA Tryz.prog 160 fs:=aF bZ aZ Tryz.func160 H loops fun⟨x0,x1,()⟩ hw _=>(show bB E H Tryz.f160 fs.ps fs.rs (x0,(x1,()))=aR x0 x1 from by kernel_rfl).trans (eq x0 x1 hw)
theorem aPz:cE Tryz.prog 160 fs:=⟨aPy,_,Tryz.func160,by kernel_rfl,by kernel_rfl⟩
end kK
namespace hP
noncomputable def fs:FS:=⟨[(.val (.sl 134 dX) .f),(.val (.sl 134 dX) .f)],[(.bool,.o)],fun _=>true,fun x=>((),((hP x.1 x.2.1),()))⟩
noncomputable def E:eI:=⟨aX,[(160,kK.fs)],[]⟩
noncomputable def yZ:fG:=⟨((.one (.dat (.sl 134 dX)))::(.one (.dat (.sl 134 dX)))::uu::uu::uu::ui::un 21 []),[]⟩
noncomputable def kT:List fQ:=[⟨.ret,⟨0,[4],[],[]⟩,⟨(un 4 ((.one (.dat .bool))::un 22 [])),[]⟩⟩,⟨(.exit 0),⟨0,[],[],[]⟩,⟨(un 27 []),[]⟩⟩]
noncomputable def L4:LC:=⟨4,⟨4,[0,1,5],[],[]⟩,yZ,kT,pre4,fn4⟩
noncomputable def H:List LC:=[L4]
noncomputable def code(i:Nat):Code:=(bF (cA Tryz.f76)).getD i .skip
theorem oZ:bM E H (code 0) L4:=⟨qD,fun⟨x1,x2,x3,()⟩ hp=>aU (show L4.step E H (code 0) (x1,(x2,(x3,())))=hJ x1 x2 x3 from by kernel_rfl) (zE x1 x2 x3 hp)⟩
theorem bZ:aS Tryz.prog E:=aD kK.aPz (aI gO)
theorem loops:∀c,Tryz.f76.body=some c->aH E H c:=bC (by kernel_rfl) (by kernel_rfl) fun i l h=>match i,h with
  |0,h=>Option.some.inj h▸oZ
  |n+1,h=>by cases h
theorem aPy:bA Tryz.prog 76 fs:=aF bZ aZ Tryz.func76 H loops fun⟨x0,x1,()⟩ hw _=>(show bB E H Tryz.f76 fs.ps fs.rs (x0,(x1,()))=aR x0 x1 from by kernel_rfl).trans (eq x0 x1 hw)
theorem aPz:cE Tryz.prog 76 fs:=⟨aPy,_,Tryz.func76,by kernel_rfl,by kernel_rfl⟩
end hP
namespace dY
noncomputable def fs:FS:=⟨[(.val (.sl 3 (.int .i64)) .f),(.val (.sl 3 (.int .i64)) .f)],[(.bool,.o)],fun _=>true,fun x=>((),((dY x.1 x.2.1),()))⟩
noncomputable def E:eI:=⟨aX,[],[]⟩
noncomputable def yZ:fG:=⟨((.one (.dat (.sl 3 (.int .i64))))::(.one (.dat (.sl 3 (.int .i64))))::uu::uu::uu::ui::un 20 []),[]⟩
noncomputable def kT:List fQ:=[⟨.ret,⟨0,[4],[],[]⟩,⟨(un 4 ((.one (.dat .bool))::un 21 [])),[]⟩⟩,⟨(.exit 0),⟨0,[],[],[]⟩,⟨(un 26 []),[]⟩⟩]
noncomputable def L4:LC:=⟨4,⟨4,[0,1,5],[],[]⟩,yZ,kT,pre4,fn4⟩
noncomputable def H:List LC:=[L4]
noncomputable def code(i:Nat):Code:=(bF (cA Tryz.f78)).getD i .skip
theorem oZ:bM E H (code 0) L4:=⟨qD,fun⟨x1,x2,x3,()⟩ hp=>aU (show L4.step E H (code 0) (x1,(x2,(x3,())))=hJ x1 x2 x3 from by kernel_rfl) (zE x1 x2 x3 hp)⟩
theorem bZ:aS Tryz.prog E:=aI gO
theorem loops:∀c,Tryz.f78.body=some c->aH E H c:=bC (by kernel_rfl) (by kernel_rfl) fun i l h=>match i,h with
  |0,h=>Option.some.inj h▸oZ
  |n+1,h=>by cases h
theorem aPy:bA Tryz.prog 78 fs:=aF bZ aZ Tryz.func78 H loops fun⟨x0,x1,()⟩ hw _=>(show bB E H Tryz.f78 fs.ps fs.rs (x0,(x1,()))=aR x0 x1 from by kernel_rfl).trans (eq x0 x1 hw)
theorem aPz:cE Tryz.prog 78 fs:=⟨aPy,_,Tryz.func78,by kernel_rfl,by kernel_rfl⟩
end dY
namespace kJ
noncomputable def fs:FS:=⟨[(.val cV .f),(.val cV .f)],[(.bool,.o)],fun _=>true,fun x=>((),((kJ x.1 x.2.1),()))⟩
noncomputable def E:eI:=⟨aX,[(78,dY.fs)],[]⟩
noncomputable def H:List LC:=[]
theorem bZ:aS Tryz.prog E:=aD dY.aPz (aI gO)
theorem loops:∀c,Tryz.f161.body=some c->aH E H c:=aO (by kernel_rfl)
theorem aPy:bA Tryz.prog 161 fs:=aF bZ aZ Tryz.func161 H loops fun⟨x0,x1,()⟩ hw _=>(show bB E H Tryz.f161 fs.ps fs.rs (x0,(x1,()))=aR x0 x1 from by kernel_rfl).trans (eq x0 x1 hw)
theorem aPz:cE Tryz.prog 161 fs:=⟨aPy,_,Tryz.func161,by kernel_rfl,by kernel_rfl⟩
end kJ
namespace hZ
noncomputable def fs:FS:=⟨[(.val (.sl 95 cV) .f),(.val (.sl 95 cV) .f)],[(.bool,.o)],fun _=>true,fun x=>((),((hZ x.1 x.2.1),()))⟩
noncomputable def E:eI:=⟨aX,[(161,kJ.fs)],[]⟩
noncomputable def yZ:fG:=⟨((.one (.dat (.sl 95 cV)))::(.one (.dat (.sl 95 cV)))::uu::uu::uu::ui::un 21 []),[]⟩
noncomputable def kT:List fQ:=[⟨.ret,⟨0,[4],[],[]⟩,⟨(un 4 ((.one (.dat .bool))::un 22 [])),[]⟩⟩,⟨(.exit 0),⟨0,[],[],[]⟩,⟨(un 27 []),[]⟩⟩]
noncomputable def L4:LC:=⟨4,⟨4,[0,1,5],[],[]⟩,yZ,kT,pre4,fn4⟩
noncomputable def H:List LC:=[L4]
noncomputable def code(i:Nat):Code:=(bF (cA Tryz.f77)).getD i .skip
theorem oZ:bM E H (code 0) L4:=⟨qD,fun⟨x1,x2,x3,()⟩ hp=>aU (show L4.step E H (code 0) (x1,(x2,(x3,())))=hJ x1 x2 x3 from by kernel_rfl) (zE x1 x2 x3 hp)⟩
theorem bZ:aS Tryz.prog E:=aD kJ.aPz (aI gO)
theorem loops:∀c,Tryz.f77.body=some c->aH E H c:=bC (by kernel_rfl) (by kernel_rfl) fun i l h=>match i,h with
  |0,h=>Option.some.inj h▸oZ
  |n+1,h=>by cases h
theorem aPy:bA Tryz.prog 77 fs:=aF bZ aZ Tryz.func77 H loops fun⟨x0,x1,()⟩ hw _=>(show bB E H Tryz.f77 fs.ps fs.rs (x0,(x1,()))=aR x0 x1 from by kernel_rfl).trans (eq x0 x1 hw)
theorem aPz:cE Tryz.prog 77 fs:=⟨aPy,_,Tryz.func77,by kernel_rfl,by kernel_rfl⟩
end hZ
namespace jL
noncomputable def fs:FS:=⟨[(.val dK .f),(.val dK .f)],[(.bool,.o)],fun _=>true,fun x=>((),((jL x.1 x.2.1),()))⟩
noncomputable def E:eI:=⟨aX,[],[]⟩
noncomputable def H:List LC:=[]
theorem bZ:aS Tryz.prog E:=aI gO
theorem loops:∀c,Tryz.f162.body=some c->aH E H c:=aO (by kernel_rfl)
theorem aPy:bA Tryz.prog 162 fs:=aF bZ aZ Tryz.func162 H loops fun⟨x0,x1,()⟩ hw _=>(show bB E H Tryz.f162 fs.ps fs.rs (x0,(x1,()))=aR x0 x1 from by kernel_rfl).trans (eq x0 x1 hw)
theorem aPz:cE Tryz.prog 162 fs:=⟨aPy,_,Tryz.func162,by kernel_rfl,by kernel_rfl⟩
end jL
namespace gG
noncomputable def fs:FS:=⟨[(.val (.sl 138 dK) .f),(.val (.sl 138 dK) .f)],[(.bool,.o)],fun _=>true,fun x=>((),((gG x.1 x.2.1),()))⟩
noncomputable def E:eI:=⟨aX,[(162,jL.fs)],[]⟩
noncomputable def yZ:fG:=⟨((.one (.dat (.sl 138 dK)))::(.one (.dat (.sl 138 dK)))::uu::uu::uu::ui::un 21 []),[]⟩
noncomputable def kT:List fQ:=[⟨.ret,⟨0,[4],[],[]⟩,⟨(un 4 ((.one (.dat .bool))::un 22 [])),[]⟩⟩,⟨(.exit 0),⟨0,[],[],[]⟩,⟨(un 27 []),[]⟩⟩]
noncomputable def L4:LC:=⟨4,⟨4,[0,1,5],[],[]⟩,yZ,kT,pre4,fn4⟩
noncomputable def H:List LC:=[L4]
noncomputable def code(i:Nat):Code:=(bF (cA Tryz.f79)).getD i .skip
theorem oZ:bM E H (code 0) L4:=⟨qD,fun⟨x1,x2,x3,()⟩ hp=>aU (show L4.step E H (code 0) (x1,(x2,(x3,())))=hJ x1 x2 x3 from by kernel_rfl) (zE x1 x2 x3 hp)⟩
theorem bZ:aS Tryz.prog E:=aD jL.aPz (aI gO)
theorem loops:∀c,Tryz.f79.body=some c->aH E H c:=bC (by kernel_rfl) (by kernel_rfl) fun i l h=>match i,h with
  |0,h=>Option.some.inj h▸oZ
  |n+1,h=>by cases h
theorem aPy:bA Tryz.prog 79 fs:=aF bZ aZ Tryz.func79 H loops fun⟨x0,x1,()⟩ hw _=>(show bB E H Tryz.f79 fs.ps fs.rs (x0,(x1,()))=aR x0 x1 from by kernel_rfl).trans (eq x0 x1 hw)
theorem aPz:cE Tryz.prog 79 fs:=⟨aPy,_,Tryz.func79,by kernel_rfl,by kernel_rfl⟩
end gG
namespace lW
noncomputable def fs:FS:=⟨[(.val bU .f),(.val bU .f)],[(.bool,.o)],fun _=>true,fun x=>((),((lW x.1 x.2.1),()))⟩
noncomputable def E:eI:=⟨aX,[(75,kB.fs),(76,hP.fs),(78,dY.fs),(77,hZ.fs),(79,gG.fs)],[]⟩
noncomputable def H:List LC:=[]
theorem bZ:aS Tryz.prog E:=aD kB.aPz (aD hP.aPz (aD dY.aPz (aD hZ.aPz (aD gG.aPz (aI gO)))))
theorem loops:∀c,Tryz.f33.body=some c->aH E H c:=aO (by kernel_rfl)
theorem aPy:bA Tryz.prog 33 fs:=aF bZ aZ Tryz.func33 H loops fun⟨x0,x1,()⟩ hw _=>(show bB E H Tryz.f33 fs.ps fs.rs (x0,(x1,()))=aR x0 x1 from by kernel_rfl).trans (eq x0 x1 hw)
theorem aPz:cE Tryz.prog 33 fs:=⟨aPy,_,Tryz.func33,by kernel_rfl,by kernel_rfl⟩
end lW
namespace lN
noncomputable def fs:FS:=⟨[(.val iI .f),(.val iI .f)],[(.bool,.o)],fun _=>true,fun x=>((),((lN x.1 x.2.1),()))⟩
noncomputable def E:eI:=⟨aX,[(32,nD.fs),(33,lW.fs)],[]⟩
noncomputable def H:List LC:=[]
theorem bZ:aS Tryz.prog E:=aD nD.aPz (aD lW.aPz (aI gO))
theorem loops:∀c,Tryz.f9.body=some c->aH E H c:=aO (by kernel_rfl)
theorem aPy:bA Tryz.prog 9 fs:=aF bZ aZ Tryz.func9 H loops fun⟨x0,x1,()⟩ hw _=>(show bB E H Tryz.f9 fs.ps fs.rs (x0,(x1,()))=aR x0 x1 from by kernel_rfl).trans (eq x0 x1 hw)
theorem aPz:cE Tryz.prog 9 fs:=⟨aPy,_,Tryz.func9,by kernel_rfl,by kernel_rfl⟩
end lN
namespace jQ
noncomputable def fs:FS:=⟨[(.val (.sl 5 (.int .u8)) .f),(.val (.sl 5 (.int .u8)) .f)],[(.bool,.o)],fun _=>true,fun x=>((),((jQ x.1 x.2.1),()))⟩
noncomputable def E:eI:=⟨aX,[],[]⟩
noncomputable def yZ:fG:=⟨((.one (.dat (.sl 5 (.int .u8))))::(.one (.dat (.sl 5 (.int .u8))))::uu::uu::uu::ui::un 20 []),[]⟩
noncomputable def kT:List fQ:=[⟨.ret,⟨0,[4],[],[]⟩,⟨(un 4 ((.one (.dat .bool))::un 21 [])),[]⟩⟩,⟨(.exit 0),⟨0,[],[],[]⟩,⟨(un 26 []),[]⟩⟩]
noncomputable def L4:LC:=⟨4,⟨4,[0,1,5],[],[]⟩,yZ,kT,pre4,fn4⟩
noncomputable def H:List LC:=[L4]
noncomputable def code(i:Nat):Code:=(bF (cA Tryz.f10)).getD i .skip
theorem oZ:bM E H (code 0) L4:=⟨qD,fun⟨x1,x2,x3,()⟩ hp=>aU (show L4.step E H (code 0) (x1,(x2,(x3,())))=hJ x1 x2 x3 from by kernel_rfl) (zE x1 x2 x3 hp)⟩
theorem bZ:aS Tryz.prog E:=aI gO
theorem loops:∀c,Tryz.f10.body=some c->aH E H c:=bC (by kernel_rfl) (by kernel_rfl) fun i l h=>match i,h with
  |0,h=>Option.some.inj h▸oZ
  |n+1,h=>by cases h
theorem aPy:bA Tryz.prog 10 fs:=aF bZ aZ Tryz.func10 H loops fun⟨x0,x1,()⟩ hw _=>(show bB E H Tryz.f10 fs.ps fs.rs (x0,(x1,()))=aR x0 x1 from by kernel_rfl).trans (eq x0 x1 hw)
theorem aPz:cE Tryz.prog 10 fs:=⟨aPy,_,Tryz.func10,by kernel_rfl,by kernel_rfl⟩
end jQ
namespace eH
noncomputable def fs:FS:=⟨[(.mut (.sl 5 (.int .u8))),(.val (.int .i64) .f)],[((.int .i64),.o)],fun x=>eH.pre x.1 x.2.1,fun x=>(((eH x.1 x.2.1).1,()),((eH x.1 x.2.1).2,()))⟩
noncomputable def E:eI:=⟨aX,[],[]⟩
noncomputable def qI:fG:=⟨((.one (.arr 40000001))::ui::uu::uu::uu::ui::un 14 []),[(40000001,(.arr 5 (.int .u8)))]⟩
noncomputable def eR:List fQ:=[⟨(.exit 0),⟨0,[1,0],[],[]⟩,⟨((.one (.arr 40000001))::ui::un 18 []),[(40000001,(.arr 5 (.int .u8)))]⟩⟩]
noncomputable def L2:LC:=⟨2,⟨2,[0,1,5],[],[]⟩,qI,eR,pre2,fn2⟩
noncomputable def H:List LC:=[L2]
noncomputable def code(i:Nat):Code:=(bF (cA Tryz.f11)).getD i .skip
theorem jG:bM E H (code 0) L2:=⟨kY,fun⟨x1,x2,x3,()⟩ hp=>aU (show L2.step E H (code 0) (x1,(x2,(x3,())))=cW x1 x2 x3 from by kernel_rfl) (qO x1 x2 x3 hp)⟩
theorem bZ:aS Tryz.prog E:=aI gO
theorem loops:∀c,Tryz.f11.body=some c->aH E H c:=bC (by kernel_rfl) (by kernel_rfl) fun i l h=>match i,h with
  |0,h=>Option.some.inj h▸jG
  |n+1,h=>by cases h
theorem aPy:bA Tryz.prog 11 fs:=aF bZ aZ Tryz.func11 H loops fun⟨x0,x1,()⟩ hw hp=>(show bB E H Tryz.f11 fs.ps fs.rs (x0,(x1,()))=aR x0 x1 from by kernel_rfl).trans (eq x0 x1 hw hp)
theorem aPz:cE Tryz.prog 11 fs:=⟨aPy,_,Tryz.func11,by kernel_rfl,by kernel_rfl⟩
end eH
namespace aE
noncomputable def fs:FS:=⟨[(.val (.int .i64) .f)],[(.str,.o)],fun x=>aE.pre x.1,fun x=>((),((aE x.1),()))⟩
noncomputable def E:eI:=⟨aX,[],[]⟩
noncomputable def yZ:fG:=⟨(ui::uu::uu::(.one (.dat .str))::un 16 []),[]⟩
noncomputable def kT:List fQ:=[⟨(.exit 0),⟨0,[3],[],[]⟩,⟨(uu::uu::uu::(.one (.dat .str))::un 16 []),[]⟩⟩]
noncomputable def L4:LC:=⟨4,⟨4,[0,3],[],[]⟩,yZ,kT,pre4,fn4⟩
noncomputable def H:List LC:=[L4]
noncomputable def code(i:Nat):Code:=(bF (cA Tryz.f163)).getD i .skip
theorem oZ:bM E H (code 0) L4:=⟨qD,fun⟨x1,x2,()⟩ hp=>aU (show L4.step E H (code 0) (x1,(x2,()))=hJ x1 x2 from by kernel_rfl) (zE x1 x2 hp)⟩
theorem bZ:aS Tryz.prog E:=aI gO
theorem loops:∀c,Tryz.f163.body=some c->aH E H c:=bC (by kernel_rfl) (by kernel_rfl) fun i l h=>match i,h with
  |0,h=>Option.some.inj h▸oZ
  |n+1,h=>by cases h
theorem aPy:bA Tryz.prog 163 fs:=aF bZ aZ Tryz.func163 H loops fun⟨x0,()⟩ hw hp=>(show bB E H Tryz.f163 fs.ps fs.rs (x0,())=aR x0 from by kernel_rfl).trans (eq x0 hw hp)
theorem aPz:cE Tryz.prog 163 fs:=⟨aPy,_,Tryz.func163,by kernel_rfl,by kernel_rfl⟩
end aE
namespace cB
noncomputable def lQ:List (Nat×uN):=[(40000001,(.arr 122 jN))]
noncomputable def fs:FS:=⟨[(.mut (.sl 122 jN)),(.val (.int .i64) .f)],[((.int .i64),.o)],fun x=>cB.pre x.1 x.2.1,fun x=>(((cB x.1 x.2.1).1,()),((cB x.1 x.2.1).2,()))⟩
noncomputable def E:eI:=⟨aX,[(163,aE.fs)],[]⟩
noncomputable def qI:fG:=⟨((.one (.arr 40000001))::ui::uu::uu::uu::ui::un 80 []),lQ⟩
noncomputable def eR:List fQ:=[⟨(.exit 0),⟨0,[1,0],[],[]⟩,⟨((.one (.arr 40000001))::ui::un 84 []),lQ⟩⟩]
noncomputable def L2:LC:=⟨2,⟨2,[0,1,5],[],[]⟩,qI,eR,pre2,fn2⟩
noncomputable def H:List LC:=[L2]
noncomputable def code(i:Nat):Code:=(bF (cA Tryz.f80)).getD i .skip
theorem jG:bM E H (code 0) L2:=⟨kY,fun⟨x1,x2,x3,()⟩ hp=>aU (show L2.step E H (code 0) (x1,(x2,(x3,())))=cW x1 x2 x3 from by kernel_rfl) (qO x1 x2 x3 hp)⟩
theorem bZ:aS Tryz.prog E:=aD aE.aPz (aI gO)
theorem loops:∀c,Tryz.f80.body=some c->aH E H c:=bC (by kernel_rfl) (by kernel_rfl) fun i l h=>match i,h with
  |0,h=>Option.some.inj h▸jG
  |n+1,h=>by cases h
theorem aPy:bA Tryz.prog 80 fs:=aF bZ aZ Tryz.func80 H loops fun⟨x0,x1,()⟩ hw hp=>(show bB E H Tryz.f80 fs.ps fs.rs (x0,(x1,()))=aR x0 x1 from by kernel_rfl).trans (eq x0 x1 hw hp)
theorem aPz:cE Tryz.prog 80 fs:=⟨aPy,_,Tryz.func80,by kernel_rfl,by kernel_rfl⟩
end cB
namespace gW
noncomputable def fs:FS:=⟨[(.mut iS),(.val (.int .i64) .f)],[((.int .i64),.o)],fun x=>gW.pre x.1 x.2.1,fun x=>(((gW x.1 x.2.1).1,()),((gW x.1 x.2.1).2,()))⟩
noncomputable def E:eI:=⟨aX,[(80,cB.fs)],[]⟩
noncomputable def H:List LC:=[]
theorem bZ:aS Tryz.prog E:=aD cB.aPz (aI gO)
theorem loops:∀c,Tryz.f34.body=some c->aH E H c:=aO (by kernel_rfl)
theorem aPy:bA Tryz.prog 34 fs:=aF bZ aZ Tryz.func34 H loops fun⟨x0,x1,()⟩ hw hp=>(show bB E H Tryz.f34 fs.ps fs.rs (x0,(x1,()))=aR x0 x1 from by kernel_rfl).trans (eq x0 x1 hw hp)
theorem aPz:cE Tryz.prog 34 fs:=⟨aPy,_,Tryz.func34,by kernel_rfl,by kernel_rfl⟩
end gW
namespace eG
noncomputable def lQ:List (Nat×uN):=[(40000001,(.arr 195 pM))]
noncomputable def fs:FS:=⟨[(.mut (.sl 195 pM)),(.val (.int .i64) .f)],[((.int .i64),.o)],fun x=>eG.pre x.1 x.2.1,fun x=>(((eG x.1 x.2.1).1,()),((eG x.1 x.2.1).2,()))⟩
noncomputable def E:eI:=⟨aX,[(163,aE.fs)],[]⟩
noncomputable def qI:fG:=⟨((.one (.arr 40000001))::ui::uu::uu::uu::ui::un 44 []),lQ⟩
noncomputable def eR:List fQ:=[⟨(.exit 0),⟨0,[1,0],[],[]⟩,⟨((.one (.arr 40000001))::ui::un 48 []),lQ⟩⟩]
noncomputable def L2:LC:=⟨2,⟨2,[0,1,5],[],[]⟩,qI,eR,pre2,fn2⟩
noncomputable def H:List LC:=[L2]
noncomputable def code(i:Nat):Code:=(bF (cA Tryz.f164)).getD i .skip
theorem jG:bM E H (code 0) L2:=⟨kY,fun⟨x1,x2,x3,()⟩ hp=>aU (show L2.step E H (code 0) (x1,(x2,(x3,())))=cW x1 x2 x3 from by kernel_rfl) (qO x1 x2 x3 hp)⟩
theorem bZ:aS Tryz.prog E:=aD aE.aPz (aI gO)
theorem loops:∀c,Tryz.f164.body=some c->aH E H c:=bC (by kernel_rfl) (by kernel_rfl) fun i l h=>match i,h with
  |0,h=>Option.some.inj h▸jG
  |n+1,h=>by cases h
theorem aPy:bA Tryz.prog 164 fs:=aF bZ aZ Tryz.func164 H loops fun⟨x0,x1,()⟩ hw hp=>(show bB E H Tryz.f164 fs.ps fs.rs (x0,(x1,()))=aR x0 x1 from by kernel_rfl).trans (eq x0 x1 hw hp)
theorem aPz:cE Tryz.prog 164 fs:=⟨aPy,_,Tryz.func164,by kernel_rfl,by kernel_rfl⟩
end eG
namespace eZ
noncomputable def lQ:List (Nat×uN):=[(40000001,(.arr 130 dZ))]
noncomputable def fs:FS:=⟨[(.mut (.sl 130 dZ)),(.val (.int .i64) .f)],[((.int .i64),.o)],fun x=>eZ.pre x.1 x.2.1,fun x=>(((eZ x.1 x.2.1).1,()),((eZ x.1 x.2.1).2,()))⟩
noncomputable def E:eI:=⟨aX,[(164,eG.fs)],[]⟩
noncomputable def qI:fG:=⟨((.one (.arr 40000001))::ui::uu::uu::uu::ui::un 28 []),lQ⟩
noncomputable def eR:List fQ:=[⟨(.exit 0),⟨0,[1,0],[],[]⟩,⟨((.one (.arr 40000001))::ui::un 32 []),lQ⟩⟩]
noncomputable def L2:LC:=⟨2,⟨2,[0,1,5],[],[]⟩,qI,eR,pre2,fn2⟩
noncomputable def H:List LC:=[L2]
noncomputable def code(i:Nat):Code:=(bF (cA Tryz.f81)).getD i .skip
theorem jG:bM E H (code 0) L2:=⟨kY,fun⟨x1,x2,x3,()⟩ hp=>aU (show L2.step E H (code 0) (x1,(x2,(x3,())))=cW x1 x2 x3 from by kernel_rfl) (qO x1 x2 x3 hp)⟩
theorem bZ:aS Tryz.prog E:=aD eG.aPz (aI gO)
theorem loops:∀c,Tryz.f81.body=some c->aH E H c:=bC (by kernel_rfl) (by kernel_rfl) fun i l h=>match i,h with
  |0,h=>Option.some.inj h▸jG
  |n+1,h=>by cases h
theorem aPy:bA Tryz.prog 81 fs:=aF bZ aZ Tryz.func81 H loops fun⟨x0,x1,()⟩ hw hp=>(show bB E H Tryz.f81 fs.ps fs.rs (x0,(x1,()))=aR x0 x1 from by kernel_rfl).trans (eq x0 x1 hw hp)
theorem aPz:cE Tryz.prog 81 fs:=⟨aPy,_,Tryz.func81,by kernel_rfl,by kernel_rfl⟩
end eZ
namespace eF
noncomputable def lQ:List (Nat×uN):=[(40000001,(.arr 136 (.pair (.int .i64) (.pair (.int .i64) .unit))))]
noncomputable def fs:FS:=⟨[(.mut (.sl 136 (.pair (.int .i64) (.pair (.int .i64) .unit)))),(.val (.int .i64) .f)],[((.int .i64),.o)],fun x=>eF.pre x.1 x.2.1,fun x=>(((eF x.1 x.2.1).1,()),((eF x.1 x.2.1).2,()))⟩
noncomputable def E:eI:=⟨aX,[],[]⟩
noncomputable def qI:fG:=⟨((.one (.arr 40000001))::ui::uu::uu::uu::ui::un 21 []),lQ⟩
noncomputable def eR:List fQ:=[⟨(.exit 0),⟨0,[1,0],[],[]⟩,⟨((.one (.arr 40000001))::ui::un 25 []),lQ⟩⟩]
noncomputable def L2:LC:=⟨2,⟨2,[0,1,5],[],[]⟩,qI,eR,pre2,fn2⟩
noncomputable def H:List LC:=[L2]
noncomputable def code(i:Nat):Code:=(bF (cA Tryz.f165)).getD i .skip
theorem jG:bM E H (code 0) L2:=⟨kY,fun⟨x1,x2,x3,()⟩ hp=>aU (show L2.step E H (code 0) (x1,(x2,(x3,())))=cW x1 x2 x3 from by kernel_rfl) (qO x1 x2 x3 hp)⟩
theorem bZ:aS Tryz.prog E:=aI gO
theorem loops:∀c,Tryz.f165.body=some c->aH E H c:=bC (by kernel_rfl) (by kernel_rfl) fun i l h=>match i,h with
  |0,h=>Option.some.inj h▸jG
  |n+1,h=>by cases h
theorem aPy:bA Tryz.prog 165 fs:=aF bZ aZ Tryz.func165 H loops fun⟨x0,x1,()⟩ hw hp=>(show bB E H Tryz.f165 fs.ps fs.rs (x0,(x1,()))=aR x0 x1 from by kernel_rfl).trans (eq x0 x1 hw hp)
theorem aPz:cE Tryz.prog 165 fs:=⟨aPy,_,Tryz.func165,by kernel_rfl,by kernel_rfl⟩
end eF
namespace dQ
noncomputable def lQ:List (Nat×uN):=[(40000001,(.arr 134 dX))]
noncomputable def fs:FS:=⟨[(.mut (.sl 134 dX)),(.val (.int .i64) .f)],[((.int .i64),.o)],fun x=>dQ.pre x.1 x.2.1,fun x=>(((dQ x.1 x.2.1).1,()),((dQ x.1 x.2.1).2,()))⟩
noncomputable def E:eI:=⟨aX,[(165,eF.fs)],[]⟩
noncomputable def qI:fG:=⟨((.one (.arr 40000001))::ui::uu::uu::uu::ui::un 42 []),lQ⟩
noncomputable def eR:List fQ:=[⟨(.exit 0),⟨0,[1,0],[],[]⟩,⟨((.one (.arr 40000001))::ui::un 46 []),lQ⟩⟩]
noncomputable def L2:LC:=⟨2,⟨2,[0,1,5],[],[]⟩,qI,eR,pre2,fn2⟩
noncomputable def H:List LC:=[L2]
noncomputable def code(i:Nat):Code:=(bF (cA Tryz.f82)).getD i .skip
theorem jG:bM E H (code 0) L2:=⟨kY,fun⟨x1,x2,x3,()⟩ hp=>aU (show L2.step E H (code 0) (x1,(x2,(x3,())))=cW x1 x2 x3 from by kernel_rfl) (qO x1 x2 x3 hp)⟩
theorem bZ:aS Tryz.prog E:=aD eF.aPz (aI gO)
theorem loops:∀c,Tryz.f82.body=some c->aH E H c:=bC (by kernel_rfl) (by kernel_rfl) fun i l h=>match i,h with
  |0,h=>Option.some.inj h▸jG
  |n+1,h=>by cases h
theorem aPy:bA Tryz.prog 82 fs:=aF bZ aZ Tryz.func82 H loops fun⟨x0,x1,()⟩ hw hp=>(show bB E H Tryz.f82 fs.ps fs.rs (x0,(x1,()))=aR x0 x1 from by kernel_rfl).trans (eq x0 x1 hw hp)
theorem aPz:cE Tryz.prog 82 fs:=⟨aPy,_,Tryz.func82,by kernel_rfl,by kernel_rfl⟩
end dQ
namespace bP
noncomputable def fs:FS:=⟨[(.mut (.sl 3 (.int .i64))),(.val (.int .i64) .f)],[((.int .i64),.o)],fun x=>bP.pre x.1 x.2.1,fun x=>(((bP x.1 x.2.1).1,()),((bP x.1 x.2.1).2,()))⟩
noncomputable def E:eI:=⟨aX,[],[]⟩
noncomputable def qI:fG:=⟨((.one (.arr 40000001))::ui::uu::uu::uu::ui::un 13 []),[(40000001,(.arr 3 (.int .i64)))]⟩
noncomputable def eR:List fQ:=[⟨(.exit 0),⟨0,[1,0],[],[]⟩,⟨((.one (.arr 40000001))::ui::un 17 []),[(40000001,(.arr 3 (.int .i64)))]⟩⟩]
noncomputable def L2:LC:=⟨2,⟨2,[0,1,5],[],[]⟩,qI,eR,pre2,fn2⟩
noncomputable def H:List LC:=[L2]
noncomputable def code(i:Nat):Code:=(bF (cA Tryz.f84)).getD i .skip
theorem jG:bM E H (code 0) L2:=⟨kY,fun⟨x1,x2,x3,()⟩ hp=>aU (show L2.step E H (code 0) (x1,(x2,(x3,())))=cW x1 x2 x3 from by kernel_rfl) (qO x1 x2 x3 hp)⟩
theorem bZ:aS Tryz.prog E:=aI gO
theorem loops:∀c,Tryz.f84.body=some c->aH E H c:=bC (by kernel_rfl) (by kernel_rfl) fun i l h=>match i,h with
  |0,h=>Option.some.inj h▸jG
  |n+1,h=>by cases h
theorem aPy:bA Tryz.prog 84 fs:=aF bZ aZ Tryz.func84 H loops fun⟨x0,x1,()⟩ hw hp=>(show bB E H Tryz.f84 fs.ps fs.rs (x0,(x1,()))=aR x0 x1 from by kernel_rfl).trans (eq x0 x1 hw hp)
theorem aPz:cE Tryz.prog 84 fs:=⟨aPy,_,Tryz.func84,by kernel_rfl,by kernel_rfl⟩
end bP
namespace dR
noncomputable def lQ:List (Nat×uN):=[(40000001,(.arr 95 cV))]
noncomputable def fs:FS:=⟨[(.mut (.sl 95 cV)),(.val (.int .i64) .f)],[((.int .i64),.o)],fun x=>dR.pre x.1 x.2.1,fun x=>(((dR x.1 x.2.1).1,()),((dR x.1 x.2.1).2,()))⟩
noncomputable def E:eI:=⟨aX,[(84,bP.fs)],[]⟩
noncomputable def qI:fG:=⟨((.one (.arr 40000001))::ui::uu::uu::uu::ui::un 35 []),lQ⟩
noncomputable def eR:List fQ:=[⟨(.exit 0),⟨0,[1,0],[],[]⟩,⟨((.one (.arr 40000001))::ui::un 39 []),lQ⟩⟩]
noncomputable def L2:LC:=⟨2,⟨2,[0,1,5],[],[]⟩,qI,eR,pre2,fn2⟩
noncomputable def H:List LC:=[L2]
noncomputable def code(i:Nat):Code:=(bF (cA Tryz.f83)).getD i .skip
theorem jG:bM E H (code 0) L2:=⟨kY,fun⟨x1,x2,x3,()⟩ hp=>aU (show L2.step E H (code 0) (x1,(x2,(x3,())))=cW x1 x2 x3 from by kernel_rfl) (qO x1 x2 x3 hp)⟩
theorem bZ:aS Tryz.prog E:=aD bP.aPz (aI gO)
theorem loops:∀c,Tryz.f83.body=some c->aH E H c:=bC (by kernel_rfl) (by kernel_rfl) fun i l h=>match i,h with
  |0,h=>Option.some.inj h▸jG
  |n+1,h=>by cases h
theorem aPy:bA Tryz.prog 83 fs:=aF bZ aZ Tryz.func83 H loops fun⟨x0,x1,()⟩ hw hp=>(show bB E H Tryz.f83 fs.ps fs.rs (x0,(x1,()))=aR x0 x1 from by kernel_rfl).trans (eq x0 x1 hw hp)
theorem aPz:cE Tryz.prog 83 fs:=⟨aPy,_,Tryz.func83,by kernel_rfl,by kernel_rfl⟩
end dR
namespace dE
noncomputable def lQ:List (Nat×uN):=[(40000001,(.arr 138 dK))]
noncomputable def fs:FS:=⟨[(.mut (.sl 138 dK)),(.val (.int .i64) .f)],[((.int .i64),.o)],fun x=>dE.pre x.1 x.2.1,fun x=>(((dE x.1 x.2.1).1,()),((dE x.1 x.2.1).2,()))⟩
noncomputable def E:eI:=⟨aX,[(163,aE.fs)],[]⟩
noncomputable def qI:fG:=⟨((.one (.arr 40000001))::ui::uu::uu::uu::ui::un 37 []),lQ⟩
noncomputable def eR:List fQ:=[⟨(.exit 0),⟨0,[1,0],[],[]⟩,⟨((.one (.arr 40000001))::ui::un 41 []),lQ⟩⟩]
noncomputable def L2:LC:=⟨2,⟨2,[0,1,5],[],[]⟩,qI,eR,pre2,fn2⟩
noncomputable def H:List LC:=[L2]
noncomputable def code(i:Nat):Code:=(bF (cA Tryz.f85)).getD i .skip
theorem jG:bM E H (code 0) L2:=⟨kY,fun⟨x1,x2,x3,()⟩ hp=>aU (show L2.step E H (code 0) (x1,(x2,(x3,())))=cW x1 x2 x3 from by kernel_rfl) (qO x1 x2 x3 hp)⟩
theorem bZ:aS Tryz.prog E:=aD aE.aPz (aI gO)
theorem loops:∀c,Tryz.f85.body=some c->aH E H c:=bC (by kernel_rfl) (by kernel_rfl) fun i l h=>match i,h with
  |0,h=>Option.some.inj h▸jG
  |n+1,h=>by cases h
theorem aPy:bA Tryz.prog 85 fs:=aF bZ aZ Tryz.func85 H loops fun⟨x0,x1,()⟩ hw hp=>(show bB E H Tryz.f85 fs.ps fs.rs (x0,(x1,()))=aR x0 x1 from by kernel_rfl).trans (eq x0 x1 hw hp)
theorem aPz:cE Tryz.prog 85 fs:=⟨aPy,_,Tryz.func85,by kernel_rfl,by kernel_rfl⟩
end dE
namespace fC
noncomputable def fs:FS:=⟨[(.mut bU),(.val (.int .i64) .f)],[((.int .i64),.o)],fun x=>fC.pre x.1 x.2.1,fun x=>(((fC x.1 x.2.1).1,()),((fC x.1 x.2.1).2,()))⟩
noncomputable def E:eI:=⟨aX,[(81,eZ.fs),(82,dQ.fs),(84,bP.fs),(83,dR.fs),(85,dE.fs)],[]⟩
noncomputable def H:List LC:=[]
theorem bZ:aS Tryz.prog E:=aD eZ.aPz (aD dQ.aPz (aD bP.aPz (aD dR.aPz (aD dE.aPz (aI gO)))))
theorem loops:∀c,Tryz.f35.body=some c->aH E H c:=aO (by kernel_rfl)
theorem aPy:bA Tryz.prog 35 fs:=aF bZ aZ Tryz.func35 H loops fun⟨x0,x1,()⟩ hw hp=>(show bB E H Tryz.f35 fs.ps fs.rs (x0,(x1,()))=aR x0 x1 from by kernel_rfl).trans (eq x0 x1 hw hp)
theorem aPz:cE Tryz.prog 35 fs:=⟨aPy,_,Tryz.func35,by kernel_rfl,by kernel_rfl⟩
end fC
namespace fA
noncomputable def fs:FS:=⟨[(.mut iI),(.val (.int .i64) .f)],[((.int .i64),.o)],fun x=>fA.pre x.1 x.2.1,fun x=>(((fA x.1 x.2.1).1,()),((fA x.1 x.2.1).2,()))⟩
noncomputable def E:eI:=⟨aX,[(34,gW.fs),(35,fC.fs)],[]⟩
noncomputable def H:List LC:=[]
theorem bZ:aS Tryz.prog E:=aD gW.aPz (aD fC.aPz (aI gO))
theorem loops:∀c,Tryz.f12.body=some c->aH E H c:=aO (by kernel_rfl)
theorem aPy:bA Tryz.prog 12 fs:=aF bZ aZ Tryz.func12 H loops fun⟨x0,x1,()⟩ hw hp=>(show bB E H Tryz.f12 fs.ps fs.rs (x0,(x1,()))=aR x0 x1 from by kernel_rfl).trans (eq x0 x1 hw hp)
theorem aPz:cE Tryz.prog 12 fs:=⟨aPy,_,Tryz.func12,by kernel_rfl,by kernel_rfl⟩
end fA
namespace cX
noncomputable def fs:FS:=⟨[(.val (.sl 122 jN) .f),(.val (.int .i64) .f)],[((.int .i64),.o)],fun x=>cX.pre x.1 x.2.1,fun x=>((),((cX x.1 x.2.1),()))⟩
noncomputable def E:eI:=⟨aX,[(163,aE.fs)],[]⟩
noncomputable def qI:fG:=⟨((.one (.dat (.sl 122 jN)))::ui::uu::uu::uu::ui::un 98 []),[]⟩
noncomputable def eR:List fQ:=[⟨.ret,⟨0,[4],[],[]⟩,⟨(un 4 (ui::un 99 [])),[]⟩⟩,⟨(.exit 0),⟨0,[1],[],[]⟩,⟨(uu::ui::un 102 []),[]⟩⟩]
noncomputable def L2:LC:=⟨2,⟨2,[0,1,5],[],[]⟩,qI,eR,pre2,fn2⟩
noncomputable def H:List LC:=[L2]
noncomputable def code(i:Nat):Code:=(bF (cA Tryz.f86)).getD i .skip
theorem jG:bM E H (code 0) L2:=⟨kY,fun⟨x1,x2,x3,()⟩ hp=>aU (show L2.step E H (code 0) (x1,(x2,(x3,())))=cW x1 x2 x3 from by kernel_rfl) (qO x1 x2 x3 hp)⟩
theorem bZ:aS Tryz.prog E:=aD aE.aPz (aI gO)
theorem loops:∀c,Tryz.f86.body=some c->aH E H c:=bC (by kernel_rfl) (by kernel_rfl) fun i l h=>match i,h with
  |0,h=>Option.some.inj h▸jG
  |n+1,h=>by cases h
theorem aPy:bA Tryz.prog 86 fs:=aF bZ aZ Tryz.func86 H loops fun⟨x0,x1,()⟩ hw hp=>(show bB E H Tryz.f86 fs.ps fs.rs (x0,(x1,()))=aR x0 x1 from by kernel_rfl).trans (eq x0 x1 hw hp)
theorem aPz:cE Tryz.prog 86 fs:=⟨aPy,_,Tryz.func86,by kernel_rfl,by kernel_rfl⟩
end cX
namespace eY
noncomputable def fs:FS:=⟨[(.val iS .f),(.val (.int .i64) .f)],[((.int .i64),.o)],fun x=>eY.pre x.1 x.2.1,fun x=>((),((eY x.1 x.2.1),()))⟩
noncomputable def E:eI:=⟨aX,[(86,cX.fs)],[]⟩
noncomputable def H:List LC:=[]
theorem bZ:aS Tryz.prog E:=aD cX.aPz (aI gO)
theorem loops:∀c,Tryz.f36.body=some c->aH E H c:=aO (by kernel_rfl)
theorem aPy:bA Tryz.prog 36 fs:=aF bZ aZ Tryz.func36 H loops fun⟨x0,x1,()⟩ hw hp=>(show bB E H Tryz.f36 fs.ps fs.rs (x0,(x1,()))=aR x0 x1 from by kernel_rfl).trans (eq x0 x1 hw hp)
theorem aPz:cE Tryz.prog 36 fs:=⟨aPy,_,Tryz.func36,by kernel_rfl,by kernel_rfl⟩
end eY
namespace dV
noncomputable def fs:FS:=⟨[(.val (.sl 195 pM) .f),(.val (.int .i64) .f)],[((.int .i64),.o)],fun x=>dV.pre x.1 x.2.1,fun x=>((),((dV x.1 x.2.1),()))⟩
noncomputable def E:eI:=⟨aX,[(163,aE.fs)],[]⟩
noncomputable def qI:fG:=⟨((.one (.dat (.sl 195 pM)))::ui::uu::uu::uu::ui::un 54 []),[]⟩
noncomputable def eR:List fQ:=[⟨.ret,⟨0,[4],[],[]⟩,⟨(un 4 (ui::un 55 [])),[]⟩⟩,⟨(.exit 0),⟨0,[1],[],[]⟩,⟨(uu::ui::un 58 []),[]⟩⟩]
noncomputable def L2:LC:=⟨2,⟨2,[0,1,5],[],[]⟩,qI,eR,pre2,fn2⟩
noncomputable def H:List LC:=[L2]
noncomputable def code(i:Nat):Code:=(bF (cA Tryz.f166)).getD i .skip
theorem jG:bM E H (code 0) L2:=⟨kY,fun⟨x1,x2,x3,()⟩ hp=>aU (show L2.step E H (code 0) (x1,(x2,(x3,())))=cW x1 x2 x3 from by kernel_rfl) (qO x1 x2 x3 hp)⟩
theorem bZ:aS Tryz.prog E:=aD aE.aPz (aI gO)
theorem loops:∀c,Tryz.f166.body=some c->aH E H c:=bC (by kernel_rfl) (by kernel_rfl) fun i l h=>match i,h with
  |0,h=>Option.some.inj h▸jG
  |n+1,h=>by cases h
theorem aPy:bA Tryz.prog 166 fs:=aF bZ aZ Tryz.func166 H loops fun⟨x0,x1,()⟩ hw hp=>(show bB E H Tryz.f166 fs.ps fs.rs (x0,(x1,()))=aR x0 x1 from by kernel_rfl).trans (eq x0 x1 hw hp)
theorem aPz:cE Tryz.prog 166 fs:=⟨aPy,_,Tryz.func166,by kernel_rfl,by kernel_rfl⟩
end dV
namespace eK
noncomputable def fs:FS:=⟨[(.val (.sl 130 dZ) .f),(.val (.int .i64) .f)],[((.int .i64),.o)],fun x=>eK.pre x.1 x.2.1,fun x=>((),((eK x.1 x.2.1),()))⟩
noncomputable def E:eI:=⟨aX,[(166,dV.fs)],[]⟩
noncomputable def qI:fG:=⟨((.one (.dat (.sl 130 dZ)))::ui::uu::uu::uu::ui::un 34 []),[]⟩
noncomputable def eR:List fQ:=[⟨.ret,⟨0,[4],[],[]⟩,⟨(un 4 (ui::un 35 [])),[]⟩⟩,⟨(.exit 0),⟨0,[1],[],[]⟩,⟨(uu::ui::un 38 []),[]⟩⟩]
noncomputable def L2:LC:=⟨2,⟨2,[0,1,5],[],[]⟩,qI,eR,pre2,fn2⟩
noncomputable def H:List LC:=[L2]
noncomputable def code(i:Nat):Code:=(bF (cA Tryz.f87)).getD i .skip
theorem jG:bM E H (code 0) L2:=⟨kY,fun⟨x1,x2,x3,()⟩ hp=>aU (show L2.step E H (code 0) (x1,(x2,(x3,())))=cW x1 x2 x3 from by kernel_rfl) (qO x1 x2 x3 hp)⟩
theorem bZ:aS Tryz.prog E:=aD dV.aPz (aI gO)
theorem loops:∀c,Tryz.f87.body=some c->aH E H c:=bC (by kernel_rfl) (by kernel_rfl) fun i l h=>match i,h with
  |0,h=>Option.some.inj h▸jG
  |n+1,h=>by cases h
theorem aPy:bA Tryz.prog 87 fs:=aF bZ aZ Tryz.func87 H loops fun⟨x0,x1,()⟩ hw hp=>(show bB E H Tryz.f87 fs.ps fs.rs (x0,(x1,()))=aR x0 x1 from by kernel_rfl).trans (eq x0 x1 hw hp)
theorem aPz:cE Tryz.prog 87 fs:=⟨aPy,_,Tryz.func87,by kernel_rfl,by kernel_rfl⟩
end eK
namespace dU
noncomputable def fs:FS:=⟨[(.val (.sl 136 (.pair (.int .i64) (.pair (.int .i64) .unit))) .f),(.val (.int .i64) .f)],[((.int .i64),.o)],fun x=>dU.pre x.1 x.2.1,fun x=>((),((dU x.1 x.2.1),()))⟩
noncomputable def E:eI:=⟨aX,[],[]⟩
noncomputable def qI:fG:=⟨((.one (.dat (.sl 136 (.pair (.int .i64) (.pair (.int .i64) .unit)))))::ui::uu::uu::uu::ui::un 25 []),[]⟩
noncomputable def eR:List fQ:=[⟨.ret,⟨0,[4],[],[]⟩,⟨(un 4 (ui::un 26 [])),[]⟩⟩,⟨(.exit 0),⟨0,[1],[],[]⟩,⟨(uu::ui::un 29 []),[]⟩⟩]
noncomputable def L2:LC:=⟨2,⟨2,[0,1,5],[],[]⟩,qI,eR,pre2,fn2⟩
noncomputable def H:List LC:=[L2]
noncomputable def code(i:Nat):Code:=(bF (cA Tryz.f167)).getD i .skip
theorem jG:bM E H (code 0) L2:=⟨kY,fun⟨x1,x2,x3,()⟩ hp=>aU (show L2.step E H (code 0) (x1,(x2,(x3,())))=cW x1 x2 x3 from by kernel_rfl) (qO x1 x2 x3 hp)⟩
theorem bZ:aS Tryz.prog E:=aI gO
theorem loops:∀c,Tryz.f167.body=some c->aH E H c:=bC (by kernel_rfl) (by kernel_rfl) fun i l h=>match i,h with
  |0,h=>Option.some.inj h▸jG
  |n+1,h=>by cases h
theorem aPy:bA Tryz.prog 167 fs:=aF bZ aZ Tryz.func167 H loops fun⟨x0,x1,()⟩ hw hp=>(show bB E H Tryz.f167 fs.ps fs.rs (x0,(x1,()))=aR x0 x1 from by kernel_rfl).trans (eq x0 x1 hw hp)
theorem aPz:cE Tryz.prog 167 fs:=⟨aPy,_,Tryz.func167,by kernel_rfl,by kernel_rfl⟩
end dU
namespace dH
noncomputable def fs:FS:=⟨[(.val (.sl 134 dX) .f),(.val (.int .i64) .f)],[((.int .i64),.o)],fun x=>dH.pre x.1 x.2.1,fun x=>((),((dH x.1 x.2.1),()))⟩
noncomputable def E:eI:=⟨aX,[(167,dU.fs)],[]⟩
noncomputable def qI:fG:=⟨((.one (.dat (.sl 134 dX)))::ui::uu::uu::uu::ui::un 52 []),[]⟩
noncomputable def eR:List fQ:=[⟨.ret,⟨0,[4],[],[]⟩,⟨(un 4 (ui::un 53 [])),[]⟩⟩,⟨(.exit 0),⟨0,[1],[],[]⟩,⟨(uu::ui::un 56 []),[]⟩⟩]
noncomputable def L2:LC:=⟨2,⟨2,[0,1,5],[],[]⟩,qI,eR,pre2,fn2⟩
noncomputable def H:List LC:=[L2]
noncomputable def code(i:Nat):Code:=(bF (cA Tryz.f88)).getD i .skip
theorem jG:bM E H (code 0) L2:=⟨kY,fun⟨x1,x2,x3,()⟩ hp=>aU (show L2.step E H (code 0) (x1,(x2,(x3,())))=cW x1 x2 x3 from by kernel_rfl) (qO x1 x2 x3 hp)⟩
theorem bZ:aS Tryz.prog E:=aD dU.aPz (aI gO)
theorem loops:∀c,Tryz.f88.body=some c->aH E H c:=bC (by kernel_rfl) (by kernel_rfl) fun i l h=>match i,h with
  |0,h=>Option.some.inj h▸jG
  |n+1,h=>by cases h
theorem aPy:bA Tryz.prog 88 fs:=aF bZ aZ Tryz.func88 H loops fun⟨x0,x1,()⟩ hw hp=>(show bB E H Tryz.f88 fs.ps fs.rs (x0,(x1,()))=aR x0 x1 from by kernel_rfl).trans (eq x0 x1 hw hp)
theorem aPz:cE Tryz.prog 88 fs:=⟨aPy,_,Tryz.func88,by kernel_rfl,by kernel_rfl⟩
end dH
namespace bK
noncomputable def fs:FS:=⟨[(.val (.sl 3 (.int .i64)) .f),(.val (.int .i64) .f)],[((.int .i64),.o)],fun x=>bK.pre x.1 x.2.1,fun x=>((),((bK x.1 x.2.1),()))⟩
noncomputable def E:eI:=⟨aX,[],[]⟩
noncomputable def qI:fG:=⟨((.one (.dat (.sl 3 (.int .i64))))::ui::uu::uu::uu::ui::un 15 []),[]⟩
noncomputable def eR:List fQ:=[⟨.ret,⟨0,[4],[],[]⟩,⟨(un 4 (ui::un 16 [])),[]⟩⟩,⟨(.exit 0),⟨0,[1],[],[]⟩,⟨(uu::ui::un 19 []),[]⟩⟩]
noncomputable def L2:LC:=⟨2,⟨2,[0,1,5],[],[]⟩,qI,eR,pre2,fn2⟩
noncomputable def H:List LC:=[L2]
noncomputable def code(i:Nat):Code:=(bF (cA Tryz.f90)).getD i .skip
theorem jG:bM E H (code 0) L2:=⟨kY,fun⟨x1,x2,x3,()⟩ hp=>aU (show L2.step E H (code 0) (x1,(x2,(x3,())))=cW x1 x2 x3 from by kernel_rfl) (qO x1 x2 x3 hp)⟩
theorem bZ:aS Tryz.prog E:=aI gO
theorem loops:∀c,Tryz.f90.body=some c->aH E H c:=bC (by kernel_rfl) (by kernel_rfl) fun i l h=>match i,h with
  |0,h=>Option.some.inj h▸jG
  |n+1,h=>by cases h
theorem aPy:bA Tryz.prog 90 fs:=aF bZ aZ Tryz.func90 H loops fun⟨x0,x1,()⟩ hw hp=>(show bB E H Tryz.f90 fs.ps fs.rs (x0,(x1,()))=aR x0 x1 from by kernel_rfl).trans (eq x0 x1 hw hp)
theorem aPz:cE Tryz.prog 90 fs:=⟨aPy,_,Tryz.func90,by kernel_rfl,by kernel_rfl⟩
end bK
namespace dG
noncomputable def fs:FS:=⟨[(.val (.sl 95 cV) .f),(.val (.int .i64) .f)],[((.int .i64),.o)],fun x=>dG.pre x.1 x.2.1,fun x=>((),((dG x.1 x.2.1),()))⟩
noncomputable def E:eI:=⟨aX,[(90,bK.fs)],[]⟩
noncomputable def qI:fG:=⟨((.one (.dat (.sl 95 cV)))::ui::uu::uu::uu::ui::un 43 []),[]⟩
noncomputable def eR:List fQ:=[⟨.ret,⟨0,[4],[],[]⟩,⟨(un 4 (ui::un 44 [])),[]⟩⟩,⟨(.exit 0),⟨0,[1],[],[]⟩,⟨(uu::ui::un 47 []),[]⟩⟩]
noncomputable def L2:LC:=⟨2,⟨2,[0,1,5],[],[]⟩,qI,eR,pre2,fn2⟩
noncomputable def H:List LC:=[L2]
noncomputable def code(i:Nat):Code:=(bF (cA Tryz.f89)).getD i .skip
theorem jG:bM E H (code 0) L2:=⟨kY,fun⟨x1,x2,x3,()⟩ hp=>aU (show L2.step E H (code 0) (x1,(x2,(x3,())))=cW x1 x2 x3 from by kernel_rfl) (qO x1 x2 x3 hp)⟩
theorem bZ:aS Tryz.prog E:=aD bK.aPz (aI gO)
theorem loops:∀c,Tryz.f89.body=some c->aH E H c:=bC (by kernel_rfl) (by kernel_rfl) fun i l h=>match i,h with
  |0,h=>Option.some.inj h▸jG
  |n+1,h=>by cases h
theorem aPy:bA Tryz.prog 89 fs:=aF bZ aZ Tryz.func89 H loops fun⟨x0,x1,()⟩ hw hp=>(show bB E H Tryz.f89 fs.ps fs.rs (x0,(x1,()))=aR x0 x1 from by kernel_rfl).trans (eq x0 x1 hw hp)
theorem aPz:cE Tryz.prog 89 fs:=⟨aPy,_,Tryz.func89,by kernel_rfl,by kernel_rfl⟩
end dG
namespace cY
noncomputable def fs:FS:=⟨[(.val (.sl 138 dK) .f),(.val (.int .i64) .f)],[((.int .i64),.o)],fun x=>cY.pre x.1 x.2.1,fun x=>((),((cY x.1 x.2.1),()))⟩
noncomputable def E:eI:=⟨aX,[(163,aE.fs)],[]⟩
noncomputable def qI:fG:=⟨((.one (.dat (.sl 138 dK)))::ui::uu::uu::uu::ui::un 45 []),[]⟩
noncomputable def eR:List fQ:=[⟨.ret,⟨0,[4],[],[]⟩,⟨(un 4 (ui::un 46 [])),[]⟩⟩,⟨(.exit 0),⟨0,[1],[],[]⟩,⟨(uu::ui::un 49 []),[]⟩⟩]
noncomputable def L2:LC:=⟨2,⟨2,[0,1,5],[],[]⟩,qI,eR,pre2,fn2⟩
noncomputable def H:List LC:=[L2]
noncomputable def code(i:Nat):Code:=(bF (cA Tryz.f91)).getD i .skip
theorem jG:bM E H (code 0) L2:=⟨kY,fun⟨x1,x2,x3,()⟩ hp=>aU (show L2.step E H (code 0) (x1,(x2,(x3,())))=cW x1 x2 x3 from by kernel_rfl) (qO x1 x2 x3 hp)⟩
theorem bZ:aS Tryz.prog E:=aD aE.aPz (aI gO)
theorem loops:∀c,Tryz.f91.body=some c->aH E H c:=bC (by kernel_rfl) (by kernel_rfl) fun i l h=>match i,h with
  |0,h=>Option.some.inj h▸jG
  |n+1,h=>by cases h
theorem aPy:bA Tryz.prog 91 fs:=aF bZ aZ Tryz.func91 H loops fun⟨x0,x1,()⟩ hw hp=>(show bB E H Tryz.f91 fs.ps fs.rs (x0,(x1,()))=aR x0 x1 from by kernel_rfl).trans (eq x0 x1 hw hp)
theorem aPz:cE Tryz.prog 91 fs:=⟨aPy,_,Tryz.func91,by kernel_rfl,by kernel_rfl⟩
end cY
namespace eL
noncomputable def fs:FS:=⟨[(.val bU .f),(.val (.int .i64) .f)],[((.int .i64),.o)],fun x=>eL.pre x.1 x.2.1,fun x=>((),((eL x.1 x.2.1),()))⟩
noncomputable def E:eI:=⟨aX,[(87,eK.fs),(88,dH.fs),(90,bK.fs),(89,dG.fs),(91,cY.fs)],[]⟩
noncomputable def H:List LC:=[]
theorem bZ:aS Tryz.prog E:=aD eK.aPz (aD dH.aPz (aD bK.aPz (aD dG.aPz (aD cY.aPz (aI gO)))))
theorem loops:∀c,Tryz.f37.body=some c->aH E H c:=aO (by kernel_rfl)
theorem aPy:bA Tryz.prog 37 fs:=aF bZ aZ Tryz.func37 H loops fun⟨x0,x1,()⟩ hw hp=>(show bB E H Tryz.f37 fs.ps fs.rs (x0,(x1,()))=aR x0 x1 from by kernel_rfl).trans (eq x0 x1 hw hp)
theorem aPz:cE Tryz.prog 37 fs:=⟨aPy,_,Tryz.func37,by kernel_rfl,by kernel_rfl⟩
end eL
namespace fJ
noncomputable def fs:FS:=⟨[(.val iI .f),(.val (.int .i64) .f)],[((.int .i64),.o)],fun x=>fJ.pre x.1 x.2.1,fun x=>((),((fJ x.1 x.2.1),()))⟩
noncomputable def E:eI:=⟨aX,[(36,eY.fs),(37,eL.fs)],[]⟩
noncomputable def H:List LC:=[]
theorem bZ:aS Tryz.prog E:=aD eY.aPz (aD eL.aPz (aI gO))
theorem loops:∀c,Tryz.f13.body=some c->aH E H c:=aO (by kernel_rfl)
theorem aPy:bA Tryz.prog 13 fs:=aF bZ aZ Tryz.func13 H loops fun⟨x0,x1,()⟩ hw hp=>(show bB E H Tryz.f13 fs.ps fs.rs (x0,(x1,()))=aR x0 x1 from by kernel_rfl).trans (eq x0 x1 hw hp)
theorem aPz:cE Tryz.prog 13 fs:=⟨aPy,_,Tryz.func13,by kernel_rfl,by kernel_rfl⟩
end fJ
namespace lY
noncomputable def lQ:List (Nat×uN):=[(10000000,(.box bS (.dat bS))),(0,(.box dZ (.pair (.dat (.int .i64)) (.pair (.dat (.int .i64)) (.pair (.arr 20000000) (.dat .unit)))))),(20000000,(.arr 195 pM)),(8224,(.box dZ (.pair (.dat (.int .i64)) (.pair (.dat (.int .i64)) (.pair (.arr 20000001) (.dat .unit)))))),(20000001,(.arr 195 pM))]
noncomputable def fs:FS:=⟨[(.ref bS .f)],[(dZ,.o)],fun _=>true,fun x=>(((lY x.1).1,()),((lY x.1).2,()))⟩
noncomputable def E:eI:=⟨aX,[(209,aA.fs),(211,aP.fs)],[]⟩
noncomputable def sh6:fG:=⟨((.one (.bptr 10000000 [] bS))::uu::(.one (.bptr 0 [] dZ))::(.one (.bptr 8224 [] dZ))::ui::ui::un 44 []),lQ⟩
noncomputable def aOl:List fQ:=[⟨(.exit 0),⟨0,[2,3,0],[],[]⟩,⟨((.one (.bptr 10000000 [] bS))::uu::(.one (.bptr 0 [] dZ))::(.one (.bptr 8224 [] dZ))::un 46 []),lQ⟩⟩]
noncomputable def L6:LC:=⟨6,⟨6,[0,2,3,4,5],[],[]⟩,sh6,aOl,pre6,fn6⟩
noncomputable def H:List LC:=[L6]
noncomputable def code(i:Nat):Code:=(bF (cA Tryz.f226)).getD i .skip
theorem aOS:bM E H (code 0) L6:=⟨mu6,fun⟨x1,x2,x3,x4,x5,x6,x7,x8,x9,x10,x11,()⟩ hp=>aU (show L6.step E H (code 0) (x1,(x2,(x3,(x4,(x5,(x6,(x7,(x8,(x9,(x10,(x11,())))))))))))=aNF x1 x2 x3 x4 x5 x6 x7 x8 x9 x10 x11 from by kernel_rfl) (ok6 x1 x2 x3 x4 x5 x6 x7 x8 x9 x10 x11 hp)⟩
theorem bZ:aS Tryz.prog E:=aD aA.aPz (aD aP.aPz (aI gO))
theorem loops:∀c,Tryz.f226.body=some c->aH E H c:=bC (by kernel_rfl) (by kernel_rfl) fun i l h=>match i,h with
  |0,h=>Option.some.inj h▸aOS
  |n+1,h=>by cases h
theorem aPy:bA Tryz.prog 226 fs:=aF bZ aZ Tryz.func226 H loops fun⟨x0,()⟩ hw _=>(show bB E H Tryz.f226 fs.ps fs.rs (x0,())=aR x0 from by kernel_rfl).trans (eq x0 hw)
theorem aPz:cE Tryz.prog 226 fs:=⟨aPy,_,Tryz.func226,by kernel_rfl,by kernel_rfl⟩
end lY
namespace jP
noncomputable def lQ:List (Nat×uN):=[(10000000,(.box bS (.dat bS))),(0,(.box dX (.pair (.dat (.int .i64)) (.pair (.dat (.int .i64)) (.pair (.dat (.int .i64)) (.pair (.dat (.int .i64)) (.pair (.arr 20000000) (.dat .unit)))))))),(20000000,(.arr 136 (.pair (.int .i64) (.pair (.int .i64) .unit)))),(8224,(.box dX (.pair (.dat (.int .i64)) (.pair (.dat (.int .i64)) (.pair (.dat (.int .i64)) (.pair (.dat (.int .i64)) (.pair (.arr 20000001) (.dat .unit)))))))),(20000001,(.arr 136 (.pair (.int .i64) (.pair (.int .i64) .unit))))]
noncomputable def fs:FS:=⟨[(.ref bS .f)],[(dX,.o)],fun _=>true,fun x=>(((jP x.1).1,()),((jP x.1).2,()))⟩
noncomputable def E:eI:=⟨aX,[(209,aA.fs)],[]⟩
noncomputable def sh8:fG:=⟨((.one (.bptr 10000000 [] bS))::uu::(.one (.bptr 0 [] dX))::(.one (.bptr 8224 [] dX))::ui::ui::un 42 []),lQ⟩
noncomputable def aLR:List fQ:=[⟨(.exit 0),⟨0,[2,3,0],[],[]⟩,⟨((.one (.bptr 10000000 [] bS))::uu::(.one (.bptr 0 [] dX))::(.one (.bptr 8224 [] dX))::un 44 []),lQ⟩⟩]
noncomputable def L8:LC:=⟨8,⟨8,[0,2,3,4,5],[],[]⟩,sh8,aLR,pre8,fn8⟩
noncomputable def H:List LC:=[L8]
noncomputable def code(i:Nat):Code:=(bF (cA Tryz.f227)).getD i .skip
theorem aNS:bM E H (code 0) L8:=⟨mu8,fun⟨x1,x2,x3,x4,x5,x6,x7,x8,x9,x10,x11,x12,x13,x14,x15,()⟩ hp=>aU (show L8.step E H (code 0) (x1,(x2,(x3,(x4,(x5,(x6,(x7,(x8,(x9,(x10,(x11,(x12,(x13,(x14,(x15,())))))))))))))))=aJ4 x1 x2 x3 x4 x5 x6 x7 x8 x9 x10 x11 x12 x13 x14 x15 from by kernel_rfl) (ok8 x1 x2 x3 x4 x5 x6 x7 x8 x9 x10 x11 x12 x13 x14 x15 hp)⟩
theorem bZ:aS Tryz.prog E:=aD aA.aPz (aI gO)
theorem loops:∀c,Tryz.f227.body=some c->aH E H c:=bC (by kernel_rfl) (by kernel_rfl) fun i l h=>match i,h with
  |0,h=>Option.some.inj h▸aNS
  |n+1,h=>by cases h
theorem aPy:bA Tryz.prog 227 fs:=aF bZ aZ Tryz.func227 H loops fun⟨x0,()⟩ hw _=>(show bB E H Tryz.f227 fs.ps fs.rs (x0,())=aR x0 from by kernel_rfl).trans (eq x0 hw)
theorem aPz:cE Tryz.prog 227 fs:=⟨aPy,_,Tryz.func227,by kernel_rfl,by kernel_rfl⟩
end jP
namespace gJ
noncomputable def lQ:List (Nat×uN):=[(10000000,(.box bS (.dat bS))),(0,(.box cV (.pair (.dat (.int .i64)) (.pair (.arr 20000000) (.pair (.arr 20000001) (.pair (.arr 20000002) (.dat .unit))))))),(20000000,(.arr 3 (.int .i64))),(20000001,(.arr 3 (.int .i64))),(20000002,(.arr 3 (.int .i64))),(8224,(.box cV (.pair (.dat (.int .i64)) (.pair (.arr 20000003) (.pair (.arr 20000004) (.pair (.arr 20000005) (.dat .unit))))))),(20000003,(.arr 3 (.int .i64))),(20000004,(.arr 3 (.int .i64))),(20000005,(.arr 3 (.int .i64)))]
noncomputable def fs:FS:=⟨[(.ref bS .f),(.val (.int .i64) .f)],[(cV,.o)],fun x=>gJ.pre x.1 x.2.1,fun x=>(((gJ x.1 x.2.1).1,()),((gJ x.1 x.2.1).2,()))⟩
noncomputable def E:eI:=⟨aX,[(209,aA.fs)],[]⟩
noncomputable def sh5:fG:=⟨((.one (.bptr 10000000 [] bS))::ui::uu::uu::(.one (.bptr 0 [] cV))::(.one (.bptr 8224 [] cV))::ui::ui::un 51 []),lQ⟩
noncomputable def zG:List fQ:=[⟨(.exit 0),⟨0,[0,1,4,5],[],[]⟩,⟨((.one (.bptr 10000000 [] bS))::ui::uu::uu::(.one (.bptr 0 [] cV))::(.one (.bptr 8224 [] cV))::un 53 []),lQ⟩⟩]
noncomputable def L5:LC:=⟨5,⟨5,[0,1,4,5,6,7],[],[]⟩,sh5,zG,pre5,fn5⟩
noncomputable def aOM:fG:=⟨((.one (.bptr 10000000 [] bS))::ui::uu::uu::(.one (.bptr 0 [] cV))::(.one (.bptr 8224 [] cV))::un 4 (ui::un 48 [])),lQ⟩
noncomputable def aNI:List fQ:=[⟨(.exit 2),⟨0,[4,5,0],[],[]⟩,⟨((.one (.bptr 10000000 [] bS))::uu::uu::uu::(.one (.bptr 0 [] cV))::(.one (.bptr 8224 [] cV))::un 53 []),lQ⟩⟩]
noncomputable def L12:LC:=⟨12,⟨12,[0,1,4,5,10],[],[]⟩,aOM,aNI,pre12,fn12⟩
noncomputable def H:List LC:=[L5,L12]
noncomputable def code(i:Nat):Code:=(bF (cA Tryz.f228)).getD i .skip
theorem aCL:bM E H (code 0) L5:=⟨mu5,fun⟨x1,x2,x3,x4,x5,x6,x7,x8,x9,x10,x11,x12,x13,x14,()⟩ hp=>aU (show L5.step E H (code 0) (x1,(x2,(x3,(x4,(x5,(x6,(x7,(x8,(x9,(x10,(x11,(x12,(x13,(x14,()))))))))))))))=tX x1 x2 x3 x4 x5 x6 x7 x8 x9 x10 x11 x12 x13 x14 from by kernel_rfl) (ok5 x1 x2 x3 x4 x5 x6 x7 x8 x9 x10 x11 x12 x13 x14 hp)⟩
theorem aOt:bM E H (code 1) L12:=⟨aOs,fun⟨x1,x2,x3,x4,x5,x6,x7,x8,x9,x10,x11,x12,x13,()⟩ hp=>aU (show L12.step E H (code 1) (x1,(x2,(x3,(x4,(x5,(x6,(x7,(x8,(x9,(x10,(x11,(x12,(x13,())))))))))))))=aLD x1 x2 x3 x4 x5 x6 x7 x8 x9 x10 x11 x12 x13 from by kernel_rfl) (aON x1 x2 x3 x4 x5 x6 x7 x8 x9 x10 x11 x12 x13 hp)⟩
theorem bZ:aS Tryz.prog E:=aD aA.aPz (aI gO)
theorem loops:∀c,Tryz.f228.body=some c->aH E H c:=bC (by kernel_rfl) (by kernel_rfl) fun i l h=>match i,h with
  |0,h=>Option.some.inj h▸aCL
  |1,h=>Option.some.inj h▸aOt
  |n+2,h=>by cases h
theorem aPy:bA Tryz.prog 228 fs:=aF bZ aZ Tryz.func228 H loops fun⟨x0,x1,()⟩ hw hp=>(show bB E H Tryz.f228 fs.ps fs.rs (x0,(x1,()))=aR x0 x1 from by kernel_rfl).trans (eq x0 x1 hw hp)
theorem aPz:cE Tryz.prog 228 fs:=⟨aPy,_,Tryz.func228,by kernel_rfl,by kernel_rfl⟩
end gJ
namespace eP
noncomputable def lQ:List (Nat×uN):=[(10000000,(.box bS (.dat bS))),(0,(.box bU (.pair (.arr 20000000) (.pair (.arr 20000001) (.pair (.arr 20000002) (.pair (.dat (.int .i64)) (.pair (.arr 20000003) (.pair (.arr 20000004) (.dat .unit))))))))),(20000000,(.arr 130 dZ)),(20000001,(.arr 134 dX)),(20000002,(.arr 95 cV)),(20000003,(.arr 3 (.int .i64))),(20000004,(.arr 138 dK)),(8224,(.box bU (.pair (.arr 20000005) (.pair (.arr 20000006) (.pair (.arr 20000007) (.pair (.dat (.int .i64)) (.pair (.arr 20000008) (.pair (.arr 20000009) (.dat .unit))))))))),(20000005,(.arr 130 dZ)),(20000006,(.arr 134 dX)),(20000007,(.arr 95 cV)),(20000008,(.arr 3 (.int .i64))),(20000009,(.arr 138 dK))]
noncomputable def fs:FS:=⟨[(.ref bS .f),(.val (.int .i64) .f)],[(bU,.o)],fun x=>eP.pre x.1 x.2.1,fun x=>(((eP x.1 x.2.1).1,()),((eP x.1 x.2.1).2,()))⟩
noncomputable def E:eI:=⟨aX,[(209,aA.fs),(211,aP.fs),(226,lY.fs),(227,jP.fs),(228,gJ.fs)],[]⟩
noncomputable def yZ:fG:=⟨((.one (.bptr 10000000 [] bS))::ui::uu::uu::(.one (.bptr 0 [] bU))::(.one (.bptr 8224 [] bU))::ui::ui::un 109 []),lQ⟩
noncomputable def kT:List fQ:=[⟨(.exit 0),⟨0,[0,1,4,5],[],[]⟩,⟨((.one (.bptr 10000000 [] bS))::ui::uu::uu::(.one (.bptr 0 [] bU))::(.one (.bptr 8224 [] bU))::un 111 []),lQ⟩⟩]
noncomputable def L4:LC:=⟨4,⟨4,[0,1,4,5,6,7],[],[]⟩,yZ,kT,pre4,fn4⟩
noncomputable def aNX:fG:=⟨((.one (.bptr 10000000 [] bS))::ui::uu::uu::(.one (.bptr 0 [] bU))::(.one (.bptr 8224 [] bU))::ui::uu::uu::ui::un 107 []),lQ⟩
noncomputable def aIM:List fQ:=[⟨(.exit 2),⟨0,[0,1,4,5],[],[]⟩,⟨((.one (.bptr 10000000 [] bS))::ui::uu::uu::(.one (.bptr 0 [] bU))::(.one (.bptr 8224 [] bU))::un 111 []),lQ⟩⟩]
noncomputable def L10:LC:=⟨10,⟨10,[0,1,4,5,6,9],[],[]⟩,aNX,aIM,pre10,fn10⟩
noncomputable def aPh:fG:=⟨((.one (.bptr 10000000 [] bS))::ui::uu::uu::(.one (.bptr 0 [] bU))::(.one (.bptr 8224 [] bU))::ui::un 4 (ui::un 105 [])),lQ⟩
noncomputable def aNV:List fQ:=[⟨(.exit 4),⟨0,[0,4,5],[],[]⟩,⟨((.one (.bptr 10000000 [] bS))::uu::uu::uu::(.one (.bptr 0 [] bU))::(.one (.bptr 8224 [] bU))::un 111 []),lQ⟩⟩]
noncomputable def L16:LC:=⟨16,⟨16,[0,1,4,5,6,11],[],[]⟩,aPh,aNV,pre16,fn16⟩
noncomputable def aP7:fG:=⟨((.one (.bptr 10000000 [] bS))::uu::uu::uu::(.one (.bptr 0 [] bU))::(.one (.bptr 8224 [] bU))::un 7 (ui::un 103 [])),lQ⟩
noncomputable def aNK:List fQ:=[⟨(.exit 6),⟨0,[4,5,0],[],[]⟩,⟨((.one (.bptr 10000000 [] bS))::uu::uu::uu::(.one (.bptr 0 [] bU))::(.one (.bptr 8224 [] bU))::un 111 []),lQ⟩⟩]
noncomputable def L22:LC:=⟨22,⟨22,[0,4,5,13],[],[]⟩,aP7,aNK,pre22,fn22⟩
noncomputable def H:List LC:=[L4,L10,L16,L22]
noncomputable def code(i:Nat):Code:=(bF (cA Tryz.f206)).getD i .skip
theorem oZ:bM E H (code 0) L4:=⟨qD,fun⟨x1,x2,x3,x4,x5,x6,x7,x8,x9,x10,x11,x12,x13,x14,x15,x16,x17,x18,()⟩ hp=>aU (show L4.step E H (code 0) (x1,(x2,(x3,(x4,(x5,(x6,(x7,(x8,(x9,(x10,(x11,(x12,(x13,(x14,(x15,(x16,(x17,(x18,()))))))))))))))))))=hJ x1 x2 x3 x4 x5 x6 x7 x8 x9 x10 x11 x12 x13 x14 x15 x16 x17 x18 from by kernel_rfl) (zE x1 x2 x3 x4 x5 x6 x7 x8 x9 x10 x11 x12 x13 x14 x15 x16 x17 x18 hp)⟩
theorem aLx:bM E H (code 1) L10:=⟨aLr,fun⟨x1,x2,x3,x4,x5,x6,x7,x8,x9,x10,x11,x12,x13,x14,x15,x16,x17,x18,()⟩ hp=>aU (show L10.step E H (code 1) (x1,(x2,(x3,(x4,(x5,(x6,(x7,(x8,(x9,(x10,(x11,(x12,(x13,(x14,(x15,(x16,(x17,(x18,()))))))))))))))))))=aEC x1 x2 x3 x4 x5 x6 x7 x8 x9 x10 x11 x12 x13 x14 x15 x16 x17 x18 from by kernel_rfl) (aNx x1 x2 x3 x4 x5 x6 x7 x8 x9 x10 x11 x12 x13 x14 x15 x16 x17 x18 hp)⟩
theorem aOA:bM E H (code 2) L16:=⟨aOz,fun⟨x1,x2,x3,x4,x5,x6,x7,x8,x9,x10,x11,x12,x13,x14,x15,x16,x17,x18,()⟩ hp=>aU (show L16.step E H (code 2) (x1,(x2,(x3,(x4,(x5,(x6,(x7,(x8,(x9,(x10,(x11,(x12,(x13,(x14,(x15,(x16,(x17,(x18,()))))))))))))))))))=aLG x1 x2 x3 x4 x5 x6 x7 x8 x9 x10 x11 x12 x13 x14 x15 x16 x17 x18 from by kernel_rfl) (aP4 x1 x2 x3 x4 x5 x6 x7 x8 x9 x10 x11 x12 x13 x14 x15 x16 x17 x18 hp)⟩
theorem aOn:bM E H (code 3) L22:=⟨aOr,fun⟨x1,x2,x3,x4,x5,x6,x7,x8,x9,x10,x11,x12,x13,x14,x15,x16,()⟩ hp=>aU (show L22.step E H (code 3) (x1,(x2,(x3,(x4,(x5,(x6,(x7,(x8,(x9,(x10,(x11,(x12,(x13,(x14,(x15,(x16,()))))))))))))))))=aLu x1 x2 x3 x4 x5 x6 x7 x8 x9 x10 x11 x12 x13 x14 x15 x16 from by kernel_rfl) (aOZ x1 x2 x3 x4 x5 x6 x7 x8 x9 x10 x11 x12 x13 x14 x15 x16 hp)⟩
theorem bZ:aS Tryz.prog E:=aD aA.aPz (aD aP.aPz (aD lY.aPz (aD jP.aPz (aD gJ.aPz (aI gO)))))
theorem loops:∀c,Tryz.f206.body=some c->aH E H c:=bC (by kernel_rfl) (by kernel_rfl) fun i l h=>match i,h with
  |0,h=>Option.some.inj h▸oZ
  |1,h=>Option.some.inj h▸aLx
  |2,h=>Option.some.inj h▸aOA
  |3,h=>Option.some.inj h▸aOn
  |n+4,h=>by cases h
theorem aPy:bA Tryz.prog 206 fs:=aF bZ aZ Tryz.func206 H loops fun⟨x0,x1,()⟩ hw hp=>(show bB E H Tryz.f206 fs.ps fs.rs (x0,(x1,()))=aR x0 x1 from by kernel_rfl).trans (eq x0 x1 hw hp)
theorem aPz:cE Tryz.prog 206 fs:=⟨aPy,_,Tryz.func206,by kernel_rfl,by kernel_rfl⟩
end eP
namespace kA
noncomputable def fs:FS:=⟨[(.val gA .f),(.val (.sl 5 (.int .u8)) .f)],[(bU,.o),(.bool,.o)],fun x=>kA.pre x.1 x.2.1,fun x=>((),((kA x.1 x.2.1).1,((kA x.1 x.2.1).2,())))⟩
noncomputable def E:eI:=⟨aX,[(68,iG.fs),(51,bX.fs),(206,eP.fs)],[]⟩
noncomputable def H:List LC:=[]
theorem bZ:aS Tryz.prog E:=aD iG.aPz (aD bX.aPz (aD eP.aPz (aI gO)))
theorem loops:∀c,Tryz.f145.body=some c->aH E H c:=aO (by kernel_rfl)
theorem aPy:bA Tryz.prog 145 fs:=aF bZ aZ Tryz.func145 H loops fun⟨x0,x1,()⟩ hw hp=>(show bB E H Tryz.f145 fs.ps fs.rs (x0,(x1,()))=aR x0 x1 from by kernel_rfl).trans (eq x0 x1 hw hp)
theorem aPz:cE Tryz.prog 145 fs:=⟨aPy,_,Tryz.func145,by kernel_rfl,by kernel_rfl⟩
end kA
namespace nF
noncomputable def fs:FS:=⟨[(.val gA .f),(.val iI .o),(.val lU .f)],[(iI,.o)],fun x=>nF.pre x.1 x.2.1 x.2.2.1,fun x=>((),((nF x.1 x.2.1 x.2.2.1),()))⟩
noncomputable def E:eI:=⟨aX,[(146,mI.fs),(144,eB.fs),(147,lO.fs),(145,kA.fs)],[]⟩
noncomputable def H:List LC:=[]
theorem bZ:aS Tryz.prog E:=aD mI.aPz (aD eB.aPz (aD lO.aPz (aD kA.aPz (aI gO))))
theorem loops:∀c,Tryz.f66.body=some c->aH E H c:=aO (by kernel_rfl)
theorem aPy:bA Tryz.prog 66 fs:=aF bZ aZ Tryz.func66 H loops fun⟨x0,x1,x2,()⟩ hw hp=>(show bB E H Tryz.f66 fs.ps fs.rs (x0,(x1,(x2,())))=aR x0 x1 x2 from by kernel_rfl).trans (eq x0 x1 x2 hw hp)
theorem aPz:cE Tryz.prog 66 fs:=⟨aPy,_,Tryz.func66,by kernel_rfl,by kernel_rfl⟩
end nF
namespace mR
noncomputable def fs:FS:=⟨[(.val gA .f),(.val iI .f),(.val lU .f)],[(iI,.o)],fun x=>mR.pre x.1 x.2.1 x.2.2.1,fun x=>((),((mR x.1 x.2.1 x.2.2.1),()))⟩
noncomputable def E:eI:=⟨aX,[(64,mM.fs),(19,cO.fs),(65,gH.fs),(66,nF.fs)],[]⟩
noncomputable def H:List LC:=[]
theorem bZ:aS Tryz.prog E:=aD mM.aPz (aD cO.aPz (aD gH.aPz (aD nF.aPz (aI gO))))
theorem loops:∀c,Tryz.f25.body=some c->aH E H c:=aO (by kernel_rfl)
theorem aPy:bA Tryz.prog 25 fs:=aF bZ aZ Tryz.func25 H loops fun⟨x0,x1,x2,()⟩ hw hp=>(show bB E H Tryz.f25 fs.ps fs.rs (x0,(x1,(x2,())))=aR x0 x1 x2 from by kernel_rfl).trans (eq x0 x1 x2 hw hp)
theorem aPz:cE Tryz.prog 25 fs:=⟨aPy,_,Tryz.func25,by kernel_rfl,by kernel_rfl⟩
end mR
namespace kR
noncomputable def fs:FS:=⟨[(.val gA .f),(.val (.sl 5 (.int .u8)) .f)],[(iI,.o)],fun x=>kR.pre x.1 x.2.1,fun x=>((),((kR x.1 x.2.1),()))⟩
noncomputable def E:eI:=⟨aX,[(27,kI.fs),(30,kP.fs),(25,mR.fs)],[]⟩
noncomputable def yZ:fG:=⟨(uu::uu::(.one (.bptr 0 [] gA))::uu::(.one (.bptr 32 [] iI))::(.one (.bptr 8256 [] iI))::(.one (.arr 20000012))::uu::ui::un 21 []),[(0,(.box gA (.dat gA))),(32,(.box iI (.pair (.dat (.int .i64)) (.pair (.dat (.int .i64)) (.pair (.pair (.dat (.int .i64)) (.pair (.dat (.int .i64)) (.pair (.arr 20000000) (.dat .unit)))) (.pair (.pair (.arr 20000001) (.pair (.arr 20000002) (.pair (.arr 20000003) (.pair (.dat (.int .i64)) (.pair (.arr 20000004) (.pair (.arr 20000005) (.dat .unit))))))) (.dat .unit))))))),(20000000,(.arr 122 jN)),(20000001,(.arr 130 dZ)),(20000002,(.arr 134 dX)),(20000003,(.arr 95 cV)),(20000004,(.arr 3 (.int .i64))),(20000005,(.arr 138 dK)),(8256,(.box iI (.pair (.dat (.int .i64)) (.pair (.dat (.int .i64)) (.pair (.pair (.dat (.int .i64)) (.pair (.dat (.int .i64)) (.pair (.arr 20000006) (.dat .unit)))) (.pair (.pair (.arr 20000007) (.pair (.arr 20000008) (.pair (.arr 20000009) (.pair (.dat (.int .i64)) (.pair (.arr 20000010) (.pair (.arr 20000011) (.dat .unit))))))) (.dat .unit))))))),(20000006,(.arr 122 jN)),(20000007,(.arr 130 dZ)),(20000008,(.arr 134 dX)),(20000009,(.arr 95 cV)),(20000010,(.arr 3 (.int .i64))),(20000011,(.arr 138 dK)),(20000012,(.arr 52 lU))]⟩
noncomputable def kT:List fQ:=[⟨(.exit 0),⟨0,[4,5],[],[]⟩,⟨(un 4 ((.one (.bptr 32 [] iI))::(.one (.bptr 8256 [] iI))::un 24 [])),[(32,(.box iI (.pair (.dat (.int .i64)) (.pair (.dat (.int .i64)) (.pair (.pair (.dat (.int .i64)) (.pair (.dat (.int .i64)) (.pair (.arr 20000000) (.dat .unit)))) (.pair (.pair (.arr 20000001) (.pair (.arr 20000002) (.pair (.arr 20000003) (.pair (.dat (.int .i64)) (.pair (.arr 20000004) (.pair (.arr 20000005) (.dat .unit))))))) (.dat .unit))))))),(20000000,(.arr 122 jN)),(20000001,(.arr 130 dZ)),(20000002,(.arr 134 dX)),(20000003,(.arr 95 cV)),(20000004,(.arr 3 (.int .i64))),(20000005,(.arr 138 dK)),(8256,(.box iI (.pair (.dat (.int .i64)) (.pair (.dat (.int .i64)) (.pair (.pair (.dat (.int .i64)) (.pair (.dat (.int .i64)) (.pair (.arr 20000006) (.dat .unit)))) (.pair (.pair (.arr 20000007) (.pair (.arr 20000008) (.pair (.arr 20000009) (.pair (.dat (.int .i64)) (.pair (.arr 20000010) (.pair (.arr 20000011) (.dat .unit))))))) (.dat .unit))))))),(20000006,(.arr 122 jN)),(20000007,(.arr 130 dZ)),(20000008,(.arr 134 dX)),(20000009,(.arr 95 cV)),(20000010,(.arr 3 (.int .i64))),(20000011,(.arr 138 dK))]⟩⟩]
noncomputable def L4:LC:=⟨4,⟨4,[2,4,5,6,8],[],[]⟩,yZ,kT,pre4,fn4⟩
noncomputable def H:List LC:=[L4]
noncomputable def code(i:Nat):Code:=(bF (cA Tryz.f5)).getD i .skip
theorem oZ:bM E H (code 0) L4:=⟨qD,fun⟨x1,x2,x3,x4,x5,x6,x7,x8,x9,x10,x11,x12,x13,x14,x15,x16,x17,x18,x19,x20,x21,x22,x23,x24,x25,x26,x27,x28,x29,x30,x31,()⟩ hp=>aU (show L4.step E H (code 0) (x1,(x2,(x3,(x4,(x5,(x6,(x7,(x8,(x9,(x10,(x11,(x12,(x13,(x14,(x15,(x16,(x17,(x18,(x19,(x20,(x21,(x22,(x23,(x24,(x25,(x26,(x27,(x28,(x29,(x30,(x31,())))))))))))))))))))))))))))))))=hJ x1 x2 x3 x4 x5 x6 x7 x8 x9 x10 x11 x12 x13 x14 x15 x16 x17 x18 x19 x20 x21 x22 x23 x24 x25 x26 x27 x28 x29 x30 x31 from by kernel_rfl) (zE x1 x2 x3 x4 x5 x6 x7 x8 x9 x10 x11 x12 x13 x14 x15 x16 x17 x18 x19 x20 x21 x22 x23 x24 x25 x26 x27 x28 x29 x30 x31 hp)⟩
theorem bZ:aS Tryz.prog E:=aD kI.aPz (aD kP.aPz (aD mR.aPz (aI gO)))
theorem loops:∀c,Tryz.f5.body=some c->aH E H c:=bC (by kernel_rfl) (by kernel_rfl) fun i l h=>match i,h with
  |0,h=>Option.some.inj h▸oZ
  |n+1,h=>by cases h
theorem aPy:bA Tryz.prog 5 fs:=aF bZ aZ Tryz.func5 H loops fun⟨x0,x1,()⟩ hw hp=>(show bB E H Tryz.f5 fs.ps fs.rs (x0,(x1,()))=aR x0 x1 from by kernel_rfl).trans (eq x0 x1 hw hp)
theorem aPz:cE Tryz.prog 5 fs:=⟨aPy,_,Tryz.func5,by kernel_rfl,by kernel_rfl⟩
end kR
namespace yA
noncomputable def fs:FS:=⟨[(.cell 1 bS),(.ref bS .f),(.ref dZ .o)],[],fun x=>yA.pre x.1 x.2.1,fun x=>(((yA x.1 x.2.1).1,((yA x.1 x.2.1).2,())),())⟩
noncomputable def we:uX:=⟨198,198,fs,[(.par 0),(.par 2)],[(.arg 0),(.of 0),(.arg 1)]⟩
noncomputable def E:eI:=⟨aX,[(136,aC.fs),(137,aV.fs)],[]⟩
noncomputable def H:List LC:=[]
theorem bZ:aS Tryz.prog E:=aD aC.aPz (aD aV.aPz (aI gO))
theorem loops:∀c,Tryz.f198.body=some c->aH E H c:=aO (by kernel_rfl)
theorem aPy:pU Tryz.prog 198 fs we.real:=fn_soundW bZ aZ Tryz.func198 H loops fun⟨x0,x1,()⟩ hw hp=>(show qL E H Tryz.f198 fs.ps fs.rs we.real (x0,(x1,()))=aR x0 x1 from by kernel_rfl).trans (eq x0 x1 hw hp)
theorem aPz:wF Tryz.prog we:=⟨aPy,_,Tryz.func198,by kernel_rfl,by kernel_rfl⟩
end yA
namespace jU
noncomputable def lQ:List (Nat×uN):=[(10000000,(.box bS (.dat bS))),(10000064,(.box .op (.bptr 10000000 [] bS))),(10000128,(.box dZ (.pair (.dat (.int .i64)) (.pair (.dat (.int .i64)) (.pair (.arr 20000000) (.dat .unit)))))),(20000000,(.arr 195 pM))]
noncomputable def fs:FS:=⟨[(.ref bS .f),(.cell 0 bS),(.ref dZ .o)],[],fun x=>jU.pre x.1 x.2.1,fun x=>(((jU x.1 x.2.1).1,((jU x.1 x.2.1).2,())),())⟩
noncomputable def we:uX:=⟨129,198,fs,[(.par 0),(.clo 198 [1,2])],[(.arg 0),(.cap 1 0),(.cap 1 1)]⟩
noncomputable def E:eI:=⟨aX,[(136,aC.fs)],[yA.we]⟩
noncomputable def qI:fG:=⟨((.one (.bptr 10000000 [] bS))::(.one (.clo 198 (.pair (.bptr 10000064 [] .op) (.pair (.bptr 10000128 [] dZ) .unit))))::uu::uu::ui::ui::un 16 []),lQ⟩
noncomputable def eR:List fQ:=[⟨(.exit 0),⟨0,[0,1],[],[]⟩,⟨((.one (.bptr 10000000 [] bS))::(.one (.clo 198 (.pair (.bptr 10000064 [] .op) (.pair (.bptr 10000128 [] dZ) .unit))))::un 20 []),lQ⟩⟩]
noncomputable def L2:LC:=⟨2,⟨2,[0,1,4,5],[],[]⟩,qI,eR,pre2,fn2⟩
noncomputable def H:List LC:=[L2]
noncomputable def code(i:Nat):Code:=(bF (cA Tryz.f129)).getD i .skip
theorem jG:bM E H (code 0) L2:=⟨kY,fun⟨x1,x2,x3,x4,x5,x6,x7,()⟩ hp=>aU (show L2.step E H (code 0) (x1,(x2,(x3,(x4,(x5,(x6,(x7,())))))))=cW x1 x2 x3 x4 x5 x6 x7 from by kernel_rfl) (qO x1 x2 x3 x4 x5 x6 x7 hp)⟩
theorem bZ:aS Tryz.prog E:=aD aC.aPz (oK yA.aPz (aI gO))
theorem loops:∀c,Tryz.f129.body=some c->aH E H c:=bC (by kernel_rfl) (by kernel_rfl) fun i l h=>match i,h with
  |0,h=>Option.some.inj h▸jG
  |n+1,h=>by cases h
theorem aPy:pU Tryz.prog 129 fs we.real:=fn_soundW bZ aZ Tryz.func129 H loops fun⟨x0,x1,()⟩ hw hp=>(show qL E H Tryz.f129 fs.ps fs.rs we.real (x0,(x1,()))=aR x0 x1 from by kernel_rfl).trans (eq x0 x1 hw hp)
theorem aPz:wF Tryz.prog we:=⟨aPy,_,Tryz.func129,by kernel_rfl,by kernel_rfl⟩
end jU
namespace nX
noncomputable def fs:FS:=⟨[(.ref bS .f)],[(dZ,.o)],fun _=>true,fun x=>(((nX x.1).1,()),((nX x.1).2,()))⟩
noncomputable def E:eI:=⟨aX,[(136,aC.fs)],[jU.we]⟩
noncomputable def H:List LC:=[]
theorem bZ:aS Tryz.prog E:=aD aC.aPz (oK jU.aPz (aI gO))
theorem loops:∀c,Tryz.f131.body=some c->aH E H c:=aO (by kernel_rfl)
theorem aPy:bA Tryz.prog 131 fs:=aF bZ aZ Tryz.func131 H loops fun⟨x0,()⟩ hw _=>(show bB E H Tryz.f131 fs.ps fs.rs (x0,())=aR x0 from by kernel_rfl).trans (eq x0 hw)
theorem aPz:cE Tryz.prog 131 fs:=⟨aPy,_,Tryz.func131,by kernel_rfl,by kernel_rfl⟩
end nX
namespace qX
noncomputable def fs:FS:=⟨[(.cell 1 bS),(.ref bS .f),(.ref dX .o)],[],fun x=>qX.pre x.1 x.2.1,fun x=>(((qX x.1 x.2.1).1,((qX x.1 x.2.1).2,())),())⟩
noncomputable def we:uX:=⟨199,199,fs,[(.par 0),(.par 2)],[(.arg 0),(.of 0),(.arg 1)]⟩
noncomputable def E:eI:=⟨aX,[(136,aC.fs)],[]⟩
noncomputable def H:List LC:=[]
theorem bZ:aS Tryz.prog E:=aD aC.aPz (aI gO)
theorem loops:∀c,Tryz.f199.body=some c->aH E H c:=aO (by kernel_rfl)
theorem aPy:pU Tryz.prog 199 fs we.real:=fn_soundW bZ aZ Tryz.func199 H loops fun⟨x0,x1,()⟩ hw hp=>(show qL E H Tryz.f199 fs.ps fs.rs we.real (x0,(x1,()))=aR x0 x1 from by kernel_rfl).trans (eq x0 x1 hw hp)
theorem aPz:wF Tryz.prog we:=⟨aPy,_,Tryz.func199,by kernel_rfl,by kernel_rfl⟩
end qX
namespace gV
noncomputable def lQ:List (Nat×uN):=[(10000000,(.box bS (.dat bS))),(10000064,(.box .op (.bptr 10000000 [] bS))),(10000128,(.box dX (.pair (.dat (.int .i64)) (.pair (.dat (.int .i64)) (.pair (.dat (.int .i64)) (.pair (.dat (.int .i64)) (.pair (.arr 20000000) (.dat .unit)))))))),(20000000,(.arr 136 (.pair (.int .i64) (.pair (.int .i64) .unit))))]
noncomputable def fs:FS:=⟨[(.ref bS .f),(.cell 0 bS),(.ref dX .o)],[],fun x=>gV.pre x.1 x.2.1,fun x=>(((gV x.1 x.2.1).1,((gV x.1 x.2.1).2,())),())⟩
noncomputable def we:uX:=⟨129,199,fs,[(.par 0),(.clo 199 [1,2])],[(.arg 0),(.cap 1 0),(.cap 1 1)]⟩
noncomputable def E:eI:=⟨aX,[(136,aC.fs)],[qX.we]⟩
noncomputable def qI:fG:=⟨((.one (.bptr 10000000 [] bS))::(.one (.clo 199 (.pair (.bptr 10000064 [] .op) (.pair (.bptr 10000128 [] dX) .unit))))::uu::uu::ui::ui::un 16 []),lQ⟩
noncomputable def eR:List fQ:=[⟨(.exit 0),⟨0,[0,1],[],[]⟩,⟨((.one (.bptr 10000000 [] bS))::(.one (.clo 199 (.pair (.bptr 10000064 [] .op) (.pair (.bptr 10000128 [] dX) .unit))))::un 20 []),lQ⟩⟩]
noncomputable def L2:LC:=⟨2,⟨2,[0,1,4,5],[],[]⟩,qI,eR,pre2,fn2⟩
noncomputable def H:List LC:=[L2]
noncomputable def code(i:Nat):Code:=(bF (cA Tryz.f129)).getD i .skip
theorem jG:bM E H (code 0) L2:=⟨kY,fun⟨x1,x2,x3,x4,x5,x6,x7,x8,x9,()⟩ hp=>aU (show L2.step E H (code 0) (x1,(x2,(x3,(x4,(x5,(x6,(x7,(x8,(x9,())))))))))=cW x1 x2 x3 x4 x5 x6 x7 x8 x9 from by kernel_rfl) (qO x1 x2 x3 x4 x5 x6 x7 x8 x9 hp)⟩
theorem bZ:aS Tryz.prog E:=aD aC.aPz (oK qX.aPz (aI gO))
theorem loops:∀c,Tryz.f129.body=some c->aH E H c:=bC (by kernel_rfl) (by kernel_rfl) fun i l h=>match i,h with
  |0,h=>Option.some.inj h▸jG
  |n+1,h=>by cases h
theorem aPy:pU Tryz.prog 129 fs we.real:=fn_soundW bZ aZ Tryz.func129 H loops fun⟨x0,x1,()⟩ hw hp=>(show qL E H Tryz.f129 fs.ps fs.rs we.real (x0,(x1,()))=aR x0 x1 from by kernel_rfl).trans (eq x0 x1 hw hp)
theorem aPz:wF Tryz.prog we:=⟨aPy,_,Tryz.func129,by kernel_rfl,by kernel_rfl⟩
end gV
namespace lF
noncomputable def fs:FS:=⟨[(.ref bS .f)],[(dX,.o)],fun _=>true,fun x=>(((lF x.1).1,()),((lF x.1).2,()))⟩
noncomputable def E:eI:=⟨aX,[(136,aC.fs)],[gV.we]⟩
noncomputable def H:List LC:=[]
theorem bZ:aS Tryz.prog E:=aD aC.aPz (oK gV.aPz (aI gO))
theorem loops:∀c,Tryz.f133.body=some c->aH E H c:=aO (by kernel_rfl)
theorem aPy:bA Tryz.prog 133 fs:=aF bZ aZ Tryz.func133 H loops fun⟨x0,()⟩ hw _=>(show bB E H Tryz.f133 fs.ps fs.rs (x0,())=aR x0 from by kernel_rfl).trans (eq x0 hw)
theorem aPz:cE Tryz.prog 133 fs:=⟨aPy,_,Tryz.func133,by kernel_rfl,by kernel_rfl⟩
end lF
namespace qZ
noncomputable def fs:FS:=⟨[(.ref cV .o),(.cell 2 bS),(.ref bS .f)],[],fun x=>qZ.pre x.1 x.2.1,fun x=>(((qZ x.1 x.2.1).1,((qZ x.1 x.2.1).2,())),())⟩
noncomputable def we:uX:=⟨200,200,fs,[(.par 0),(.par 1)],[(.arg 0),(.arg 1),(.of 1)]⟩
noncomputable def E:eI:=⟨aX,[(136,aC.fs)],[]⟩
noncomputable def H:List LC:=[]
theorem bZ:aS Tryz.prog E:=aD aC.aPz (aI gO)
theorem loops:∀c,Tryz.f200.body=some c->aH E H c:=aO (by kernel_rfl)
theorem aPy:pU Tryz.prog 200 fs we.real:=fn_soundW bZ aZ Tryz.func200 H loops fun⟨x0,x1,()⟩ hw hp=>(show qL E H Tryz.f200 fs.ps fs.rs we.real (x0,(x1,()))=aR x0 x1 from by kernel_rfl).trans (eq x0 x1 hw hp)
theorem aPz:wF Tryz.prog we:=⟨aPy,_,Tryz.func200,by kernel_rfl,by kernel_rfl⟩
end qZ
namespace gX
noncomputable def lQ:List (Nat×uN):=[(10000000,(.box bS (.dat bS))),(10000064,(.box cV (.pair (.dat (.int .i64)) (.pair (.arr 20000000) (.pair (.arr 20000001) (.pair (.arr 20000002) (.dat .unit))))))),(20000000,(.arr 3 (.int .i64))),(20000001,(.arr 3 (.int .i64))),(20000002,(.arr 3 (.int .i64))),(10000128,(.box .op (.bptr 10000000 [] bS)))]
noncomputable def fs:FS:=⟨[(.ref bS .f),(.ref cV .o),(.cell 0 bS)],[],fun x=>gX.pre x.1 x.2.1,fun x=>(((gX x.1 x.2.1).1,((gX x.1 x.2.1).2,())),())⟩
noncomputable def we:uX:=⟨129,200,fs,[(.par 0),(.clo 200 [1,2])],[(.arg 0),(.cap 1 0),(.cap 1 1)]⟩
noncomputable def E:eI:=⟨aX,[(136,aC.fs)],[qZ.we]⟩
noncomputable def qI:fG:=⟨((.one (.bptr 10000000 [] bS))::(.one (.clo 200 (.pair (.bptr 10000064 [] cV) (.pair (.bptr 10000128 [] .op) .unit))))::uu::uu::ui::ui::un 16 []),lQ⟩
noncomputable def eR:List fQ:=[⟨(.exit 0),⟨0,[0,1],[],[]⟩,⟨((.one (.bptr 10000000 [] bS))::(.one (.clo 200 (.pair (.bptr 10000064 [] cV) (.pair (.bptr 10000128 [] .op) .unit))))::un 20 []),lQ⟩⟩]
noncomputable def L2:LC:=⟨2,⟨2,[0,1,4,5],[],[]⟩,qI,eR,pre2,fn2⟩
noncomputable def H:List LC:=[L2]
noncomputable def code(i:Nat):Code:=(bF (cA Tryz.f129)).getD i .skip
theorem jG:bM E H (code 0) L2:=⟨kY,fun⟨x1,x2,x3,x4,x5,x6,x7,x8,()⟩ hp=>aU (show L2.step E H (code 0) (x1,(x2,(x3,(x4,(x5,(x6,(x7,(x8,()))))))))=cW x1 x2 x3 x4 x5 x6 x7 x8 from by kernel_rfl) (qO x1 x2 x3 x4 x5 x6 x7 x8 hp)⟩
theorem bZ:aS Tryz.prog E:=aD aC.aPz (oK qZ.aPz (aI gO))
theorem loops:∀c,Tryz.f129.body=some c->aH E H c:=bC (by kernel_rfl) (by kernel_rfl) fun i l h=>match i,h with
  |0,h=>Option.some.inj h▸jG
  |n+1,h=>by cases h
theorem aPy:pU Tryz.prog 129 fs we.real:=fn_soundW bZ aZ Tryz.func129 H loops fun⟨x0,x1,()⟩ hw hp=>(show qL E H Tryz.f129 fs.ps fs.rs we.real (x0,(x1,()))=aR x0 x1 from by kernel_rfl).trans (eq x0 x1 hw hp)
theorem aPz:wF Tryz.prog we:=⟨aPy,_,Tryz.func129,by kernel_rfl,by kernel_rfl⟩
end gX
namespace gZ
noncomputable def fs:FS:=⟨[(.ref bS .f),(.val (.int .i64) .f)],[(cV,.o)],fun x=>gZ.pre x.1 x.2.1,fun x=>(((gZ x.1 x.2.1).1,()),((gZ x.1 x.2.1).2,()))⟩
noncomputable def E:eI:=⟨aX,[(136,aC.fs)],[gX.we]⟩
noncomputable def yZ:fG:=⟨((.one (.bptr 10000000 [] bS))::ui::(.one (.bptr 0 [] .op))::uu::(.one (.bptr 32 [] cV))::(.one (.bptr 8288 [] cV))::ui::un 19 []),[(10000000,(.box bS (.dat bS))),(0,(.box .op (.bptr 10000000 [] bS))),(32,(.box cV (.pair (.dat (.int .i64)) (.pair (.arr 20000000) (.pair (.arr 20000001) (.pair (.arr 20000002) (.dat .unit))))))),(20000000,(.arr 3 (.int .i64))),(20000001,(.arr 3 (.int .i64))),(20000002,(.arr 3 (.int .i64))),(8288,(.box cV (.pair (.dat (.int .i64)) (.pair (.arr 20000003) (.pair (.arr 20000004) (.pair (.arr 20000005) (.dat .unit))))))),(20000003,(.arr 3 (.int .i64))),(20000004,(.arr 3 (.int .i64))),(20000005,(.arr 3 (.int .i64)))]⟩
noncomputable def kT:List fQ:=[⟨(.exit 0),⟨0,[4,5,0],[],[]⟩,⟨((.one (.bptr 10000000 [] bS))::uu::uu::uu::(.one (.bptr 32 [] cV))::(.one (.bptr 8288 [] cV))::un 20 []),[(10000000,(.box bS (.dat bS))),(32,(.box cV (.pair (.dat (.int .i64)) (.pair (.arr 20000000) (.pair (.arr 20000001) (.pair (.arr 20000002) (.dat .unit))))))),(20000000,(.arr 3 (.int .i64))),(20000001,(.arr 3 (.int .i64))),(20000002,(.arr 3 (.int .i64))),(8288,(.box cV (.pair (.dat (.int .i64)) (.pair (.arr 20000003) (.pair (.arr 20000004) (.pair (.arr 20000005) (.dat .unit))))))),(20000003,(.arr 3 (.int .i64))),(20000004,(.arr 3 (.int .i64))),(20000005,(.arr 3 (.int .i64)))]⟩⟩]
noncomputable def L4:LC:=⟨4,⟨4,[1,2,4,5,6,0],[],[]⟩,yZ,kT,pre4,fn4⟩
noncomputable def H:List LC:=[L4]
noncomputable def code(i:Nat):Code:=(bF (cA Tryz.f135)).getD i .skip
theorem oZ:bM E H (code 0) L4:=⟨qD,fun⟨x1,x2,x3,x4,x5,x6,x7,x8,x9,x10,x11,x12,x13,()⟩ hp=>aU (show L4.step E H (code 0) (x1,(x2,(x3,(x4,(x5,(x6,(x7,(x8,(x9,(x10,(x11,(x12,(x13,())))))))))))))=hJ x1 x2 x3 x4 x5 x6 x7 x8 x9 x10 x11 x12 x13 from by kernel_rfl) (zE x1 x2 x3 x4 x5 x6 x7 x8 x9 x10 x11 x12 x13 hp)⟩
theorem bZ:aS Tryz.prog E:=aD aC.aPz (oK gX.aPz (aI gO))
theorem loops:∀c,Tryz.f135.body=some c->aH E H c:=bC (by kernel_rfl) (by kernel_rfl) fun i l h=>match i,h with
  |0,h=>Option.some.inj h▸oZ
  |n+1,h=>by cases h
theorem aPy:bA Tryz.prog 135 fs:=aF bZ aZ Tryz.func135 H loops fun⟨x0,x1,()⟩ hw hp=>(show bB E H Tryz.f135 fs.ps fs.rs (x0,(x1,()))=aR x0 x1 from by kernel_rfl).trans (eq x0 x1 hw hp)
theorem aPz:cE Tryz.prog 135 fs:=⟨aPy,_,Tryz.func135,by kernel_rfl,by kernel_rfl⟩
end gZ
namespace oU
noncomputable def fs:FS:=⟨[(.ref bU .o),(.cell 2 bS),(.ref bS .f)],[],fun x=>oU.pre x.1 x.2.1,fun x=>(((oU x.1 x.2.1).1,((oU x.1 x.2.1).2,())),())⟩
noncomputable def we:uX:=⟨130,130,fs,[(.par 0),(.par 1)],[(.arg 0),(.arg 1),(.of 1)]⟩
noncomputable def E:eI:=⟨aX,[(131,nX.fs)],[]⟩
noncomputable def H:List LC:=[]
theorem bZ:aS Tryz.prog E:=aD nX.aPz (aI gO)
theorem loops:∀c,Tryz.f130.body=some c->aH E H c:=aO (by kernel_rfl)
theorem aPy:pU Tryz.prog 130 fs we.real:=fn_soundW bZ aZ Tryz.func130 H loops fun⟨x0,x1,()⟩ hw hp=>(show qL E H Tryz.f130 fs.ps fs.rs we.real (x0,(x1,()))=aR x0 x1 from by kernel_rfl).trans (eq x0 x1 hw hp)
theorem aPz:wF Tryz.prog we:=⟨aPy,_,Tryz.func130,by kernel_rfl,by kernel_rfl⟩
end oU
namespace fP
noncomputable def lQ:List (Nat×uN):=[(10000000,(.box bS (.dat bS))),(10000064,(.box bU (.pair (.arr 20000000) (.pair (.arr 20000001) (.pair (.arr 20000002) (.pair (.dat (.int .i64)) (.pair (.arr 20000003) (.pair (.arr 20000004) (.dat .unit))))))))),(20000000,(.arr 130 dZ)),(20000001,(.arr 134 dX)),(20000002,(.arr 95 cV)),(20000003,(.arr 3 (.int .i64))),(20000004,(.arr 138 dK)),(10000128,(.box .op (.bptr 10000000 [] bS)))]
noncomputable def fs:FS:=⟨[(.ref bS .f),(.ref bU .o),(.cell 0 bS)],[],fun x=>fP.pre x.1 x.2.1,fun x=>(((fP x.1 x.2.1).1,((fP x.1 x.2.1).2,())),())⟩
noncomputable def we:uX:=⟨129,130,fs,[(.par 0),(.clo 130 [1,2])],[(.arg 0),(.cap 1 0),(.cap 1 1)]⟩
noncomputable def E:eI:=⟨aX,[(136,aC.fs)],[oU.we]⟩
noncomputable def qI:fG:=⟨((.one (.bptr 10000000 [] bS))::(.one (.clo 130 (.pair (.bptr 10000064 [] bU) (.pair (.bptr 10000128 [] .op) .unit))))::uu::uu::ui::ui::un 16 []),lQ⟩
noncomputable def eR:List fQ:=[⟨(.exit 0),⟨0,[0,1],[],[]⟩,⟨((.one (.bptr 10000000 [] bS))::(.one (.clo 130 (.pair (.bptr 10000064 [] bU) (.pair (.bptr 10000128 [] .op) .unit))))::un 20 []),lQ⟩⟩]
noncomputable def L2:LC:=⟨2,⟨2,[0,1,4,5],[],[]⟩,qI,eR,pre2,fn2⟩
noncomputable def H:List LC:=[L2]
noncomputable def code(i:Nat):Code:=(bF (cA Tryz.f129)).getD i .skip
theorem jG:bM E H (code 0) L2:=⟨kY,fun⟨x1,x2,x3,x4,x5,x6,x7,x8,x9,x10,()⟩ hp=>aU (show L2.step E H (code 0) (x1,(x2,(x3,(x4,(x5,(x6,(x7,(x8,(x9,(x10,()))))))))))=cW x1 x2 x3 x4 x5 x6 x7 x8 x9 x10 from by kernel_rfl) (qO x1 x2 x3 x4 x5 x6 x7 x8 x9 x10 hp)⟩
theorem bZ:aS Tryz.prog E:=aD aC.aPz (oK oU.aPz (aI gO))
theorem loops:∀c,Tryz.f129.body=some c->aH E H c:=bC (by kernel_rfl) (by kernel_rfl) fun i l h=>match i,h with
  |0,h=>Option.some.inj h▸jG
  |n+1,h=>by cases h
theorem aPy:pU Tryz.prog 129 fs we.real:=fn_soundW bZ aZ Tryz.func129 H loops fun⟨x0,x1,()⟩ hw hp=>(show qL E H Tryz.f129 fs.ps fs.rs we.real (x0,(x1,()))=aR x0 x1 from by kernel_rfl).trans (eq x0 x1 hw hp)
theorem aPz:wF Tryz.prog we:=⟨aPy,_,Tryz.func129,by kernel_rfl,by kernel_rfl⟩
end fP
namespace oW
noncomputable def fs:FS:=⟨[(.ref bU .o),(.cell 2 bS),(.ref bS .f)],[],fun x=>oW.pre x.1 x.2.1,fun x=>(((oW x.1 x.2.1).1,((oW x.1 x.2.1).2,())),())⟩
noncomputable def we:uX:=⟨132,132,fs,[(.par 0),(.par 1)],[(.arg 0),(.arg 1),(.of 1)]⟩
noncomputable def E:eI:=⟨aX,[(133,lF.fs)],[]⟩
noncomputable def H:List LC:=[]
theorem bZ:aS Tryz.prog E:=aD lF.aPz (aI gO)
theorem loops:∀c,Tryz.f132.body=some c->aH E H c:=aO (by kernel_rfl)
theorem aPy:pU Tryz.prog 132 fs we.real:=fn_soundW bZ aZ Tryz.func132 H loops fun⟨x0,x1,()⟩ hw hp=>(show qL E H Tryz.f132 fs.ps fs.rs we.real (x0,(x1,()))=aR x0 x1 from by kernel_rfl).trans (eq x0 x1 hw hp)
theorem aPz:wF Tryz.prog we:=⟨aPy,_,Tryz.func132,by kernel_rfl,by kernel_rfl⟩
end oW
namespace fN
noncomputable def lQ:List (Nat×uN):=[(10000000,(.box bS (.dat bS))),(10000064,(.box bU (.pair (.arr 20000000) (.pair (.arr 20000001) (.pair (.arr 20000002) (.pair (.dat (.int .i64)) (.pair (.arr 20000003) (.pair (.arr 20000004) (.dat .unit))))))))),(20000000,(.arr 130 dZ)),(20000001,(.arr 134 dX)),(20000002,(.arr 95 cV)),(20000003,(.arr 3 (.int .i64))),(20000004,(.arr 138 dK)),(10000128,(.box .op (.bptr 10000000 [] bS)))]
noncomputable def fs:FS:=⟨[(.ref bS .f),(.ref bU .o),(.cell 0 bS)],[],fun x=>fN.pre x.1 x.2.1,fun x=>(((fN x.1 x.2.1).1,((fN x.1 x.2.1).2,())),())⟩
noncomputable def we:uX:=⟨129,132,fs,[(.par 0),(.clo 132 [1,2])],[(.arg 0),(.cap 1 0),(.cap 1 1)]⟩
noncomputable def E:eI:=⟨aX,[(136,aC.fs)],[oW.we]⟩
noncomputable def qI:fG:=⟨((.one (.bptr 10000000 [] bS))::(.one (.clo 132 (.pair (.bptr 10000064 [] bU) (.pair (.bptr 10000128 [] .op) .unit))))::uu::uu::ui::ui::un 16 []),lQ⟩
noncomputable def eR:List fQ:=[⟨(.exit 0),⟨0,[0,1],[],[]⟩,⟨((.one (.bptr 10000000 [] bS))::(.one (.clo 132 (.pair (.bptr 10000064 [] bU) (.pair (.bptr 10000128 [] .op) .unit))))::un 20 []),lQ⟩⟩]
noncomputable def L2:LC:=⟨2,⟨2,[0,1,4,5],[],[]⟩,qI,eR,pre2,fn2⟩
noncomputable def H:List LC:=[L2]
noncomputable def code(i:Nat):Code:=(bF (cA Tryz.f129)).getD i .skip
theorem jG:bM E H (code 0) L2:=⟨kY,fun⟨x1,x2,x3,x4,x5,x6,x7,x8,x9,x10,()⟩ hp=>aU (show L2.step E H (code 0) (x1,(x2,(x3,(x4,(x5,(x6,(x7,(x8,(x9,(x10,()))))))))))=cW x1 x2 x3 x4 x5 x6 x7 x8 x9 x10 from by kernel_rfl) (qO x1 x2 x3 x4 x5 x6 x7 x8 x9 x10 hp)⟩
theorem bZ:aS Tryz.prog E:=aD aC.aPz (oK oW.aPz (aI gO))
theorem loops:∀c,Tryz.f129.body=some c->aH E H c:=bC (by kernel_rfl) (by kernel_rfl) fun i l h=>match i,h with
  |0,h=>Option.some.inj h▸jG
  |n+1,h=>by cases h
theorem aPy:pU Tryz.prog 129 fs we.real:=fn_soundW bZ aZ Tryz.func129 H loops fun⟨x0,x1,()⟩ hw hp=>(show qL E H Tryz.f129 fs.ps fs.rs we.real (x0,(x1,()))=aR x0 x1 from by kernel_rfl).trans (eq x0 x1 hw hp)
theorem aPz:wF Tryz.prog we:=⟨aPy,_,Tryz.func129,by kernel_rfl,by kernel_rfl⟩
end fN
namespace nZ
noncomputable def fs:FS:=⟨[(.ref bU .o),(.cell 2 bS),(.ref bS .f),(.ref gA .o)],[],fun x=>nZ.pre x.1 x.2.1 x.2.2.1,fun x=>(((nZ x.1 x.2.1 x.2.2.1).1,((nZ x.1 x.2.1 x.2.2.1).2.1,((nZ x.1 x.2.1 x.2.2.1).2.2,()))),())⟩
noncomputable def we:uX:=⟨134,134,fs,[(.par 0),(.par 1),(.par 3)],[(.arg 0),(.arg 1),(.of 1),(.arg 2)]⟩
noncomputable def E:eI:=⟨aX,[(135,gZ.fs)],[]⟩
noncomputable def H:List LC:=[]
theorem bZ:aS Tryz.prog E:=aD gZ.aPz (aI gO)
theorem loops:∀c,Tryz.f134.body=some c->aH E H c:=aO (by kernel_rfl)
theorem aPy:pU Tryz.prog 134 fs we.real:=fn_soundW bZ aZ Tryz.func134 H loops fun⟨x0,x1,x2,()⟩ hw hp=>(show qL E H Tryz.f134 fs.ps fs.rs we.real (x0,(x1,(x2,())))=aR x0 x1 x2 from by kernel_rfl).trans (eq x0 x1 x2 hw hp)
theorem aPz:wF Tryz.prog we:=⟨aPy,_,Tryz.func134,by kernel_rfl,by kernel_rfl⟩
end nZ
namespace eM
noncomputable def lQ:List (Nat×uN):=[(10000000,(.box bS (.dat bS))),(10000064,(.box bU (.pair (.arr 20000000) (.pair (.arr 20000001) (.pair (.arr 20000002) (.pair (.dat (.int .i64)) (.pair (.arr 20000003) (.pair (.arr 20000004) (.dat .unit))))))))),(20000000,(.arr 130 dZ)),(20000001,(.arr 134 dX)),(20000002,(.arr 95 cV)),(20000003,(.arr 3 (.int .i64))),(20000004,(.arr 138 dK)),(10000128,(.box .op (.bptr 10000000 [] bS))),(10000192,(.box gA (.dat gA)))]
noncomputable def fs:FS:=⟨[(.ref bS .f),(.ref bU .o),(.cell 0 bS),(.ref gA .o)],[],fun x=>eM.pre x.1 x.2.1 x.2.2.1,fun x=>(((eM x.1 x.2.1 x.2.2.1).1,((eM x.1 x.2.1 x.2.2.1).2.1,((eM x.1 x.2.1 x.2.2.1).2.2,()))),())⟩
noncomputable def we:uX:=⟨129,134,fs,[(.par 0),(.clo 134 [1,2,3])],[(.arg 0),(.cap 1 0),(.cap 1 1),(.cap 1 2)]⟩
noncomputable def E:eI:=⟨aX,[(136,aC.fs)],[nZ.we]⟩
noncomputable def qI:fG:=⟨((.one (.bptr 10000000 [] bS))::(.one (.clo 134 (.pair (.bptr 10000064 [] bU) (.pair (.bptr 10000128 [] .op) (.pair (.bptr 10000192 [] gA) .unit)))))::uu::uu::ui::ui::un 16 []),lQ⟩
noncomputable def eR:List fQ:=[⟨(.exit 0),⟨0,[0,1],[],[]⟩,⟨((.one (.bptr 10000000 [] bS))::(.one (.clo 134 (.pair (.bptr 10000064 [] bU) (.pair (.bptr 10000128 [] .op) (.pair (.bptr 10000192 [] gA) .unit)))))::un 20 []),lQ⟩⟩]
noncomputable def L2:LC:=⟨2,⟨2,[0,1,4,5],[],[]⟩,qI,eR,pre2,fn2⟩
noncomputable def H:List LC:=[L2]
noncomputable def code(i:Nat):Code:=(bF (cA Tryz.f129)).getD i .skip
theorem jG:bM E H (code 0) L2:=⟨kY,fun⟨x1,x2,x3,x4,x5,x6,x7,x8,x9,x10,x11,()⟩ hp=>aU (show L2.step E H (code 0) (x1,(x2,(x3,(x4,(x5,(x6,(x7,(x8,(x9,(x10,(x11,())))))))))))=cW x1 x2 x3 x4 x5 x6 x7 x8 x9 x10 x11 from by kernel_rfl) (qO x1 x2 x3 x4 x5 x6 x7 x8 x9 x10 x11 hp)⟩
theorem bZ:aS Tryz.prog E:=aD aC.aPz (oK nZ.aPz (aI gO))
theorem loops:∀c,Tryz.f129.body=some c->aH E H c:=bC (by kernel_rfl) (by kernel_rfl) fun i l h=>match i,h with
  |0,h=>Option.some.inj h▸jG
  |n+1,h=>by cases h
theorem aPy:pU Tryz.prog 129 fs we.real:=fn_soundW bZ aZ Tryz.func129 H loops fun⟨x0,x1,x2,()⟩ hw hp=>(show qL E H Tryz.f129 fs.ps fs.rs we.real (x0,(x1,(x2,())))=aR x0 x1 x2 from by kernel_rfl).trans (eq x0 x1 x2 hw hp)
theorem aPz:wF Tryz.prog we:=⟨aPy,_,Tryz.func129,by kernel_rfl,by kernel_rfl⟩
end eM
namespace iO
noncomputable def lQ:List (Nat×uN):=[(0,(.box gA (.dat gA))),(32,(.box bU (.pair (.arr 20000000) (.pair (.arr 20000001) (.pair (.arr 20000002) (.pair (.dat (.int .i64)) (.pair (.arr 20000003) (.pair (.arr 20000004) (.dat .unit))))))))),(20000000,(.arr 130 dZ)),(20000001,(.arr 134 dX)),(20000002,(.arr 95 cV)),(20000003,(.arr 3 (.int .i64))),(20000004,(.arr 138 dK)),(24672,(.box .op (.bptr 24640 [] bS))),(24640,(.box bS (.dat bS))),(32768,(.box bU (.pair (.arr 20000005) (.pair (.arr 20000006) (.pair (.arr 20000007) (.pair (.dat (.int .i64)) (.pair (.arr 20000008) (.pair (.arr 20000009) (.dat .unit))))))))),(20000005,(.arr 130 dZ)),(20000006,(.arr 134 dX)),(20000007,(.arr 95 cV)),(20000008,(.arr 3 (.int .i64))),(20000009,(.arr 138 dK))]
noncomputable def fs:FS:=⟨[(.val gA .f),(.val (.sl 5 (.int .u8)) .f)],[(bU,.o),(.bool,.o)],fun x=>iO.pre x.1 x.2.1,fun x=>((),((iO x.1 x.2.1).1,((iO x.1 x.2.1).2,())))⟩
noncomputable def E:eI:=⟨aX,[(67,iC.fs),(136,aC.fs),(137,aV.fs),(47,dO.fs)],[fP.we,fN.we,eM.we]⟩
noncomputable def aNX:fG:=⟨(uu::(.one (.dat (.sl 5 (.int .u8))))::(.one (.bptr 0 [] gA))::uu::(.one (.bptr 32 [] bU))::uu::(.one (.bptr 24672 [] .op))::(.one (.bptr 32768 [] bU))::ui::un 71 []),lQ⟩
noncomputable def aIM:List fQ:=[⟨(.exit 0),⟨0,[1,2,4,6,7],[],[]⟩,⟨(uu::(.one (.dat (.sl 5 (.int .u8))))::(.one (.bptr 0 [] gA))::uu::(.one (.bptr 32 [] bU))::uu::(.one (.bptr 24672 [] .op))::(.one (.bptr 32768 [] bU))::un 72 []),lQ⟩⟩]
noncomputable def L10:LC:=⟨10,⟨10,[1,2,4,6,7,8],[],[]⟩,aNX,aIM,pre10,fn10⟩
noncomputable def H:List LC:=[L10]
noncomputable def code(i:Nat):Code:=(bF (cA Tryz.f57)).getD i .skip
theorem aLx:bM E H (code 0) L10:=⟨aLr,fun⟨x1,x2,x3,x4,x5,x6,x7,x8,x9,x10,x11,x12,x13,x14,x15,x16,x17,x18,()⟩ hp=>aU (show L10.step E H (code 0) (x1,(x2,(x3,(x4,(x5,(x6,(x7,(x8,(x9,(x10,(x11,(x12,(x13,(x14,(x15,(x16,(x17,(x18,()))))))))))))))))))=aEC x1 x2 x3 x4 x5 x6 x7 x8 x9 x10 x11 x12 x13 x14 x15 x16 x17 x18 from by kernel_rfl) (aNx x1 x2 x3 x4 x5 x6 x7 x8 x9 x10 x11 x12 x13 x14 x15 x16 x17 x18 hp)⟩
theorem bZ:aS Tryz.prog E:=aD iC.aPz (aD aC.aPz (aD aV.aPz (aD dO.aPz (oK fP.aPz (oK fN.aPz (oK eM.aPz (aI gO)))))))
theorem loops:∀c,Tryz.f57.body=some c->aH E H c:=bC (by kernel_rfl) (by kernel_rfl) fun i l h=>match i,h with
  |0,h=>Option.some.inj h▸aLx
  |n+1,h=>by cases h
theorem aPy:bA Tryz.prog 57 fs:=aF bZ aZ Tryz.func57 H loops fun⟨x0,x1,()⟩ hw hp=>(show bB E H Tryz.f57 fs.ps fs.rs (x0,(x1,()))=aR x0 x1 from by kernel_rfl).trans (eq x0 x1 hw hp)
theorem aPz:cE Tryz.prog 57 fs:=⟨aPy,_,Tryz.func57,by kernel_rfl,by kernel_rfl⟩
end iO
namespace mJ
noncomputable def fs:FS:=⟨[(.val gA .f),(.val iI .f),(.val lU .f)],[(iI,.o)],fun x=>mJ.pre x.1 x.2.1 x.2.2.1,fun x=>((),((mJ x.1 x.2.1 x.2.2.1),()))⟩
noncomputable def E:eI:=⟨aX,[(54,kS.fs),(18,cM.fs),(55,cD.fs),(42,mS.fs),(56,eA.fs),(58,lS.fs),(57,iO.fs)],[]⟩
noncomputable def H:List LC:=[]
theorem bZ:aS Tryz.prog E:=aD kS.aPz (aD cM.aPz (aD cD.aPz (aD mS.aPz (aD eA.aPz (aD lS.aPz (aD iO.aPz (aI gO)))))))
theorem loops:∀c,Tryz.f21.body=some c->aH E H c:=aO (by kernel_rfl)
theorem aPy:bA Tryz.prog 21 fs:=aF bZ aZ Tryz.func21 H loops fun⟨x0,x1,x2,()⟩ hw hp=>(show bB E H Tryz.f21 fs.ps fs.rs (x0,(x1,(x2,())))=aR x0 x1 x2 from by kernel_rfl).trans (eq x0 x1 x2 hw hp)
theorem aPz:cE Tryz.prog 21 fs:=⟨aPy,_,Tryz.func21,by kernel_rfl,by kernel_rfl⟩
end mJ
namespace kC
noncomputable def fs:FS:=⟨[(.val gA .f),(.val (.sl 5 (.int .u8)) .f)],[(iI,.o)],fun x=>kC.pre x.1 x.2.1,fun x=>((),((kC x.1 x.2.1),()))⟩
noncomputable def E:eI:=⟨aX,[(26,kN.fs),(31,kO.fs),(21,mJ.fs)],[]⟩
noncomputable def yZ:fG:=⟨(uu::uu::(.one (.bptr 0 [] gA))::uu::(.one (.bptr 32 [] iI))::(.one (.bptr 8256 [] iI))::un 11 ((.one (.arr 20000012))::ui::ui::un 9 [])),[(0,(.box gA (.dat gA))),(32,(.box iI (.pair (.dat (.int .i64)) (.pair (.dat (.int .i64)) (.pair (.pair (.dat (.int .i64)) (.pair (.dat (.int .i64)) (.pair (.arr 20000000) (.dat .unit)))) (.pair (.pair (.arr 20000001) (.pair (.arr 20000002) (.pair (.arr 20000003) (.pair (.dat (.int .i64)) (.pair (.arr 20000004) (.pair (.arr 20000005) (.dat .unit))))))) (.dat .unit))))))),(20000000,(.arr 122 jN)),(20000001,(.arr 130 dZ)),(20000002,(.arr 134 dX)),(20000003,(.arr 95 cV)),(20000004,(.arr 3 (.int .i64))),(20000005,(.arr 138 dK)),(8256,(.box iI (.pair (.dat (.int .i64)) (.pair (.dat (.int .i64)) (.pair (.pair (.dat (.int .i64)) (.pair (.dat (.int .i64)) (.pair (.arr 20000006) (.dat .unit)))) (.pair (.pair (.arr 20000007) (.pair (.arr 20000008) (.pair (.arr 20000009) (.pair (.dat (.int .i64)) (.pair (.arr 20000010) (.pair (.arr 20000011) (.dat .unit))))))) (.dat .unit))))))),(20000006,(.arr 122 jN)),(20000007,(.arr 130 dZ)),(20000008,(.arr 134 dX)),(20000009,(.arr 95 cV)),(20000010,(.arr 3 (.int .i64))),(20000011,(.arr 138 dK)),(20000012,(.arr 52 lU))]⟩
noncomputable def kT:List fQ:=[⟨(.exit 0),⟨0,[4,5],[],[]⟩,⟨(un 4 ((.one (.bptr 32 [] iI))::(.one (.bptr 8256 [] iI))::un 23 [])),[(32,(.box iI (.pair (.dat (.int .i64)) (.pair (.dat (.int .i64)) (.pair (.pair (.dat (.int .i64)) (.pair (.dat (.int .i64)) (.pair (.arr 20000000) (.dat .unit)))) (.pair (.pair (.arr 20000001) (.pair (.arr 20000002) (.pair (.arr 20000003) (.pair (.dat (.int .i64)) (.pair (.arr 20000004) (.pair (.arr 20000005) (.dat .unit))))))) (.dat .unit))))))),(20000000,(.arr 122 jN)),(20000001,(.arr 130 dZ)),(20000002,(.arr 134 dX)),(20000003,(.arr 95 cV)),(20000004,(.arr 3 (.int .i64))),(20000005,(.arr 138 dK)),(8256,(.box iI (.pair (.dat (.int .i64)) (.pair (.dat (.int .i64)) (.pair (.pair (.dat (.int .i64)) (.pair (.dat (.int .i64)) (.pair (.arr 20000006) (.dat .unit)))) (.pair (.pair (.arr 20000007) (.pair (.arr 20000008) (.pair (.arr 20000009) (.pair (.dat (.int .i64)) (.pair (.arr 20000010) (.pair (.arr 20000011) (.dat .unit))))))) (.dat .unit))))))),(20000006,(.arr 122 jN)),(20000007,(.arr 130 dZ)),(20000008,(.arr 134 dX)),(20000009,(.arr 95 cV)),(20000010,(.arr 3 (.int .i64))),(20000011,(.arr 138 dK))]⟩⟩]
noncomputable def L4:LC:=⟨4,⟨4,[2,4,5,17,18,19],[],[]⟩,yZ,kT,pre4,fn4⟩
noncomputable def H:List LC:=[L4]
noncomputable def code(i:Nat):Code:=(bF (cA Tryz.f8)).getD i .skip
theorem oZ:bM E H (code 0) L4:=⟨qD,fun⟨x1,x2,x3,x4,x5,x6,x7,x8,x9,x10,x11,x12,x13,x14,x15,x16,x17,x18,x19,x20,x21,x22,x23,x24,x25,x26,x27,x28,x29,x30,x31,x32,()⟩ hp=>aU (show L4.step E H (code 0) (x1,(x2,(x3,(x4,(x5,(x6,(x7,(x8,(x9,(x10,(x11,(x12,(x13,(x14,(x15,(x16,(x17,(x18,(x19,(x20,(x21,(x22,(x23,(x24,(x25,(x26,(x27,(x28,(x29,(x30,(x31,(x32,()))))))))))))))))))))))))))))))))=hJ x1 x2 x3 x4 x5 x6 x7 x8 x9 x10 x11 x12 x13 x14 x15 x16 x17 x18 x19 x20 x21 x22 x23 x24 x25 x26 x27 x28 x29 x30 x31 x32 from by kernel_rfl) (zE x1 x2 x3 x4 x5 x6 x7 x8 x9 x10 x11 x12 x13 x14 x15 x16 x17 x18 x19 x20 x21 x22 x23 x24 x25 x26 x27 x28 x29 x30 x31 x32 hp)⟩
theorem bZ:aS Tryz.prog E:=aD kN.aPz (aD kO.aPz (aD mJ.aPz (aI gO)))
theorem loops:∀c,Tryz.f8.body=some c->aH E H c:=bC (by kernel_rfl) (by kernel_rfl) fun i l h=>match i,h with
  |0,h=>Option.some.inj h▸oZ
  |n+1,h=>by cases h
theorem aPy:bA Tryz.prog 8 fs:=aF bZ aZ Tryz.func8 H loops fun⟨x0,x1,()⟩ hw hp=>(show bB E H Tryz.f8 fs.ps fs.rs (x0,(x1,()))=aR x0 x1 from by kernel_rfl).trans (eq x0 x1 hw hp)
theorem aPz:cE Tryz.prog 8 fs:=⟨aPy,_,Tryz.func8,by kernel_rfl,by kernel_rfl⟩
end kC
namespace jF
noncomputable def fs:FS:=⟨[(.val gA .f),(.val (.sl 5 (.int .u8)) .f)],[(.bool,.o)],fun _=>true,fun x=>((),((jF x.1 x.2.1),()))⟩
noncomputable def E:eI:=⟨aX,[(6,mC.fs),(7,eJ.fs),(9,lN.fs),(10,jQ.fs),(11,eH.fs),(12,fA.fs),(13,fJ.fs),(5,kR.fs),(8,kC.fs)],[]⟩
noncomputable def H:List LC:=[]
theorem bZ:aS Tryz.prog E:=aD mC.aPz (aD eJ.aPz (aD lN.aPz (aD jQ.aPz (aD eH.aPz (aD fA.aPz (aD fJ.aPz (aD kR.aPz (aD kC.aPz (aI gO)))))))))
theorem loops:∀c,Tryz.f3.body=some c->aH E H c:=aO (by kernel_rfl)
theorem aPy:bA Tryz.prog 3 fs:=aF bZ aZ Tryz.func3 H loops fun⟨x0,x1,()⟩ hw _=>(show bB E H Tryz.f3 fs.ps fs.rs (x0,(x1,()))=aR x0 x1 from by kernel_rfl).trans (eq x0 x1 hw)
theorem aPz:cE Tryz.prog 3 fs:=⟨aPy,_,Tryz.func3,by kernel_rfl,by kernel_rfl⟩
end jF
end
end Go.Aw.Pl
