import Derived.Test.YthkbmmjpjcehpaaGreatS2a
namespace Go.Aw.Pl
open Go Go.Aw Go.Proofs
set_option linter.unusedVariables false
set_option maxRecDepth 20000
set_option maxHeartbeats 2000000
noncomputable section
namespace jD
noncomputable def nA:List (Nat×vT):=[(32,(.box gD (.dat gD)))]
noncomputable def fs:FS:=⟨[(.val bD .f),(.val (.int .i64) .f)],[(gD,.o),((.int .i64),.o)],fun x=>jD.pre x.1 x.2.1,fun x=>((),((jD x.1 x.2.1).1,((jD x.1 x.2.1).2,())))⟩
noncomputable def E:fN:=⟨bI,[],[]⟩
noncomputable def vX:iN:=⟨(uu::ui::uu::uu::(.one (.bptr 32 [] gD))::un 9 ((.one (.dat (.sl 44 gD)))::ui::ui::un 10 [])),nA⟩
noncomputable def kC:List iZ:=[⟨.ret,⟨0,[4,5],[],[]⟩,⟨(un 4 ((.one (.bptr 32 [] gD))::ui::un 21 [])),nA⟩⟩,⟨(.exit 0),⟨0,[4],[],[]⟩,⟨(un 4 ((.one (.bptr 32 [] gD))::un 22 [])),nA⟩⟩]
noncomputable def L4:LC:=⟨4,⟨4,[1,4,14,15,16],[],[]⟩,vX,kC,pre4,fn4⟩
noncomputable def H:List LC:=[L4]
noncomputable def code(i:Nat):Code:=(cB (dX Tryz.f138)).getD i .skip
theorem nG:dE E H (code 0) L4:=⟨kU,fun⟨x1,x2,x3,x4,x5,()⟩ hp=>bE (show L4.step E H (code 0) (x1,(x2,(x3,(x4,(x5,())))))=eO x1 x2 x3 x4 x5 from by kernel_rfl) (vZ x1 x2 x3 x4 x5 hp)⟩
theorem dD:aT Tryz.prog E:=aN jH
theorem loops:∀c,Tryz.f138.body=some c->aL E H c:=cJ (by kernel_rfl) (by kernel_rfl) fun i l h=>match i,h with
  |0,h=>Option.some.inj h▸nG
  |n+1,h=>by cases h
theorem aLp:bF Tryz.prog 138 fs:=aI dD mixed Tryz.func138 H loops fun⟨x0,x1,()⟩ hw hp=>(show bG E H Tryz.f138 fs.ps fs.rs (x0,(x1,()))=aQ x0 x1 from by kernel_rfl).trans (eq x0 x1 hw hp)
theorem aLo:cX Tryz.prog 138 fs:=⟨aLp,_,Tryz.func138,by kernel_rfl,by kernel_rfl⟩
end jD
namespace fE
noncomputable def fs:FS:=⟨[(.val gD .f),(.peek (.int .i64)),(.peek (.int .i64))],[(.bool,.o)],fun x=>fE.pre x.1 x.2.1 x.2.2.1,fun x=>((),((fE x.1 x.2.1 x.2.2.1),()))⟩
noncomputable def E:fN:=⟨bI,[],[]⟩
noncomputable def H:List LC:=[]
theorem dD:aT Tryz.prog E:=aN jH
theorem loops:∀c,Tryz.f163.body=some c->aL E H c:=aO (by kernel_rfl)
theorem aLp:bF Tryz.prog 163 fs:=aI dD mixed Tryz.func163 H loops fun⟨x0,x1,x2,()⟩ hw hp=>(show bG E H Tryz.f163 fs.ps fs.rs (x0,(x1,(x2,())))=aQ x0 x1 x2 from by kernel_rfl).trans (eq x0 x1 x2 hw hp)
theorem aLo:cX Tryz.prog 163 fs:=⟨aLp,_,Tryz.func163,by kernel_rfl,by kernel_rfl⟩
end fE
namespace bH
noncomputable def fs:FS:=⟨[(.val (.sl 44 gD) .f),(.fn gD .bool)],[((.int .i64),.o)],fun x=>bH.pre x.1 x.2.1,fun x=>((),((bH x.1 x.2.1),()))⟩
noncomputable def E:fN:=⟨bI,[],[]⟩
noncomputable def sh2:iN:=⟨((.one (.dat (.sl 44 gD)))::(.one (.fn gD .bool))::un 5 (ui::ui::un 10 [])),[]⟩
noncomputable def mO:List iZ:=[⟨.ret,⟨0,[4],[],[]⟩,⟨(un 4 (ui::un 14 [])),[]⟩⟩,⟨(.exit 0),⟨0,[],[],[]⟩,⟨(un 19 []),[]⟩⟩]
noncomputable def L2:LC:=⟨2,⟨2,[0,1,7,8],[],[]⟩,sh2,mO,pre2,fn2⟩
noncomputable def H:List LC:=[L2]
noncomputable def code(i:Nat):Code:=(cB (dX Tryz.f170)).getD i .skip
theorem qO:dE E H (code 0) L2:=⟨qY,fun⟨x1,x2,x3,x4,x5,()⟩ hp=>bE (show L2.step E H (code 0) (x1,(x2,(x3,(x4,(x5,())))))=jX x1 x2 x3 x4 x5 from by kernel_rfl) (ok2 x1 x2 x3 x4 x5 hp)⟩
theorem dD:aT Tryz.prog E:=aN jH
theorem loops:∀c,Tryz.f170.body=some c->aL E H c:=cJ (by kernel_rfl) (by kernel_rfl) fun i l h=>match i,h with
  |0,h=>Option.some.inj h▸qO
  |n+1,h=>by cases h
theorem aLp:bF Tryz.prog 170 fs:=aI dD mixed Tryz.func170 H loops fun⟨x0,x1,()⟩ hw hp=>(show bG E H Tryz.f170 fs.ps fs.rs (x0,(x1,()))=aQ x0 x1 from by kernel_rfl).trans (eq x0 x1 hw hp)
theorem aLo:cX Tryz.prog 170 fs:=⟨aLp,_,Tryz.func170,by kernel_rfl,by kernel_rfl⟩
end bH
namespace cC
noncomputable def nA:List (Nat×vT):=[(20000000,(.arr 44 gD))]
noncomputable def fs:FS:=⟨[(.val (.sl 44 gD) .o),(.fn gD .bool)],[((.sl 44 gD),.o)],fun x=>cC.pre x.1 x.2.1,fun x=>((),((cC x.1 x.2.1),()))⟩
noncomputable def E:fN:=⟨bI,[(170,bH.fs)],[]⟩
noncomputable def sh5:iN:=⟨((.one (.arr 20000000))::(.one (.fn gD .bool))::uu::uu::uu::ui::ui::un 35 []),nA⟩
noncomputable def zT:List iZ:=[⟨(.exit 0),⟨0,[0,5],[],[]⟩,⟨((.one (.arr 20000000))::un 4 (ui::un 36 [])),nA⟩⟩]
noncomputable def L5:LC:=⟨5,⟨5,[0,1,5,6],[],[]⟩,sh5,zT,pre5,fn5⟩
noncomputable def H:List LC:=[L5]
noncomputable def code(i:Nat):Code:=(cB (dX Tryz.f162)).getD i .skip
theorem aDF:dE E H (code 0) L5:=⟨mu5,fun⟨x1,x2,x3,x4,x5,()⟩ hp=>bE (show L5.step E H (code 0) (x1,(x2,(x3,(x4,(x5,())))))=rG x1 x2 x3 x4 x5 from by kernel_rfl) (ok5 x1 x2 x3 x4 x5 hp)⟩
theorem dD:aT Tryz.prog E:=aB bH.aLo (aN jH)
theorem loops:∀c,Tryz.f162.body=some c->aL E H c:=cJ (by kernel_rfl) (by kernel_rfl) fun i l h=>match i,h with
  |0,h=>Option.some.inj h▸aDF
  |n+1,h=>by cases h
theorem aLp:bF Tryz.prog 162 fs:=aI dD mixed Tryz.func162 H loops fun⟨x0,x1,()⟩ hw hp=>(show bG E H Tryz.f162 fs.ps fs.rs (x0,(x1,()))=aQ x0 x1 from by kernel_rfl).trans (eq x0 x1 hw hp)
theorem aLo:cX Tryz.prog 162 fs:=⟨aLp,_,Tryz.func162,by kernel_rfl,by kernel_rfl⟩
end cC
namespace iW
noncomputable def fs:FS:=⟨[(.val bD .f),(.val (.int .i64) .f),(.val (.int .i64) .f)],[(bD,.o)],fun x=>iW.pre x.1 x.2.1 x.2.2.1,fun x=>((),((iW x.1 x.2.1 x.2.2.1),()))⟩
noncomputable def E:fN:=⟨bI,[(87,bA.fs),(60,dN.fs),(163,fE.fs),(162,cC.fs)],[]⟩
noncomputable def vX:iN:=⟨(uu::uu::ui::uu::(.one (.bptr 32 [] (.int .i64)))::uu::(.one (.bptr 64 [] bD))::(.one (.bptr 8256 [] bD))::un 53 []),[(32,(.box (.int .i64) (.dat (.int .i64)))),(64,(.box bD (.pair (.dat (.int .i64)) (.pair (.dat (.int .i64)) (.pair (.arr 20000000) (.dat .unit)))))),(20000000,(.arr 44 gD)),(8256,(.box bD (.pair (.dat (.int .i64)) (.pair (.dat (.int .i64)) (.pair (.arr 20000001) (.dat .unit)))))),(20000001,(.arr 44 gD))]⟩
noncomputable def kC:List iZ:=[⟨(.exit 0),⟨0,[6,7],[],[]⟩,⟨(un 6 ((.one (.bptr 64 [] bD))::(.one (.bptr 8256 [] bD))::un 53 [])),[(64,(.box bD (.pair (.dat (.int .i64)) (.pair (.dat (.int .i64)) (.pair (.arr 20000000) (.dat .unit)))))),(20000000,(.arr 44 gD)),(8256,(.box bD (.pair (.dat (.int .i64)) (.pair (.dat (.int .i64)) (.pair (.arr 20000001) (.dat .unit)))))),(20000001,(.arr 44 gD))]⟩⟩]
noncomputable def L4:LC:=⟨4,⟨4,[2,4,6,7],[],[]⟩,vX,kC,pre4,fn4⟩
noncomputable def H:List LC:=[L4]
noncomputable def code(i:Nat):Code:=(cB (dX Tryz.f141)).getD i .skip
theorem nG:dE E H (code 0) L4:=⟨kU,fun⟨x1,x2,x3,x4,x5,x6,x7,x8,x9,x10,()⟩ hp=>bE (show L4.step E H (code 0) (x1,(x2,(x3,(x4,(x5,(x6,(x7,(x8,(x9,(x10,()))))))))))=eO x1 x2 x3 x4 x5 x6 x7 x8 x9 x10 from by kernel_rfl) (vZ x1 x2 x3 x4 x5 x6 x7 x8 x9 x10 hp)⟩
theorem dD:aT Tryz.prog E:=aB bA.aLo (aB dN.aLo (aB fE.aLo (aB cC.aLo (aN jH))))
theorem loops:∀c,Tryz.f141.body=some c->aL E H c:=cJ (by kernel_rfl) (by kernel_rfl) fun i l h=>match i,h with
  |0,h=>Option.some.inj h▸nG
  |n+1,h=>by cases h
theorem aLp:bF Tryz.prog 141 fs:=aI dD mixed Tryz.func141 H loops fun⟨x0,x1,x2,()⟩ hw hp=>(show bG E H Tryz.f141 fs.ps fs.rs (x0,(x1,(x2,())))=aQ x0 x1 x2 from by kernel_rfl).trans (eq x0 x1 x2 hw hp)
theorem aLo:cX Tryz.prog 141 fs:=⟨aLp,_,Tryz.func141,by kernel_rfl,by kernel_rfl⟩
end iW
namespace fY
noncomputable def fs:FS:=⟨[(.val gD .f),(.peek gD)],[(.bool,.o)],fun x=>fY.pre x.1 x.2.1,fun x=>((),((fY x.1 x.2.1),()))⟩
noncomputable def E:fN:=⟨bI,[],[]⟩
noncomputable def H:List LC:=[]
theorem dD:aT Tryz.prog E:=aN jH
theorem loops:∀c,Tryz.f165.body=some c->aL E H c:=aO (by kernel_rfl)
theorem aLp:bF Tryz.prog 165 fs:=aI dD mixed Tryz.func165 H loops fun⟨x0,x1,()⟩ hw hp=>(show bG E H Tryz.f165 fs.ps fs.rs (x0,(x1,()))=aQ x0 x1 from by kernel_rfl).trans (eq x0 x1 hw hp)
theorem aLo:cX Tryz.prog 165 fs:=⟨aLp,_,Tryz.func165,by kernel_rfl,by kernel_rfl⟩
end fY
namespace cR
noncomputable def fs:FS:=⟨[(.val (.sl 44 gD) .f),(.fn gD .bool)],[(.bool,.o)],fun x=>cR.pre x.1 x.2.1,fun x=>((),((cR x.1 x.2.1),()))⟩
noncomputable def E:fN:=⟨bI,[(170,bH.fs)],[]⟩
noncomputable def H:List LC:=[]
theorem dD:aT Tryz.prog E:=aB bH.aLo (aN jH)
theorem loops:∀c,Tryz.f164.body=some c->aL E H c:=aO (by kernel_rfl)
theorem aLp:bF Tryz.prog 164 fs:=aI dD mixed Tryz.func164 H loops fun⟨x0,x1,()⟩ hw hp=>(show bG E H Tryz.f164 fs.ps fs.rs (x0,(x1,()))=aQ x0 x1 from by kernel_rfl).trans (eq x0 x1 hw hp)
theorem aLo:cX Tryz.prog 164 fs:=⟨aLp,_,Tryz.func164,by kernel_rfl,by kernel_rfl⟩
end cR
namespace iV
noncomputable def fs:FS:=⟨[(.val bD .f),(.val (.int .i64) .f)],[(bD,.o)],fun x=>iV.pre x.1 x.2.1,fun x=>((),((iV x.1 x.2.1),()))⟩
noncomputable def E:fN:=⟨bI,[(87,bA.fs),(60,dN.fs),(165,fY.fs),(164,cR.fs)],[]⟩
noncomputable def sh6:iN:=⟨(uu::ui::(.one (.bptr 0 [] bD))::uu::(.one (.bptr 32 [] bD))::(.one (.bptr 8256 [] bD))::un 15 ((.one (.dat (.sl 44 gD)))::ui::ui::un 38 [])),[(0,(.box bD (.dat bD))),(32,(.box bD (.pair (.dat (.int .i64)) (.pair (.dat (.int .i64)) (.pair (.arr 20000000) (.dat .unit)))))),(20000000,(.arr 44 gD)),(8256,(.box bD (.pair (.dat (.int .i64)) (.pair (.dat (.int .i64)) (.pair (.arr 20000001) (.dat .unit)))))),(20000001,(.arr 44 gD))]⟩
noncomputable def aHX:List iZ:=[⟨(.exit 0),⟨0,[4,5],[],[]⟩,⟨(un 4 ((.one (.bptr 32 [] bD))::(.one (.bptr 8256 [] bD))::un 56 [])),[(32,(.box bD (.pair (.dat (.int .i64)) (.pair (.dat (.int .i64)) (.pair (.arr 20000000) (.dat .unit)))))),(20000000,(.arr 44 gD)),(8256,(.box bD (.pair (.dat (.int .i64)) (.pair (.dat (.int .i64)) (.pair (.arr 20000001) (.dat .unit)))))),(20000001,(.arr 44 gD))]⟩⟩]
noncomputable def L6:LC:=⟨6,⟨6,[1,2,4,5,21,22,23],[],[]⟩,sh6,aHX,pre6,fn6⟩
noncomputable def H:List LC:=[L6]
noncomputable def code(i:Nat):Code:=(cB (dX Tryz.f142)).getD i .skip
theorem aJM:dE E H (code 0) L6:=⟨mu6,fun⟨x1,x2,x3,x4,x5,x6,x7,x8,x9,x10,x11,x12,x13,()⟩ hp=>bE (show L6.step E H (code 0) (x1,(x2,(x3,(x4,(x5,(x6,(x7,(x8,(x9,(x10,(x11,(x12,(x13,())))))))))))))=aCM x1 x2 x3 x4 x5 x6 x7 x8 x9 x10 x11 x12 x13 from by kernel_rfl) (ok6 x1 x2 x3 x4 x5 x6 x7 x8 x9 x10 x11 x12 x13 hp)⟩
theorem dD:aT Tryz.prog E:=aB bA.aLo (aB dN.aLo (aB fY.aLo (aB cR.aLo (aN jH))))
theorem loops:∀c,Tryz.f142.body=some c->aL E H c:=cJ (by kernel_rfl) (by kernel_rfl) fun i l h=>match i,h with
  |0,h=>Option.some.inj h▸aJM
  |n+1,h=>by cases h
theorem aLp:bF Tryz.prog 142 fs:=aI dD mixed Tryz.func142 H loops fun⟨x0,x1,()⟩ hw hp=>(show bG E H Tryz.f142 fs.ps fs.rs (x0,(x1,()))=aQ x0 x1 from by kernel_rfl).trans (eq x0 x1 hw hp)
theorem aLo:cX Tryz.prog 142 fs:=⟨aLp,_,Tryz.func142,by kernel_rfl,by kernel_rfl⟩
end iV
namespace fJ
noncomputable def fs:FS:=⟨[(.ref aY .o),(.val fO .f),(.val kO .f)],[(dA,.o)],fun x=>fJ.pre x.1 x.2.1 x.2.2.1,fun x=>(((fJ x.1 x.2.1 x.2.2.1).1,()),((fJ x.1 x.2.1 x.2.2.1).2,()))⟩
noncomputable def E:fN:=⟨bI,[(139,fV.fs),(140,fZ.fs),(137,lT.fs),(138,jD.fs),(141,iW.fs),(142,iV.fs)],[]⟩
noncomputable def H:List LC:=[]
theorem dD:aT Tryz.prog E:=aB fV.aLo (aB fZ.aLo (aB lT.aLo (aB jD.aLo (aB iW.aLo (aB iV.aLo (aN jH))))))
theorem loops:∀c,Tryz.f117.body=some c->aL E H c:=aO (by kernel_rfl)
theorem aLp:bF Tryz.prog 117 fs:=aI dD mixed Tryz.func117 H loops fun⟨x0,x1,x2,()⟩ hw hp=>(show bG E H Tryz.f117 fs.ps fs.rs (x0,(x1,(x2,())))=aQ x0 x1 x2 from by kernel_rfl).trans (eq x0 x1 x2 hw hp)
theorem aLo:cX Tryz.prog 117 fs:=⟨aLp,_,Tryz.func117,by kernel_rfl,by kernel_rfl⟩
end fJ
namespace jT
noncomputable def nA:List (Nat×vT):=[(10000000,(.box aY (.pair (.arr 20000000) (.pair (.arr 20000001) (.pair (.arr 20000002) (.pair (.dat (.int .i64)) (.pair (.arr 20000003) (.pair (.arr 20000004) (.dat .unit))))))))),(20000000,(.arr 42 bD)),(20000001,(.arr 80 bX)),(20000002,(.arr 83 bV)),(20000003,(.arr 3 (.int .i64))),(20000004,(.arr 48 dA)),(64,(.box dA (.dat dA)))]
noncomputable def fs:FS:=⟨[(.ref aY .o),(.val fO .f),(.val kO .f)],[(dA,.o)],fun x=>jT.pre x.1 x.2.1 x.2.2.1,fun x=>(((jT x.1 x.2.1 x.2.2.1).1,()),((jT x.1 x.2.1 x.2.2.1).2,()))⟩
noncomputable def E:fN:=⟨bI,[(115,gI.fs),(116,dB.fs),(117,fJ.fs)],[]⟩
noncomputable def sh5:iN:=⟨((.one (.bptr 10000000 [] aY))::un 5 ((.one (.bptr 64 [] dA))::un 20 ((.one (.arr 20000002))::ui::ui::un 47 []))),nA⟩
noncomputable def zT:List iZ:=[⟨(.exit 1),⟨0,[0,6],[],[]⟩,⟨((.one (.bptr 10000000 [] aY))::un 5 ((.one (.bptr 64 [] dA))::un 70 [])),nA⟩⟩]
noncomputable def L5:LC:=⟨5,⟨5,[0,6,27,28,29],[],[]⟩,sh5,zT,pre5,fn5⟩
noncomputable def H:List LC:=[L5]
noncomputable def code(i:Nat):Code:=(cB (dX Tryz.f91)).getD i .skip
theorem aDF:dE E H (code 0) L5:=⟨mu5,fun⟨x1,x2,x3,x4,x5,x6,x7,x8,x9,x10,()⟩ hp=>bE (show L5.step E H (code 0) (x1,(x2,(x3,(x4,(x5,(x6,(x7,(x8,(x9,(x10,()))))))))))=rG x1 x2 x3 x4 x5 x6 x7 x8 x9 x10 from by kernel_rfl) (ok5 x1 x2 x3 x4 x5 x6 x7 x8 x9 x10 hp)⟩
theorem dD:aT Tryz.prog E:=aB gI.aLo (aB dB.aLo (aB fJ.aLo (aN jH)))
theorem loops:∀c,Tryz.f91.body=some c->aL E H c:=cJ (by kernel_rfl) (by kernel_rfl) fun i l h=>match i,h with
  |0,h=>Option.some.inj h▸aDF
  |n+1,h=>by cases h
theorem aLp:bF Tryz.prog 91 fs:=aI dD mixed Tryz.func91 H loops fun⟨x0,x1,x2,()⟩ hw hp=>(show bG E H Tryz.f91 fs.ps fs.rs (x0,(x1,(x2,())))=aQ x0 x1 x2 from by kernel_rfl).trans (eq x0 x1 x2 hw hp)
theorem aLo:cX Tryz.prog 91 fs:=⟨aLp,_,Tryz.func91,by kernel_rfl,by kernel_rfl⟩
end jT
namespace iR
noncomputable def fs:FS:=⟨[(.ref aY .o),(.val fO .f),(.val kO .f)],[(dA,.o)],fun x=>iR.pre x.1 x.2.1 x.2.2.1,fun x=>(((iR x.1 x.2.1 x.2.2.1).1,()),((iR x.1 x.2.1 x.2.2.1).2,()))⟩
noncomputable def E:fN:=⟨bI,[(91,jT.fs)],[]⟩
noncomputable def H:List LC:=[]
theorem dD:aT Tryz.prog E:=aB jT.aLo (aN jH)
theorem loops:∀c,Tryz.f47.body=some c->aL E H c:=aO (by kernel_rfl)
theorem aLp:bF Tryz.prog 47 fs:=aI dD mixed Tryz.func47 H loops fun⟨x0,x1,x2,()⟩ hw hp=>(show bG E H Tryz.f47 fs.ps fs.rs (x0,(x1,(x2,())))=aQ x0 x1 x2 from by kernel_rfl).trans (eq x0 x1 x2 hw hp)
theorem aLo:cX Tryz.prog 47 fs:=⟨aLp,_,Tryz.func47,by kernel_rfl,by kernel_rfl⟩
end iR
namespace cU
noncomputable def fs:FS:=⟨[(.val fO .f),(.val aY .f),(.val kO .f)],[(aY,.o),(dA,.o)],fun x=>cU.pre x.1 x.2.1 x.2.2.1,fun x=>((),((cU x.1 x.2.1 x.2.2.1).1,((cU x.1 x.2.1 x.2.2.1).2,())))⟩
noncomputable def E:fN:=⟨bI,[(45,dU.fs),(20,dY.fs),(46,mX.fs),(47,iR.fs)],[]⟩
noncomputable def H:List LC:=[]
theorem dD:aT Tryz.prog E:=aB dU.aLo (aB dY.aLo (aB mX.aLo (aB iR.aLo (aN jH))))
theorem loops:∀c,Tryz.f12.body=some c->aL E H c:=aO (by kernel_rfl)
theorem aLp:bF Tryz.prog 12 fs:=aI dD mixed Tryz.func12 H loops fun⟨x0,x1,x2,()⟩ hw hp=>(show bG E H Tryz.f12 fs.ps fs.rs (x0,(x1,(x2,())))=aQ x0 x1 x2 from by kernel_rfl).trans (eq x0 x1 x2 hw hp)
theorem aLo:cX Tryz.prog 12 fs:=⟨aLp,_,Tryz.func12,by kernel_rfl,by kernel_rfl⟩
end cU
namespace dG
noncomputable def fs:FS:=⟨[(.val fO .f),(.val (.sl 46 kO) .f)],[(aY,.o),((.sl 48 dA),.o)],fun x=>dG.pre x.1 x.2.1,fun x=>((),((dG x.1 x.2.1).1,((dG x.1 x.2.1).2,())))⟩
noncomputable def E:fN:=⟨bI,[(15,fG.fs),(12,cU.fs)],[]⟩
noncomputable def vX:iN:=⟨(uu::uu::(.one (.bptr 0 [] fO))::uu::(.one (.bptr 32 [] aY))::uu::(.one (.bptr 8256 [] aY))::(.one (.arr 20000010))::un 6 ((.one (.dat (.sl 46 kO)))::ui::ui::un 18 [])),[(0,(.box fO (.dat fO))),(32,(.box aY (.pair (.arr 20000000) (.pair (.arr 20000001) (.pair (.arr 20000002) (.pair (.dat (.int .i64)) (.pair (.arr 20000003) (.pair (.arr 20000004) (.dat .unit))))))))),(20000000,(.arr 42 bD)),(20000001,(.arr 80 bX)),(20000002,(.arr 83 bV)),(20000003,(.arr 3 (.int .i64))),(20000004,(.arr 48 dA)),(8256,(.box aY (.pair (.arr 20000005) (.pair (.arr 20000006) (.pair (.arr 20000007) (.pair (.dat (.int .i64)) (.pair (.arr 20000008) (.pair (.arr 20000009) (.dat .unit))))))))),(20000005,(.arr 42 bD)),(20000006,(.arr 80 bX)),(20000007,(.arr 83 bV)),(20000008,(.arr 3 (.int .i64))),(20000009,(.arr 48 dA)),(20000010,(.arr 48 dA))]⟩
noncomputable def kC:List iZ:=[⟨(.exit 0),⟨0,[4,6,7],[(7,(48,dA))],[]⟩,⟨(un 4 ((.one (.bptr 32 [] aY))::uu::(.one (.bptr 8256 [] aY))::(.one (.arr 20000010))::un 27 [])),[(32,(.box aY (.pair (.arr 20000000) (.pair (.arr 20000001) (.pair (.arr 20000002) (.pair (.dat (.int .i64)) (.pair (.arr 20000003) (.pair (.arr 20000004) (.dat .unit))))))))),(20000000,(.arr 42 bD)),(20000001,(.arr 80 bX)),(20000002,(.arr 83 bV)),(20000003,(.arr 3 (.int .i64))),(20000004,(.arr 48 dA)),(8256,(.box aY (.pair (.arr 20000005) (.pair (.arr 20000006) (.pair (.arr 20000007) (.pair (.dat (.int .i64)) (.pair (.arr 20000008) (.pair (.arr 20000009) (.dat .unit))))))))),(20000005,(.arr 42 bD)),(20000006,(.arr 80 bX)),(20000007,(.arr 83 bV)),(20000008,(.arr 3 (.int .i64))),(20000009,(.arr 48 dA)),(20000010,(.arr 48 dA))]⟩⟩]
noncomputable def L4:LC:=⟨4,⟨4,[2,4,6,7,14,15,16],[(7,(48,dA))],[]⟩,vX,kC,pre4,fn4⟩
noncomputable def H:List LC:=[L4]
noncomputable def code(i:Nat):Code:=(cB (dX Tryz.f8)).getD i .skip
theorem nG:dE E H (code 0) L4:=⟨kU,fun⟨x1,x2,x3,x4,x5,x6,x7,x8,x9,x10,x11,x12,x13,x14,x15,x16,x17,x18,x19,()⟩ hp=>bE (show L4.step E H (code 0) (x1,(x2,(x3,(x4,(x5,(x6,(x7,(x8,(x9,(x10,(x11,(x12,(x13,(x14,(x15,(x16,(x17,(x18,(x19,())))))))))))))))))))=eO x1 x2 x3 x4 x5 x6 x7 x8 x9 x10 x11 x12 x13 x14 x15 x16 x17 x18 x19 from by kernel_rfl) (vZ x1 x2 x3 x4 x5 x6 x7 x8 x9 x10 x11 x12 x13 x14 x15 x16 x17 x18 x19 hp)⟩
theorem dD:aT Tryz.prog E:=aB fG.aLo (aB cU.aLo (aN jH))
theorem loops:∀c,Tryz.f8.body=some c->aL E H c:=cJ (by kernel_rfl) (by kernel_rfl) fun i l h=>match i,h with
  |0,h=>Option.some.inj h▸nG
  |n+1,h=>by cases h
theorem aLp:bF Tryz.prog 8 fs:=aI dD mixed Tryz.func8 H loops fun⟨x0,x1,()⟩ hw hp=>(show bG E H Tryz.f8 fs.ps fs.rs (x0,(x1,()))=aQ x0 x1 from by kernel_rfl).trans (eq x0 x1 hw hp)
theorem aLo:cX Tryz.prog 8 fs:=⟨aLp,_,Tryz.func8,by kernel_rfl,by kernel_rfl⟩
end dG
namespace lZ
noncomputable def fs:FS:=⟨[(.val (.sl 5 (.int .u8)) .f)],[(.bool,.o)],fun _=>true,fun x=>((),((lZ x.1),()))⟩
noncomputable def E:fN:=⟨bI,[],[]⟩
noncomputable def H:List LC:=[]
theorem dD:aT Tryz.prog E:=aN jH
theorem loops:∀c,Tryz.f6.body=some c->aL E H c:=aO (by kernel_rfl)
theorem aLp:bF Tryz.prog 6 fs:=aI dD mixed Tryz.func6 H loops fun⟨x0,()⟩ hw _=>(show bG E H Tryz.f6 fs.ps fs.rs (x0,())=aQ x0 from by kernel_rfl).trans (eq x0 hw)
theorem aLo:cX Tryz.prog 6 fs:=⟨aLp,_,Tryz.func6,by kernel_rfl,by kernel_rfl⟩
end lZ
namespace dW
noncomputable def fs:FS:=⟨[(.val (.sl 5 (.int .u8)) .f)],[((.pair (.sl 5 (.int .u8)) lW),(.np .f))],fun x=>dW.pre x.1,fun x=>((),((dW x.1),()))⟩
noncomputable def E:fN:=⟨bI,[],[]⟩
noncomputable def sh3:iN:=⟨((.one (.dat (.sl 5 (.int .u8))))::uu::uu::ui::ui::un 27 []),[]⟩
noncomputable def aEt:List iZ:=[⟨(.exit 0),⟨0,[0,3],[],[]⟩,⟨((.one (.dat (.sl 5 (.int .u8))))::uu::uu::ui::un 28 []),[]⟩⟩]
noncomputable def L3:LC:=⟨3,⟨3,[0,3,4],[],[]⟩,sh3,aEt,pre3,fn3⟩
noncomputable def H:List LC:=[L3]
noncomputable def code(i:Nat):Code:=(cB (dX Tryz.f32)).getD i .skip
theorem aHS:dE E H (code 0) L3:=⟨mu3,fun⟨x1,x2,x3,()⟩ hp=>bE (show L3.step E H (code 0) (x1,(x2,(x3,())))=aAh x1 x2 x3 from by kernel_rfl) (ok3 x1 x2 x3 hp)⟩
theorem dD:aT Tryz.prog E:=aN jH
theorem loops:∀c,Tryz.f32.body=some c->aL E H c:=cJ (by kernel_rfl) (by kernel_rfl) fun i l h=>match i,h with
  |0,h=>Option.some.inj h▸aHS
  |n+1,h=>by cases h
theorem aLp:bF Tryz.prog 32 fs:=aI dD mixed Tryz.func32 H loops fun⟨x0,()⟩ hw hp=>(show bG E H Tryz.f32 fs.ps fs.rs (x0,())=aQ x0 from by kernel_rfl).trans (eq x0 hw hp)
theorem aLo:cX Tryz.prog 32 fs:=⟨aLp,_,Tryz.func32,by kernel_rfl,by kernel_rfl⟩
end dW
namespace eA
noncomputable def fs:FS:=⟨[(.ref (.pair (.sl 5 (.int .u8)) lW) .f)],[((.int .i64),.o)],fun x=>eA.pre x.1,fun x=>(((eA x.1).1,()),((eA x.1).2,()))⟩
noncomputable def E:fN:=⟨bI,[],[]⟩
noncomputable def H:List LC:=[]
theorem dD:aT Tryz.prog E:=aN jH
theorem loops:∀c,Tryz.f92.body=some c->aL E H c:=aO (by kernel_rfl)
theorem aLp:bF Tryz.prog 92 fs:=aI dD mixed Tryz.func92 H loops fun⟨x0,()⟩ hw hp=>(show bG E H Tryz.f92 fs.ps fs.rs (x0,())=aQ x0 from by kernel_rfl).trans (eq x0 hw hp)
theorem aLo:cX Tryz.prog 92 fs:=⟨aLp,_,Tryz.func92,by kernel_rfl,by kernel_rfl⟩
end eA
namespace aJ
noncomputable def fs:FS:=⟨[(.ref (.pair (.sl 5 (.int .u8)) lW) .f),(.val (.int .i64) .f)],[((.int .i64),.o)],fun x=>aJ.pre x.1 x.2.1,fun x=>(((aJ x.1 x.2.1).1,()),((aJ x.1 x.2.1).2,()))⟩
noncomputable def E:fN:=⟨bI,[(92,eA.fs)],[]⟩
noncomputable def H:List LC:=[]
theorem dD:aT Tryz.prog E:=aB eA.aLo (aN jH)
theorem loops:∀c,Tryz.f49.body=some c->aL E H c:=aO (by kernel_rfl)
theorem aLp:bF Tryz.prog 49 fs:=aI dD mixed Tryz.func49 H loops fun⟨x0,x1,()⟩ hw hp=>(show bG E H Tryz.f49 fs.ps fs.rs (x0,(x1,()))=aQ x0 x1 from by kernel_rfl).trans (eq x0 x1 hw hp)
theorem aLo:cX Tryz.prog 49 fs:=⟨aLp,_,Tryz.func49,by kernel_rfl,by kernel_rfl⟩
end aJ
namespace aK
noncomputable def fs:FS:=⟨[(.ref (.pair (.sl 5 (.int .u8)) lW) .f),(.val (.sl 3 (.int .i64)) .o)],[((.int .i64),.o)],fun x=>aK.pre x.1 x.2.1,fun x=>(((aK x.1 x.2.1).1,()),((aK x.1 x.2.1).2,()))⟩
noncomputable def E:fN:=⟨bI,[(49,aJ.fs)],[]⟩
noncomputable def H:List LC:=[]
theorem dD:aT Tryz.prog E:=aB aJ.aLo (aN jH)
theorem loops:∀c,Tryz.f48.body=some c->aL E H c:=aO (by kernel_rfl)
theorem aLp:bF Tryz.prog 48 fs:=aI dD mixed Tryz.func48 H loops fun⟨x0,x1,()⟩ hw hp=>(show bG E H Tryz.f48 fs.ps fs.rs (x0,(x1,()))=aQ x0 x1 from by kernel_rfl).trans (eq x0 x1 hw hp)
theorem aLo:cX Tryz.prog 48 fs:=⟨aLp,_,Tryz.func48,by kernel_rfl,by kernel_rfl⟩
end aK
namespace dS
noncomputable def fs:FS:=⟨[(.ref (.pair (.sl 5 (.int .u8)) lW) .f)],[(fO,.o)],fun x=>dS.pre x.1,fun x=>(((dS x.1).1,()),((dS x.1).2,()))⟩
noncomputable def E:fN:=⟨bI,[(49,aJ.fs),(48,aK.fs)],[]⟩
noncomputable def H:List LC:=[]
theorem dD:aT Tryz.prog E:=aB aJ.aLo (aB aK.aLo (aN jH))
theorem loops:∀c,Tryz.f83.body=some c->aL E H c:=aO (by kernel_rfl)
theorem aLp:bF Tryz.prog 83 fs:=aI dD mixed Tryz.func83 H loops fun⟨x0,()⟩ hw hp=>(show bG E H Tryz.f83 fs.ps fs.rs (x0,())=aQ x0 from by kernel_rfl).trans (eq x0 hw hp)
theorem aLo:cX Tryz.prog 83 fs:=⟨aLp,_,Tryz.func83,by kernel_rfl,by kernel_rfl⟩
end dS
namespace fH
noncomputable def fs:FS:=⟨[(.ref (.pair (.sl 5 (.int .u8)) lW) .f)],[(fO,.o)],fun x=>fH.pre x.1,fun x=>(((fH x.1).1,()),((fH x.1).2,()))⟩
noncomputable def E:fN:=⟨bI,[(49,aJ.fs),(48,aK.fs),(83,dS.fs)],[]⟩
noncomputable def H:List LC:=[]
theorem dD:aT Tryz.prog E:=aB aJ.aLo (aB aK.aLo (aB dS.aLo (aN jH)))
theorem loops:∀c,Tryz.f33.body=some c->aL E H c:=aO (by kernel_rfl)
theorem aLp:bF Tryz.prog 33 fs:=aI dD mixed Tryz.func33 H loops fun⟨x0,()⟩ hw hp=>(show bG E H Tryz.f33 fs.ps fs.rs (x0,())=aQ x0 from by kernel_rfl).trans (eq x0 hw hp)
theorem aLo:cX Tryz.prog 33 fs:=⟨aLp,_,Tryz.func33,by kernel_rfl,by kernel_rfl⟩
end fH
namespace dL
noncomputable def fs:FS:=⟨[(.ref (.pair (.sl 5 (.int .u8)) lW) .f),(.val (.int .i64) .f)],[(.bool,.o)],fun x=>dL.pre x.1 x.2.1,fun x=>(((dL x.1 x.2.1).1,()),((dL x.1 x.2.1).2,()))⟩
noncomputable def E:fN:=⟨bI,[(49,aJ.fs)],[]⟩
noncomputable def H:List LC:=[]
theorem dD:aT Tryz.prog E:=aB aJ.aLo (aN jH)
theorem loops:∀c,Tryz.f35.body=some c->aL E H c:=aO (by kernel_rfl)
theorem aLp:bF Tryz.prog 35 fs:=aI dD mixed Tryz.func35 H loops fun⟨x0,x1,()⟩ hw hp=>(show bG E H Tryz.f35 fs.ps fs.rs (x0,(x1,()))=aQ x0 x1 from by kernel_rfl).trans (eq x0 x1 hw hp)
theorem aLo:cX Tryz.prog 35 fs:=⟨aLp,_,Tryz.func35,by kernel_rfl,by kernel_rfl⟩
end dL
namespace dF
noncomputable def fs:FS:=⟨[(.ref (.pair (.sl 5 (.int .u8)) lW) .f),(.val (.sl 9 .str) .o)],[(.str,.o)],fun x=>dF.pre x.1 x.2.1,fun x=>(((dF x.1 x.2.1).1,()),((dF x.1 x.2.1).2,()))⟩
noncomputable def E:fN:=⟨bI,[(49,aJ.fs)],[]⟩
noncomputable def H:List LC:=[]
theorem dD:aT Tryz.prog E:=aB aJ.aLo (aN jH)
theorem loops:∀c,Tryz.f50.body=some c->aL E H c:=aO (by kernel_rfl)
theorem aLp:bF Tryz.prog 50 fs:=aI dD mixed Tryz.func50 H loops fun⟨x0,x1,()⟩ hw hp=>(show bG E H Tryz.f50 fs.ps fs.rs (x0,(x1,()))=aQ x0 x1 from by kernel_rfl).trans (eq x0 x1 hw hp)
theorem aLo:cX Tryz.prog 50 fs:=⟨aLp,_,Tryz.func50,by kernel_rfl,by kernel_rfl⟩
end dF
namespace dM
noncomputable def fs:FS:=⟨[(.ref (.pair (.sl 5 (.int .u8)) lW) .f)],[(.str,.o)],fun x=>dM.pre x.1,fun x=>(((dM x.1).1,()),((dM x.1).2,()))⟩
noncomputable def E:fN:=⟨bI,[(50,dF.fs)],[]⟩
noncomputable def H:List LC:=[]
theorem dD:aT Tryz.prog E:=aB dF.aLo (aN jH)
theorem loops:∀c,Tryz.f121.body=some c->aL E H c:=aO (by kernel_rfl)
theorem aLp:bF Tryz.prog 121 fs:=aI dD mixed Tryz.func121 H loops fun⟨x0,()⟩ hw hp=>(show bG E H Tryz.f121 fs.ps fs.rs (x0,())=aQ x0 from by kernel_rfl).trans (eq x0 hw hp)
theorem aLo:cX Tryz.prog 121 fs:=⟨aLp,_,Tryz.func121,by kernel_rfl,by kernel_rfl⟩
end dM
namespace eH
noncomputable def fs:FS:=⟨[(.ref (.pair (.sl 5 (.int .u8)) lW) .f)],[(kO,.o)],fun x=>eH.pre x.1,fun x=>(((eH x.1).1,()),((eH x.1).2,()))⟩
noncomputable def E:fN:=⟨bI,[(49,aJ.fs),(48,aK.fs),(121,dM.fs)],[]⟩
noncomputable def H:List LC:=[]
theorem dD:aT Tryz.prog E:=aB aJ.aLo (aB aK.aLo (aB dM.aLo (aN jH)))
theorem loops:∀c,Tryz.f106.body=some c->aL E H c:=aO (by kernel_rfl)
theorem aLp:bF Tryz.prog 106 fs:=aI dD mixed Tryz.func106 H loops fun⟨x0,()⟩ hw hp=>(show bG E H Tryz.f106 fs.ps fs.rs (x0,())=aQ x0 from by kernel_rfl).trans (eq x0 hw hp)
theorem aLo:cX Tryz.prog 106 fs:=⟨aLp,_,Tryz.func106,by kernel_rfl,by kernel_rfl⟩
end eH
namespace dT
noncomputable def fs:FS:=⟨[(.ref (.pair (.sl 5 (.int .u8)) lW) .f)],[(kO,.o)],fun x=>dT.pre x.1,fun x=>(((dT x.1).1,()),((dT x.1).2,()))⟩
noncomputable def E:fN:=⟨bI,[(49,aJ.fs),(35,dL.fs),(106,eH.fs)],[]⟩
noncomputable def H:List LC:=[]
theorem dD:aT Tryz.prog E:=aB aJ.aLo (aB dL.aLo (aB eH.aLo (aN jH)))
theorem loops:∀c,Tryz.f84.body=some c->aL E H c:=aO (by kernel_rfl)
theorem aLp:bF Tryz.prog 84 fs:=aI dD mixed Tryz.func84 H loops fun⟨x0,()⟩ hw hp=>(show bG E H Tryz.f84 fs.ps fs.rs (x0,())=aQ x0 from by kernel_rfl).trans (eq x0 hw hp)
theorem aLo:cX Tryz.prog 84 fs:=⟨aLp,_,Tryz.func84,by kernel_rfl,by kernel_rfl⟩
end dT
namespace cV
noncomputable def nA:List (Nat×vT):=[(10000000,(.box (.pair (.sl 5 (.int .u8)) lW) (.dat (.pair (.sl 5 (.int .u8)) lW)))),(20000000,(.arr 46 kO))]
noncomputable def fs:FS:=⟨[(.ref (.pair (.sl 5 (.int .u8)) lW) .f),(.val (.int .i64) .f)],[((.sl 46 kO),.o)],fun x=>cV.pre x.1 x.2.1,fun x=>(((cV x.1 x.2.1).1,()),((cV x.1 x.2.1).2,()))⟩
noncomputable def E:fN:=⟨bI,[(49,aJ.fs),(35,dL.fs),(84,dT.fs)],[]⟩
noncomputable def vX:iN:=⟨((.one (.bptr 10000000 [] (.pair (.sl 5 (.int .u8)) lW)))::un 4 ((.one (.arr 20000000))::ui::ui::un 29 [])),nA⟩
noncomputable def kC:List iZ:=[⟨(.exit 0),⟨0,[5,0],[(5,(46,kO))],[]⟩,⟨((.one (.bptr 10000000 [] (.pair (.sl 5 (.int .u8)) lW)))::un 4 ((.one (.arr 20000000))::un 31 [])),nA⟩⟩]
noncomputable def L4:LC:=⟨4,⟨4,[0,5,6,7],[(5,(46,kO))],[]⟩,vX,kC,pre4,fn4⟩
noncomputable def H:List LC:=[L4]
noncomputable def code(i:Nat):Code:=(cB (dX Tryz.f34)).getD i .skip
theorem nG:dE E H (code 0) L4:=⟨kU,fun⟨x1,x2,x3,x4,()⟩ hp=>bE (show L4.step E H (code 0) (x1,(x2,(x3,(x4,()))))=eO x1 x2 x3 x4 from by kernel_rfl) (vZ x1 x2 x3 x4 hp)⟩
theorem dD:aT Tryz.prog E:=aB aJ.aLo (aB dL.aLo (aB dT.aLo (aN jH)))
theorem loops:∀c,Tryz.f34.body=some c->aL E H c:=cJ (by kernel_rfl) (by kernel_rfl) fun i l h=>match i,h with
  |0,h=>Option.some.inj h▸nG
  |n+1,h=>by cases h
theorem aLp:bF Tryz.prog 34 fs:=aI dD mixed Tryz.func34 H loops fun⟨x0,x1,()⟩ hw hp=>(show bG E H Tryz.f34 fs.ps fs.rs (x0,(x1,()))=aQ x0 x1 from by kernel_rfl).trans (eq x0 x1 hw hp)
theorem aLo:cX Tryz.prog 34 fs:=⟨aLp,_,Tryz.func34,by kernel_rfl,by kernel_rfl⟩
end cV
namespace iL
noncomputable def fs:FS:=⟨[(.ref (.pair (.sl 5 (.int .u8)) lW) .f),(.val kO .f)],[(kO,.o)],fun x=>iL.pre x.1 x.2.1,fun x=>(((iL x.1 x.2.1).1,()),((iL x.1 x.2.1).2,()))⟩
noncomputable def E:fN:=⟨bI,[(49,aJ.fs),(48,aK.fs),(50,dF.fs)],[]⟩
noncomputable def H:List LC:=[]
theorem dD:aT Tryz.prog E:=aB aJ.aLo (aB aK.aLo (aB dF.aLo (aN jH)))
theorem loops:∀c,Tryz.f36.body=some c->aL E H c:=aO (by kernel_rfl)
theorem aLp:bF Tryz.prog 36 fs:=aI dD mixed Tryz.func36 H loops fun⟨x0,x1,()⟩ hw hp=>(show bG E H Tryz.f36 fs.ps fs.rs (x0,(x1,()))=aQ x0 x1 from by kernel_rfl).trans (eq x0 x1 hw hp)
theorem aLo:cX Tryz.prog 36 fs:=⟨aLp,_,Tryz.func36,by kernel_rfl,by kernel_rfl⟩
end iL
namespace cG
noncomputable def fs:FS:=⟨[(.val (.sl 5 (.int .u8)) .f)],[(fO,.o),((.sl 46 kO),.o)],fun x=>cG.pre x.1,fun x=>((),((cG x.1).1,((cG x.1).2,())))⟩
noncomputable def E:fN:=⟨bI,[(32,dW.fs),(33,fH.fs),(35,dL.fs),(34,cV.fs),(36,iL.fs)],[]⟩
noncomputable def H:List LC:=[]
theorem dD:aT Tryz.prog E:=aB dW.aLo (aB fH.aLo (aB dL.aLo (aB cV.aLo (aB iL.aLo (aN jH)))))
theorem loops:∀c,Tryz.f7.body=some c->aL E H c:=aO (by kernel_rfl)
theorem aLp:bF Tryz.prog 7 fs:=aI dD mixed Tryz.func7 H loops fun⟨x0,()⟩ hw hp=>(show bG E H Tryz.f7 fs.ps fs.rs (x0,())=aQ x0 from by kernel_rfl).trans (eq x0 hw hp)
theorem aLo:cX Tryz.prog 7 fs:=⟨aLp,_,Tryz.func7,by kernel_rfl,by kernel_rfl⟩
end cG
namespace fL
noncomputable def fs:FS:=⟨[(.val (.sl 5 (.int .u8)) .f)],[(fO,.o)],fun x=>fL.pre x.1,fun x=>((),((fL x.1),()))⟩
noncomputable def E:fN:=⟨bI,[(32,dW.fs),(33,fH.fs)],[]⟩
noncomputable def H:List LC:=[]
theorem dD:aT Tryz.prog E:=aB dW.aLo (aB fH.aLo (aN jH))
theorem loops:∀c,Tryz.f13.body=some c->aL E H c:=aO (by kernel_rfl)
theorem aLp:bF Tryz.prog 13 fs:=aI dD mixed Tryz.func13 H loops fun⟨x0,()⟩ hw hp=>(show bG E H Tryz.f13 fs.ps fs.rs (x0,())=aQ x0 from by kernel_rfl).trans (eq x0 hw hp)
theorem aLo:cX Tryz.prog 13 fs:=⟨aLp,_,Tryz.func13,by kernel_rfl,by kernel_rfl⟩
end fL
namespace eX
noncomputable def fs:FS:=⟨[(.val (.sl 5 (.int .u8)) .f)],[(dA,.o)],fun x=>eX.pre x.1,fun x=>((),((eX x.1),()))⟩
noncomputable def E:fN:=⟨bI,[(32,dW.fs),(49,aJ.fs),(48,aK.fs),(50,dF.fs)],[]⟩
noncomputable def H:List LC:=[]
theorem dD:aT Tryz.prog E:=aB dW.aLo (aB aJ.aLo (aB aK.aLo (aB dF.aLo (aN jH))))
theorem loops:∀c,Tryz.f14.body=some c->aL E H c:=aO (by kernel_rfl)
theorem aLp:bF Tryz.prog 14 fs:=aI dD mixed Tryz.func14 H loops fun⟨x0,()⟩ hw hp=>(show bG E H Tryz.f14 fs.ps fs.rs (x0,())=aQ x0 from by kernel_rfl).trans (eq x0 hw hp)
theorem aLo:cX Tryz.prog 14 fs:=⟨aLp,_,Tryz.func14,by kernel_rfl,by kernel_rfl⟩
end eX
namespace cS
noncomputable def fs:FS:=⟨[(.val (.sl 3 (.int .i64)) .f),(.val (.sl 3 (.int .i64)) .f)],[(.bool,.o)],fun x=>cS.pre x.1 x.2.1,fun x=>((),((cS x.1 x.2.1),()))⟩
noncomputable def E:fN:=⟨bI,[],[]⟩
noncomputable def vX:iN:=⟨((.one (.dat (.sl 3 (.int .i64))))::(.one (.dat (.sl 3 (.int .i64))))::uu::uu::uu::ui::un 20 []),[]⟩
noncomputable def kC:List iZ:=[⟨.ret,⟨0,[4],[],[]⟩,⟨(un 4 ((.one (.dat .bool))::un 21 [])),[]⟩⟩,⟨(.exit 0),⟨0,[],[],[]⟩,⟨(un 26 []),[]⟩⟩]
noncomputable def L4:LC:=⟨4,⟨4,[0,1,5],[],[]⟩,vX,kC,pre4,fn4⟩
noncomputable def H:List LC:=[L4]
noncomputable def code(i:Nat):Code:=(cB (dX Tryz.f40)).getD i .skip
theorem nG:dE E H (code 0) L4:=⟨kU,fun⟨x1,x2,x3,()⟩ hp=>bE (show L4.step E H (code 0) (x1,(x2,(x3,())))=eO x1 x2 x3 from by kernel_rfl) (vZ x1 x2 x3 hp)⟩
theorem dD:aT Tryz.prog E:=aN jH
theorem loops:∀c,Tryz.f40.body=some c->aL E H c:=cJ (by kernel_rfl) (by kernel_rfl) fun i l h=>match i,h with
  |0,h=>Option.some.inj h▸nG
  |n+1,h=>by cases h
theorem aLp:bF Tryz.prog 40 fs:=aI dD mixed Tryz.func40 H loops fun⟨x0,x1,()⟩ hw hp=>(show bG E H Tryz.f40 fs.ps fs.rs (x0,(x1,()))=aQ x0 x1 from by kernel_rfl).trans (eq x0 x1 hw hp)
theorem aLo:cX Tryz.prog 40 fs:=⟨aLp,_,Tryz.func40,by kernel_rfl,by kernel_rfl⟩
end cS
namespace gS
noncomputable def fs:FS:=⟨[(.val bD .f),(.val bD .f)],[(.bool,.o)],fun x=>gS.pre x.1 x.2.1,fun x=>((),((gS x.1 x.2.1),()))⟩
noncomputable def E:fN:=⟨bI,[],[]⟩
noncomputable def vX:iN:=⟨(uu::uu::(.one (.bptr 0 [] bD))::(.one (.bptr 32 [] bD))::uu::ui::un 39 []),[(0,(.box bD (.dat bD))),(32,(.box bD (.dat bD)))]⟩
noncomputable def kC:List iZ:=[⟨.ret,⟨0,[4],[],[]⟩,⟨(un 4 ((.one (.dat .bool))::un 40 [])),[]⟩⟩,⟨(.exit 0),⟨0,[],[],[]⟩,⟨(un 45 []),[]⟩⟩]
noncomputable def L4:LC:=⟨4,⟨4,[2,3,5],[],[]⟩,vX,kC,pre4,fn4⟩
noncomputable def H:List LC:=[L4]
noncomputable def code(i:Nat):Code:=(cB (dX Tryz.f41)).getD i .skip
theorem nG:dE E H (code 0) L4:=⟨kU,fun⟨x1,x2,x3,()⟩ hp=>bE (show L4.step E H (code 0) (x1,(x2,(x3,())))=eO x1 x2 x3 from by kernel_rfl) (vZ x1 x2 x3 hp)⟩
theorem dD:aT Tryz.prog E:=aN jH
theorem loops:∀c,Tryz.f41.body=some c->aL E H c:=cJ (by kernel_rfl) (by kernel_rfl) fun i l h=>match i,h with
  |0,h=>Option.some.inj h▸nG
  |n+1,h=>by cases h
theorem aLp:bF Tryz.prog 41 fs:=aI dD mixed Tryz.func41 H loops fun⟨x0,x1,()⟩ hw hp=>(show bG E H Tryz.f41 fs.ps fs.rs (x0,(x1,()))=aQ x0 x1 from by kernel_rfl).trans (eq x0 x1 hw hp)
theorem aLo:cX Tryz.prog 41 fs:=⟨aLp,_,Tryz.func41,by kernel_rfl,by kernel_rfl⟩
end gS
namespace fM
noncomputable def fs:FS:=⟨[(.val bX .f),(.val bX .f)],[(.bool,.o)],fun x=>fM.pre x.1 x.2.1,fun x=>((),((fM x.1 x.2.1),()))⟩
noncomputable def E:fN:=⟨bI,[],[]⟩
noncomputable def vX:iN:=⟨(uu::uu::(.one (.bptr 0 [] bX))::(.one (.bptr 32 [] bX))::uu::ui::un 53 []),[(0,(.box bX (.dat bX))),(32,(.box bX (.dat bX)))]⟩
noncomputable def kC:List iZ:=[⟨.ret,⟨0,[4],[],[]⟩,⟨(un 4 ((.one (.dat .bool))::un 54 [])),[]⟩⟩,⟨(.exit 0),⟨0,[],[],[]⟩,⟨(un 59 []),[]⟩⟩]
noncomputable def L4:LC:=⟨4,⟨4,[2,3,5],[],[]⟩,vX,kC,pre4,fn4⟩
noncomputable def H:List LC:=[L4]
noncomputable def code(i:Nat):Code:=(cB (dX Tryz.f42)).getD i .skip
theorem nG:dE E H (code 0) L4:=⟨kU,fun⟨x1,x2,x3,()⟩ hp=>bE (show L4.step E H (code 0) (x1,(x2,(x3,())))=eO x1 x2 x3 from by kernel_rfl) (vZ x1 x2 x3 hp)⟩
theorem dD:aT Tryz.prog E:=aN jH
theorem loops:∀c,Tryz.f42.body=some c->aL E H c:=cJ (by kernel_rfl) (by kernel_rfl) fun i l h=>match i,h with
  |0,h=>Option.some.inj h▸nG
  |n+1,h=>by cases h
theorem aLp:bF Tryz.prog 42 fs:=aI dD mixed Tryz.func42 H loops fun⟨x0,x1,()⟩ hw hp=>(show bG E H Tryz.f42 fs.ps fs.rs (x0,(x1,()))=aQ x0 x1 from by kernel_rfl).trans (eq x0 x1 hw hp)
theorem aLo:cX Tryz.prog 42 fs:=⟨aLp,_,Tryz.func42,by kernel_rfl,by kernel_rfl⟩
end fM
namespace gH
noncomputable def fs:FS:=⟨[(.val bV .f),(.val bV .f)],[(.bool,.o)],fun x=>gH.pre x.1 x.2.1,fun x=>((),((gH x.1 x.2.1),()))⟩
noncomputable def E:fN:=⟨bI,[(40,cS.fs)],[]⟩
noncomputable def H:List LC:=[]
theorem dD:aT Tryz.prog E:=aB cS.aLo (aN jH)
theorem loops:∀c,Tryz.f43.body=some c->aL E H c:=aO (by kernel_rfl)
theorem aLp:bF Tryz.prog 43 fs:=aI dD mixed Tryz.func43 H loops fun⟨x0,x1,()⟩ hw hp=>(show bG E H Tryz.f43 fs.ps fs.rs (x0,(x1,()))=aQ x0 x1 from by kernel_rfl).trans (eq x0 x1 hw hp)
theorem aLo:cX Tryz.prog 43 fs:=⟨aLp,_,Tryz.func43,by kernel_rfl,by kernel_rfl⟩
end gH
namespace bN
noncomputable def nA:List (Nat×vT):=[(0,(.box aY (.dat aY))),(32,(.box aY (.dat aY)))]
noncomputable def fs:FS:=⟨[(.val aY .f),(.val aY .f)],[(.bool,.o)],fun x=>bN.pre x.1 x.2.1,fun x=>((),((bN x.1 x.2.1),()))⟩
noncomputable def E:fN:=⟨bI,[(40,cS.fs),(41,gS.fs),(42,fM.fs),(43,gH.fs)],[]⟩
noncomputable def vX:iN:=⟨(uu::uu::(.one (.bptr 0 [] aY))::(.one (.bptr 32 [] aY))::uu::ui::un 127 []),nA⟩
noncomputable def kC:List iZ:=[⟨.ret,⟨0,[4],[],[]⟩,⟨(un 4 ((.one (.dat .bool))::un 128 [])),[]⟩⟩,⟨(.exit 0),⟨0,[2,3],[],[]⟩,⟨(uu::uu::(.one (.bptr 0 [] aY))::(.one (.bptr 32 [] aY))::un 129 []),nA⟩⟩]
noncomputable def L4:LC:=⟨4,⟨4,[2,3,5],[],[]⟩,vX,kC,pre4,fn4⟩
noncomputable def sh9:iN:=⟨(uu::uu::(.one (.bptr 0 [] aY))::(.one (.bptr 32 [] aY))::uu::uu::ui::un 126 []),nA⟩
noncomputable def aEW:List iZ:=[⟨.ret,⟨0,[4],[],[]⟩,⟨(un 4 ((.one (.dat .bool))::un 128 [])),[]⟩⟩,⟨(.exit 2),⟨0,[2,3],[],[]⟩,⟨(uu::uu::(.one (.bptr 0 [] aY))::(.one (.bptr 32 [] aY))::un 129 []),nA⟩⟩]
noncomputable def L9:LC:=⟨9,⟨9,[2,3,6],[],[]⟩,sh9,aEW,pre9,fn9⟩
noncomputable def aJI:iN:=⟨(uu::uu::(.one (.bptr 0 [] aY))::(.one (.bptr 32 [] aY))::uu::uu::uu::ui::un 125 []),nA⟩
noncomputable def aFO:List iZ:=[⟨.ret,⟨0,[4],[],[]⟩,⟨(un 4 ((.one (.dat .bool))::un 128 [])),[]⟩⟩,⟨(.exit 4),⟨0,[2,3],[],[]⟩,⟨(uu::uu::(.one (.bptr 0 [] aY))::(.one (.bptr 32 [] aY))::un 129 []),nA⟩⟩]
noncomputable def L14:LC:=⟨14,⟨14,[2,3,7],[],[]⟩,aJI,aFO,pre14,fn14⟩
noncomputable def aKU:iN:=⟨(uu::uu::(.one (.bptr 0 [] aY))::(.one (.bptr 32 [] aY))::un 4 (ui::un 124 [])),nA⟩
noncomputable def aKf:List iZ:=[⟨.ret,⟨0,[4],[],[]⟩,⟨(un 4 ((.one (.dat .bool))::un 128 [])),[]⟩⟩,⟨(.exit 6),⟨0,[],[],[]⟩,⟨(un 133 []),[]⟩⟩]
noncomputable def L19:LC:=⟨19,⟨19,[2,3,8],[],[]⟩,aKU,aKf,pre19,fn19⟩
noncomputable def H:List LC:=[L4,L9,L14,L19]
noncomputable def code(i:Nat):Code:=(cB (dX Tryz.f10)).getD i .skip
theorem nG:dE E H (code 0) L4:=⟨kU,fun⟨x1,x2,x3,()⟩ hp=>bE (show L4.step E H (code 0) (x1,(x2,(x3,())))=eO x1 x2 x3 from by kernel_rfl) (vZ x1 x2 x3 hp)⟩
theorem aI2:dE E H (code 1) L9:=⟨mu9,fun⟨x1,x2,x3,()⟩ hp=>bE (show L9.step E H (code 1) (x1,(x2,(x3,())))=aCh x1 x2 x3 from by kernel_rfl) (ok9 x1 x2 x3 hp)⟩
theorem aHD:dE E H (code 2) L14:=⟨aDt,fun⟨x1,x2,x3,()⟩ hp=>bE (show L14.step E H (code 2) (x1,(x2,(x3,())))=aC2 x1 x2 x3 from by kernel_rfl) (aK4 x1 x2 x3 hp)⟩
theorem aKw:dE E H (code 3) L19:=⟨aKh,fun⟨x1,x2,x3,()⟩ hp=>bE (show L19.step E H (code 3) (x1,(x2,(x3,())))=aI3 x1 x2 x3 from by kernel_rfl) (aL6 x1 x2 x3 hp)⟩
theorem dD:aT Tryz.prog E:=aB cS.aLo (aB gS.aLo (aB fM.aLo (aB gH.aLo (aN jH))))
theorem loops:∀c,Tryz.f10.body=some c->aL E H c:=cJ (by kernel_rfl) (by kernel_rfl) fun i l h=>match i,h with
  |0,h=>Option.some.inj h▸nG
  |1,h=>Option.some.inj h▸aI2
  |2,h=>Option.some.inj h▸aHD
  |3,h=>Option.some.inj h▸aKw
  |n+4,h=>by cases h
theorem aLp:bF Tryz.prog 10 fs:=aI dD mixed Tryz.func10 H loops fun⟨x0,x1,()⟩ hw hp=>(show bG E H Tryz.f10 fs.ps fs.rs (x0,(x1,()))=aQ x0 x1 from by kernel_rfl).trans (eq x0 x1 hw hp)
theorem aLo:cX Tryz.prog 10 fs:=⟨aLp,_,Tryz.func10,by kernel_rfl,by kernel_rfl⟩
end bN
namespace iE
noncomputable def fs:FS:=⟨[(.val dA .f)],[(.bool,.o)],fun x=>iE.pre x.1,fun x=>((),((iE x.1),()))⟩
noncomputable def E:fN:=⟨bI,[(54,eV.fs),(55,iA.fs)],[]⟩
noncomputable def H:List LC:=[]
theorem dD:aT Tryz.prog E:=aB eV.aLo (aB iA.aLo (aN jH))
theorem loops:∀c,Tryz.f18.body=some c->aL E H c:=aO (by kernel_rfl)
theorem aLp:bF Tryz.prog 18 fs:=aI dD mixed Tryz.func18 H loops fun⟨x0,()⟩ hw hp=>(show bG E H Tryz.f18 fs.ps fs.rs (x0,())=aQ x0 from by kernel_rfl).trans (eq x0 hw hp)
theorem aLo:cX Tryz.prog 18 fs:=⟨aLp,_,Tryz.func18,by kernel_rfl,by kernel_rfl⟩
end iE
namespace kX
noncomputable def fs:FS:=⟨[(.val (.sl 5 (.int .u8)) .f),(.val (.int .i64) .f)],[((.int .i64),.o)],fun x=>kX.pre x.1 x.2.1,fun x=>((),((kX x.1 x.2.1),()))⟩
noncomputable def E:fN:=⟨bI,[],[]⟩
noncomputable def H:List LC:=[]
theorem dD:aT Tryz.prog E:=aN jH
theorem loops:∀c,Tryz.f19.body=some c->aL E H c:=aO (by kernel_rfl)
theorem aLp:bF Tryz.prog 19 fs:=aI dD mixed Tryz.func19 H loops fun⟨x0,x1,()⟩ hw hp=>(show bG E H Tryz.f19 fs.ps fs.rs (x0,(x1,()))=aQ x0 x1 from by kernel_rfl).trans (eq x0 x1 hw hp)
theorem aLo:cX Tryz.prog 19 fs:=⟨aLp,_,Tryz.func19,by kernel_rfl,by kernel_rfl⟩
end kX
namespace iB
noncomputable def fs:FS:=⟨[(.val (.sl 5 (.int .u8)) .f)],[(.bool,.o)],fun _=>true,fun x=>((),((iB x.1),()))⟩
noncomputable def E:fN:=⟨bI,[(16,fF.fs),(9,eN.fs),(11,gF.fs),(15,fG.fs),(17,eE.fs),(20,dY.fs),(12,cU.fs),(8,dG.fs),(6,lZ.fs),(7,cG.fs),(13,fL.fs),(14,eX.fs),(10,bN.fs),(18,iE.fs),(19,kX.fs)],[]⟩
noncomputable def aIa:iN:=⟨((.one (.dat (.sl 5 (.int .u8))))::uu::uu::(.one (.bptr 24736 [] fO))::(.one (.arr 20000000))::(.one (.bptr 32960 [] aY))::(.one (.arr 20000006))::uu::(.one (.arr 20000007))::uu::uu::ui::un 137 []),[(24736,(.box fO (.dat fO))),(20000000,(.arr 46 kO)),(32960,(.box aY (.pair (.arr 20000001) (.pair (.arr 20000002) (.pair (.arr 20000003) (.pair (.dat (.int .i64)) (.pair (.arr 20000004) (.pair (.arr 20000005) (.dat .unit))))))))),(20000001,(.arr 42 bD)),(20000002,(.arr 80 bX)),(20000003,(.arr 83 bV)),(20000004,(.arr 3 (.int .i64))),(20000005,(.arr 48 dA)),(20000006,(.arr 48 dA)),(20000007,(.arr 48 dA))]⟩
noncomputable def aCG:List iZ:=[⟨.ret,⟨0,[2],[],[]⟩,⟨(uu::uu::(.one (.dat .bool))::un 146 []),[]⟩⟩,⟨(.exit 0),⟨0,[0,3,4,5,6],[],[]⟩,⟨((.one (.dat (.sl 5 (.int .u8))))::uu::uu::(.one (.bptr 24736 [] fO))::(.one (.arr 20000000))::(.one (.bptr 32960 [] aY))::(.one (.arr 20000006))::un 142 []),[(24736,(.box fO (.dat fO))),(20000000,(.arr 46 kO)),(32960,(.box aY (.pair (.arr 20000001) (.pair (.arr 20000002) (.pair (.arr 20000003) (.pair (.dat (.int .i64)) (.pair (.arr 20000004) (.pair (.arr 20000005) (.dat .unit))))))))),(20000001,(.arr 42 bD)),(20000002,(.arr 80 bX)),(20000003,(.arr 83 bV)),(20000004,(.arr 3 (.int .i64))),(20000005,(.arr 48 dA)),(20000006,(.arr 48 dA))]⟩⟩]
noncomputable def L11:LC:=⟨11,⟨11,[0,3,4,5,6,8,11],[],[]⟩,aIa,aCG,pre11,fn11⟩
noncomputable def aKN:iN:=⟨(uu::uu::uu::(.one (.bptr 24736 [] fO))::(.one (.arr 20000000))::(.one (.bptr 32960 [] aY))::(.one (.arr 20000006))::un 5 (ui::(.one (.bptr 147712 [] aY))::(.one (.arr 20000012))::ui::un 133 [])),[(24736,(.box fO (.dat fO))),(20000000,(.arr 46 kO)),(32960,(.box aY (.pair (.arr 20000001) (.pair (.arr 20000002) (.pair (.arr 20000003) (.pair (.dat (.int .i64)) (.pair (.arr 20000004) (.pair (.arr 20000005) (.dat .unit))))))))),(20000001,(.arr 42 bD)),(20000002,(.arr 80 bX)),(20000003,(.arr 83 bV)),(20000004,(.arr 3 (.int .i64))),(20000005,(.arr 48 dA)),(20000006,(.arr 48 dA)),(147712,(.box aY (.pair (.arr 20000007) (.pair (.arr 20000008) (.pair (.arr 20000009) (.pair (.dat (.int .i64)) (.pair (.arr 20000010) (.pair (.arr 20000011) (.dat .unit))))))))),(20000007,(.arr 42 bD)),(20000008,(.arr 80 bX)),(20000009,(.arr 83 bV)),(20000010,(.arr 3 (.int .i64))),(20000011,(.arr 48 dA)),(20000012,(.arr 48 dA))]⟩
noncomputable def aJN:List iZ:=[⟨.ret,⟨0,[2],[],[]⟩,⟨(uu::uu::(.one (.dat .bool))::un 146 []),[]⟩⟩,⟨(.exit 2),⟨0,[3,5,12,13,14],[],[]⟩,⟨(uu::uu::uu::(.one (.bptr 24736 [] fO))::uu::(.one (.bptr 32960 [] aY))::un 6 (ui::(.one (.bptr 147712 [] aY))::(.one (.arr 20000010))::un 134 [])),[(24736,(.box fO (.dat fO))),(32960,(.box aY (.pair (.arr 20000000) (.pair (.arr 20000001) (.pair (.arr 20000002) (.pair (.dat (.int .i64)) (.pair (.arr 20000003) (.pair (.arr 20000004) (.dat .unit))))))))),(20000000,(.arr 42 bD)),(20000001,(.arr 80 bX)),(20000002,(.arr 83 bV)),(20000003,(.arr 3 (.int .i64))),(20000004,(.arr 48 dA)),(147712,(.box aY (.pair (.arr 20000005) (.pair (.arr 20000006) (.pair (.arr 20000007) (.pair (.dat (.int .i64)) (.pair (.arr 20000008) (.pair (.arr 20000009) (.dat .unit))))))))),(20000005,(.arr 42 bD)),(20000006,(.arr 80 bX)),(20000007,(.arr 83 bV)),(20000008,(.arr 3 (.int .i64))),(20000009,(.arr 48 dA)),(20000010,(.arr 48 dA))]⟩⟩]
noncomputable def L20:LC:=⟨20,⟨20,[3,4,5,6,12,13,14,15],[],[]⟩,aKN,aJN,pre20,fn20⟩
noncomputable def H:List LC:=[L11,L20]
noncomputable def code(i:Nat):Code:=(cB (dX Tryz.f4)).getD i .skip
theorem aEZ:dE E H (code 0) L11:=⟨aCR,fun⟨x1,x2,x3,x4,x5,x6,x7,x8,x9,x10,x11,x12,x13,()⟩ hp=>bE (show L11.step E H (code 0) (x1,(x2,(x3,(x4,(x5,(x6,(x7,(x8,(x9,(x10,(x11,(x12,(x13,())))))))))))))=wO x1 x2 x3 x4 x5 x6 x7 x8 x9 x10 x11 x12 x13 from by kernel_rfl) (aHM x1 x2 x3 x4 x5 x6 x7 x8 x9 x10 x11 x12 x13 hp)⟩
theorem aKp:dE E H (code 1) L20:=⟨aJJ,fun⟨x1,x2,x3,x4,x5,x6,x7,x8,x9,x10,x11,x12,x13,x14,x15,x16,x17,x18,x19,x20,()⟩ hp=>bE (show L20.step E H (code 1) (x1,(x2,(x3,(x4,(x5,(x6,(x7,(x8,(x9,(x10,(x11,(x12,(x13,(x14,(x15,(x16,(x17,(x18,(x19,(x20,()))))))))))))))))))))=aIh x1 x2 x3 x4 x5 x6 x7 x8 x9 x10 x11 x12 x13 x14 x15 x16 x17 x18 x19 x20 from by kernel_rfl) (aKO x1 x2 x3 x4 x5 x6 x7 x8 x9 x10 x11 x12 x13 x14 x15 x16 x17 x18 x19 x20 hp)⟩
theorem dD:aT Tryz.prog E:=aB fF.aLo (aB eN.aLo (aB gF.aLo (aB fG.aLo (aB eE.aLo (aB dY.aLo (aB cU.aLo (aB dG.aLo (aB lZ.aLo (aB cG.aLo (aB fL.aLo (aB eX.aLo (aB bN.aLo (aB iE.aLo (aB kX.aLo (aN jH)))))))))))))))
theorem loops:∀c,Tryz.f4.body=some c->aL E H c:=cJ (by kernel_rfl) (by kernel_rfl) fun i l h=>match i,h with
  |0,h=>Option.some.inj h▸aEZ
  |1,h=>Option.some.inj h▸aKp
  |n+2,h=>by cases h
theorem aLp:bF Tryz.prog 4 fs:=aI dD mixed Tryz.func4 H loops fun⟨x0,()⟩ hw _=>(show bG E H Tryz.f4 fs.ps fs.rs (x0,())=aQ x0 from by kernel_rfl).trans (eq x0 hw)
theorem aLo:cX Tryz.prog 4 fs:=⟨aLp,_,Tryz.func4,by kernel_rfl,by kernel_rfl⟩
end iB
namespace fK
noncomputable def nA:List (Nat×vT):=[(24736,(.box fO (.dat fO))),(32960,(.box aY (.pair (.arr 20000000) (.pair (.arr 20000001) (.pair (.arr 20000002) (.pair (.dat (.int .i64)) (.pair (.arr 20000003) (.pair (.arr 20000004) (.dat .unit))))))))),(20000000,(.arr 42 bD)),(20000001,(.arr 80 bX)),(20000002,(.arr 83 bV)),(20000003,(.arr 3 (.int .i64))),(20000004,(.arr 48 dA))]
noncomputable def fs:FS:=⟨[(.val (.sl 5 (.int .u8)) .f)],[(.bool,.o)],fun _=>true,fun x=>((),((fK x.1),()))⟩
noncomputable def E:fN:=⟨bI,[(9,eN.fs),(11,gF.fs),(12,cU.fs),(8,dG.fs),(6,lZ.fs),(7,cG.fs),(10,bN.fs)],[]⟩
noncomputable def aJI:iN:=⟨(uu::uu::uu::(.one (.bptr 24736 [] fO))::uu::(.one (.bptr 32960 [] aY))::uu::uu::uu::ui::ui::un 141 []),nA⟩
noncomputable def aFO:List iZ:=[⟨.ret,⟨0,[2],[],[]⟩,⟨(uu::uu::(.one (.dat .bool))::un 149 []),[]⟩⟩,⟨(.exit 2),⟨0,[3,5,9],[],[]⟩,⟨(uu::uu::uu::(.one (.bptr 24736 [] fO))::uu::(.one (.bptr 32960 [] aY))::uu::uu::uu::ui::un 142 []),nA⟩⟩]
noncomputable def L14:LC:=⟨14,⟨14,[3,5,9,10],[],[]⟩,aJI,aFO,pre14,fn14⟩
noncomputable def aIa:iN:=⟨(uu::uu::uu::(.one (.bptr 24736 [] fO))::uu::(.one (.bptr 32960 [] aY))::uu::uu::uu::ui::un 142 []),nA⟩
noncomputable def aCG:List iZ:=[⟨.ret,⟨0,[2],[],[]⟩,⟨(uu::uu::(.one (.dat .bool))::un 149 []),[]⟩⟩,⟨(.exit 0),⟨0,[],[],[]⟩,⟨(un 152 []),[]⟩⟩]
noncomputable def L11:LC:=⟨11,⟨11,[3,5,9],[],[]⟩,aIa,aCG,pre11,fn11⟩
noncomputable def H:List LC:=[L11,L14]
noncomputable def code(i:Nat):Code:=(cB (dX Tryz.f3)).getD i .skip
theorem aEZ:dE E H (code 0) L11:=⟨aCR,fun⟨x1,x2,x3,x4,x5,x6,x7,x8,x9,()⟩ hp=>bE (show L11.step E H (code 0) (x1,(x2,(x3,(x4,(x5,(x6,(x7,(x8,(x9,())))))))))=wO x1 x2 x3 x4 x5 x6 x7 x8 x9 from by kernel_rfl) (aHM x1 x2 x3 x4 x5 x6 x7 x8 x9 hp)⟩
theorem aHD:dE E H (code 1) L14:=⟨aDt,fun⟨x1,x2,x3,x4,x5,x6,x7,x8,x9,x10,()⟩ hp=>bE (show L14.step E H (code 1) (x1,(x2,(x3,(x4,(x5,(x6,(x7,(x8,(x9,(x10,()))))))))))=aC2 x1 x2 x3 x4 x5 x6 x7 x8 x9 x10 from by kernel_rfl) (aK4 x1 x2 x3 x4 x5 x6 x7 x8 x9 x10 hp)⟩
theorem dD:aT Tryz.prog E:=aB eN.aLo (aB gF.aLo (aB cU.aLo (aB dG.aLo (aB lZ.aLo (aB cG.aLo (aB bN.aLo (aN jH)))))))
theorem loops:∀c,Tryz.f3.body=some c->aL E H c:=cJ (by kernel_rfl) (by kernel_rfl) fun i l h=>match i,h with
  |0,h=>Option.some.inj h▸aEZ
  |1,h=>Option.some.inj h▸aHD
  |n+2,h=>by cases h
theorem aLp:bF Tryz.prog 3 fs:=aI dD mixed Tryz.func3 H loops fun⟨x0,()⟩ hw _=>(show bG E H Tryz.f3 fs.ps fs.rs (x0,())=aQ x0 from by kernel_rfl).trans (eq x0 hw)
theorem aLo:cX Tryz.prog 3 fs:=⟨aLp,_,Tryz.func3,by kernel_rfl,by kernel_rfl⟩
end fK
end
end Go.Aw.Pl
