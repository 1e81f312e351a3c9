import Derived.Test.YthkbmmjpjcehpaaGreatS1a
namespace Go.Aw.Pl
open Go Go.Aw Go.Proofs
set_option linter.unusedVariables false
set_option maxRecDepth 20000
set_option maxHeartbeats 2000000
noncomputable section
namespace kE
noncomputable def fs:FS:=⟨[(.val cJ .f),(.val (.int .i64) .f),(.val (.int .i64) .f),(.val (.int .i64) .f),(.val (.int .i64) .f)],[(cJ,.o)],fun x=>kE.pre x.1 x.2.1 x.2.2.1 x.2.2.2.1 x.2.2.2.2.1,fun x=>((),((kE x.1 x.2.1 x.2.2.1 x.2.2.2.1 x.2.2.2.2.1),()))⟩
noncomputable def E:fG:=⟨bE,[(114,aS.fs),(159,dE.fs)],[]⟩
noncomputable def H:List LC:=[]
theorem cZ:aR Tryz.prog E:=aB aS.aMD (aB dE.aMD (aJ jB))
theorem loops:∀c,Tryz.f161.body=some c->aI E H c:=aO (by kernel_rfl)
theorem aME:aZ Tryz.prog 161 fs:=aH cZ mixed Tryz.func161 H loops fun⟨x0,x1,x2,x3,x4,()⟩ hw hp=>(show bB E H Tryz.f161 fs.ps fs.rs (x0,(x1,(x2,(x3,(x4,())))))=aQ x0 x1 x2 x3 x4 from by kernel_rfl).trans (eq x0 x1 x2 x3 x4 hw hp)
theorem aMD:cW Tryz.prog 161 fs:=⟨aME,_,Tryz.func161,by kernel_rfl,by kernel_rfl⟩
end kE
namespace gG
noncomputable def fs:FS:=⟨[(.val (.sl 80 cJ) .f),(.val cJ .f)],[((.sl 80 cJ),.o)],fun x=>gG.pre x.1 x.2.1,fun x=>((),((gG x.1 x.2.1),()))⟩
noncomputable def E:fG:=⟨bE,[(114,aS.fs),(89,cV.fs)],[]⟩
noncomputable def uL:gJ:=⟨(uu::uu::uu::(.one (.bptr 0 [] cJ))::uu::(.one (.arr 20000000))::(.one (.dat .bool))::un 5 ((.one (.arr 20000001))::ui::ui::un 61 [])),[(0,(.box cJ (.dat cJ))),(20000000,(.arr 80 cJ)),(20000001,(.rng 80 cJ))]⟩
noncomputable def jD:List hJ:=[⟨(.exit 0),⟨0,[3,5,6],[(5,(80,cJ))],[]⟩,⟨(uu::uu::uu::(.one (.bptr 0 [] cJ))::uu::(.one (.arr 20000000))::(.one (.dat .bool))::un 69 []),[(0,(.box cJ (.dat cJ))),(20000000,(.arr 80 cJ))]⟩⟩]
noncomputable def L4:LC:=⟨4,⟨4,[3,5,6,12,13,14],[(5,(80,cJ))],[12]⟩,uL,jD,pre4,fn4⟩
noncomputable def H:List LC:=[L4]
noncomputable def code(i:Nat):Code:=(bI (cU Tryz.f140)).getD i .skip
theorem mT:cP E H (code 0) L4:=⟨lN,fun⟨x1,x2,x3,x4,x5,x6,x7,()⟩ hp=>aV (show L4.step E H (code 0) (x1,(x2,(x3,(x4,(x5,(x6,(x7,())))))))=eA x1 x2 x3 x4 x5 x6 x7 from by kernel_rfl) (uM x1 x2 x3 x4 x5 x6 x7 hp)⟩
theorem cZ:aR Tryz.prog E:=aB aS.aMD (aB cV.aMD (aJ jB))
theorem loops:∀c,Tryz.f140.body=some c->aI E H c:=bH (by kernel_rfl) (by kernel_rfl) fun i l h=>match i,h with
  |0,h=>Option.some.inj h▸mT
  |n+1,h=>by cases h
theorem aME:aZ Tryz.prog 140 fs:=aH cZ mixed Tryz.func140 H loops fun⟨x0,x1,()⟩ hw hp=>(show bB E H Tryz.f140 fs.ps fs.rs (x0,(x1,()))=aQ x0 x1 from by kernel_rfl).trans (eq x0 x1 hw hp)
theorem aMD:cW Tryz.prog 140 fs:=⟨aME,_,Tryz.func140,by kernel_rfl,by kernel_rfl⟩
end gG
namespace nE
noncomputable def fs:FS:=⟨[(.ref bX .o),(.val kA .f),(.val jR .f)],[(dU,.o)],fun x=>nE.pre x.1 x.2.1 x.2.2.1,fun x=>(((nE x.1 x.2.1 x.2.2.1).1,()),((nE x.1 x.2.1 x.2.2.1).2,()))⟩
noncomputable def E:fG:=⟨bE,[(139,fZ.fs),(159,dE.fs),(160,lB.fs),(161,kE.fs),(140,gG.fs)],[]⟩
noncomputable def H:List LC:=[]
theorem cZ:aR Tryz.prog E:=aB fZ.aMD (aB dE.aMD (aB lB.aMD (aB kE.aMD (aB gG.aMD (aJ jB)))))
theorem loops:∀c,Tryz.f137.body=some c->aI E H c:=aO (by kernel_rfl)
theorem aME:aZ Tryz.prog 137 fs:=aH cZ mixed Tryz.func137 H loops fun⟨x0,x1,x2,()⟩ hw hp=>(show bB E H Tryz.f137 fs.ps fs.rs (x0,(x1,(x2,())))=aQ x0 x1 x2 from by kernel_rfl).trans (eq x0 x1 x2 hw hp)
theorem aMD:cW Tryz.prog 137 fs:=⟨aME,_,Tryz.func137,by kernel_rfl,by kernel_rfl⟩
end nE
namespace jU
noncomputable def nJ:List (Nat×vN):=[(32,(.box fH (.dat fH)))]
noncomputable def fs:FS:=⟨[(.val bJ .f),(.val (.int .i64) .f)],[(fH,.o),((.int .i64),.o)],fun x=>jU.pre x.1 x.2.1,fun x=>((),((jU x.1 x.2.1).1,((jU x.1 x.2.1).2,())))⟩
noncomputable def E:fG:=⟨bE,[],[]⟩
noncomputable def uL:gJ:=⟨(uu::ui::uu::uu::(.one (.bptr 32 [] fH))::un 9 ((.one (.dat (.sl 44 fH)))::ui::ui::un 10 [])),nJ⟩
noncomputable def jD:List hJ:=[⟨.ret,⟨0,[4,5],[],[]⟩,⟨(un 4 ((.one (.bptr 32 [] fH))::ui::un 21 [])),nJ⟩⟩,⟨(.exit 0),⟨0,[4],[],[]⟩,⟨(un 4 ((.one (.bptr 32 [] fH))::un 22 [])),nJ⟩⟩]
noncomputable def L4:LC:=⟨4,⟨4,[1,4,14,15,16],[],[]⟩,uL,jD,pre4,fn4⟩
noncomputable def H:List LC:=[L4]
noncomputable def code(i:Nat):Code:=(bI (cU Tryz.f138)).getD i .skip
theorem mT:cP E H (code 0) L4:=⟨lN,fun⟨x1,x2,x3,x4,x5,()⟩ hp=>aV (show L4.step E H (code 0) (x1,(x2,(x3,(x4,(x5,())))))=eA x1 x2 x3 x4 x5 from by kernel_rfl) (uM x1 x2 x3 x4 x5 hp)⟩
theorem cZ:aR Tryz.prog E:=aJ jB
theorem loops:∀c,Tryz.f138.body=some c->aI E H c:=bH (by kernel_rfl) (by kernel_rfl) fun i l h=>match i,h with
  |0,h=>Option.some.inj h▸mT
  |n+1,h=>by cases h
theorem aME:aZ Tryz.prog 138 fs:=aH cZ mixed Tryz.func138 H loops fun⟨x0,x1,()⟩ hw hp=>(show bB E H Tryz.f138 fs.ps fs.rs (x0,(x1,()))=aQ x0 x1 from by kernel_rfl).trans (eq x0 x1 hw hp)
theorem aMD:cW Tryz.prog 138 fs:=⟨aME,_,Tryz.func138,by kernel_rfl,by kernel_rfl⟩
end jU
namespace fF
noncomputable def fs:FS:=⟨[(.val fH .f),(.peek (.int .i64)),(.peek (.int .i64))],[(.bool,.o)],fun x=>fF.pre x.1 x.2.1 x.2.2.1,fun x=>((),((fF x.1 x.2.1 x.2.2.1),()))⟩
noncomputable def E:fG:=⟨bE,[],[]⟩
noncomputable def H:List LC:=[]
theorem cZ:aR Tryz.prog E:=aJ jB
theorem loops:∀c,Tryz.f163.body=some c->aI E H c:=aO (by kernel_rfl)
theorem aME:aZ Tryz.prog 163 fs:=aH cZ mixed Tryz.func163 H loops fun⟨x0,x1,x2,()⟩ hw hp=>(show bB E H Tryz.f163 fs.ps fs.rs (x0,(x1,(x2,())))=aQ x0 x1 x2 from by kernel_rfl).trans (eq x0 x1 x2 hw hp)
theorem aMD:cW Tryz.prog 163 fs:=⟨aME,_,Tryz.func163,by kernel_rfl,by kernel_rfl⟩
end fF
namespace bL
noncomputable def fs:FS:=⟨[(.val (.sl 44 fH) .f),(.fn fH .bool)],[((.int .i64),.o)],fun x=>bL.pre x.1 x.2.1,fun x=>((),((bL x.1 x.2.1),()))⟩
noncomputable def E:fG:=⟨bE,[],[]⟩
noncomputable def rP:gJ:=⟨((.one (.dat (.sl 44 fH)))::(.one (.fn fH .bool))::un 5 (ui::ui::un 10 [])),[]⟩
noncomputable def fW:List hJ:=[⟨.ret,⟨0,[4],[],[]⟩,⟨(un 4 (ui::un 14 [])),[]⟩⟩,⟨(.exit 0),⟨0,[],[],[]⟩,⟨(un 19 []),[]⟩⟩]
noncomputable def L2:LC:=⟨2,⟨2,[0,1,7,8],[],[]⟩,rP,fW,pre2,fn2⟩
noncomputable def H:List LC:=[L2]
noncomputable def code(i:Nat):Code:=(bI (cU Tryz.f170)).getD i .skip
theorem lC:cP E H (code 0) L2:=⟨mA,fun⟨x1,x2,x3,x4,x5,()⟩ hp=>aV (show L2.step E H (code 0) (x1,(x2,(x3,(x4,(x5,())))))=dT x1 x2 x3 x4 x5 from by kernel_rfl) (rR x1 x2 x3 x4 x5 hp)⟩
theorem cZ:aR Tryz.prog E:=aJ jB
theorem loops:∀c,Tryz.f170.body=some c->aI E H c:=bH (by kernel_rfl) (by kernel_rfl) fun i l h=>match i,h with
  |0,h=>Option.some.inj h▸lC
  |n+1,h=>by cases h
theorem aME:aZ Tryz.prog 170 fs:=aH cZ mixed Tryz.func170 H loops fun⟨x0,x1,()⟩ hw hp=>(show bB E H Tryz.f170 fs.ps fs.rs (x0,(x1,()))=aQ x0 x1 from by kernel_rfl).trans (eq x0 x1 hw hp)
theorem aMD:cW Tryz.prog 170 fs:=⟨aME,_,Tryz.func170,by kernel_rfl,by kernel_rfl⟩
end bL
namespace cO
noncomputable def nJ:List (Nat×vN):=[(20000000,(.arr 44 fH))]
noncomputable def fs:FS:=⟨[(.val (.sl 44 fH) .o),(.fn fH .bool)],[((.sl 44 fH),.o)],fun x=>cO.pre x.1 x.2.1,fun x=>((),((cO x.1 x.2.1),()))⟩
noncomputable def E:fG:=⟨bE,[(170,bL.fs)],[]⟩
noncomputable def sh5:gJ:=⟨((.one (.arr 20000000))::(.one (.fn fH .bool))::uu::uu::uu::ui::ui::un 35 []),nJ⟩
noncomputable def yO:List hJ:=[⟨(.exit 0),⟨0,[0,5],[],[]⟩,⟨((.one (.arr 20000000))::un 4 (ui::un 36 [])),nJ⟩⟩]
noncomputable def L5:LC:=⟨5,⟨5,[0,1,5,6],[],[]⟩,sh5,yO,pre5,fn5⟩
noncomputable def H:List LC:=[L5]
noncomputable def code(i:Nat):Code:=(bI (cU Tryz.f162)).getD i .skip
theorem aDN:cP E H (code 0) L5:=⟨mu5,fun⟨x1,x2,x3,x4,x5,()⟩ hp=>aV (show L5.step E H (code 0) (x1,(x2,(x3,(x4,(x5,())))))=rA x1 x2 x3 x4 x5 from by kernel_rfl) (ok5 x1 x2 x3 x4 x5 hp)⟩
theorem cZ:aR Tryz.prog E:=aB bL.aMD (aJ jB)
theorem loops:∀c,Tryz.f162.body=some c->aI E H c:=bH (by kernel_rfl) (by kernel_rfl) fun i l h=>match i,h with
  |0,h=>Option.some.inj h▸aDN
  |n+1,h=>by cases h
theorem aME:aZ Tryz.prog 162 fs:=aH cZ mixed Tryz.func162 H loops fun⟨x0,x1,()⟩ hw hp=>(show bB E H Tryz.f162 fs.ps fs.rs (x0,(x1,()))=aQ x0 x1 from by kernel_rfl).trans (eq x0 x1 hw hp)
theorem aMD:cW Tryz.prog 162 fs:=⟨aME,_,Tryz.func162,by kernel_rfl,by kernel_rfl⟩
end cO
namespace jP
noncomputable def fs:FS:=⟨[(.val bJ .f),(.val (.int .i64) .f),(.val (.int .i64) .f)],[(bJ,.o)],fun x=>jP.pre x.1 x.2.1 x.2.2.1,fun x=>((),((jP x.1 x.2.1 x.2.2.1),()))⟩
noncomputable def E:fG:=⟨bE,[(87,bC.fs),(60,dW.fs),(163,fF.fs),(162,cO.fs)],[]⟩
noncomputable def uL:gJ:=⟨(uu::uu::ui::uu::(.one (.bptr 32 [] (.int .i64)))::uu::(.one (.bptr 64 [] bJ))::(.one (.bptr 8256 [] bJ))::un 53 []),[(32,(.box (.int .i64) (.dat (.int .i64)))),(64,(.box bJ (.pair (.dat (.int .i64)) (.pair (.dat (.int .i64)) (.pair (.arr 20000000) (.dat .unit)))))),(20000000,(.arr 44 fH)),(8256,(.box bJ (.pair (.dat (.int .i64)) (.pair (.dat (.int .i64)) (.pair (.arr 20000001) (.dat .unit)))))),(20000001,(.arr 44 fH))]⟩
noncomputable def jD:List hJ:=[⟨(.exit 0),⟨0,[6,7],[],[]⟩,⟨(un 6 ((.one (.bptr 64 [] bJ))::(.one (.bptr 8256 [] bJ))::un 53 [])),[(64,(.box bJ (.pair (.dat (.int .i64)) (.pair (.dat (.int .i64)) (.pair (.arr 20000000) (.dat .unit)))))),(20000000,(.arr 44 fH)),(8256,(.box bJ (.pair (.dat (.int .i64)) (.pair (.dat (.int .i64)) (.pair (.arr 20000001) (.dat .unit)))))),(20000001,(.arr 44 fH))]⟩⟩]
noncomputable def L4:LC:=⟨4,⟨4,[2,4,6,7],[],[]⟩,uL,jD,pre4,fn4⟩
noncomputable def H:List LC:=[L4]
noncomputable def code(i:Nat):Code:=(bI (cU Tryz.f141)).getD i .skip
theorem mT:cP E H (code 0) L4:=⟨lN,fun⟨x1,x2,x3,x4,x5,x6,x7,x8,x9,x10,()⟩ hp=>aV (show L4.step E H (code 0) (x1,(x2,(x3,(x4,(x5,(x6,(x7,(x8,(x9,(x10,()))))))))))=eA x1 x2 x3 x4 x5 x6 x7 x8 x9 x10 from by kernel_rfl) (uM x1 x2 x3 x4 x5 x6 x7 x8 x9 x10 hp)⟩
theorem cZ:aR Tryz.prog E:=aB bC.aMD (aB dW.aMD (aB fF.aMD (aB cO.aMD (aJ jB))))
theorem loops:∀c,Tryz.f141.body=some c->aI E H c:=bH (by kernel_rfl) (by kernel_rfl) fun i l h=>match i,h with
  |0,h=>Option.some.inj h▸mT
  |n+1,h=>by cases h
theorem aME:aZ Tryz.prog 141 fs:=aH cZ mixed Tryz.func141 H loops fun⟨x0,x1,x2,()⟩ hw hp=>(show bB E H Tryz.f141 fs.ps fs.rs (x0,(x1,(x2,())))=aQ x0 x1 x2 from by kernel_rfl).trans (eq x0 x1 x2 hw hp)
theorem aMD:cW Tryz.prog 141 fs:=⟨aME,_,Tryz.func141,by kernel_rfl,by kernel_rfl⟩
end jP
namespace gC
noncomputable def fs:FS:=⟨[(.val fH .f),(.peek fH)],[(.bool,.o)],fun x=>gC.pre x.1 x.2.1,fun x=>((),((gC x.1 x.2.1),()))⟩
noncomputable def E:fG:=⟨bE,[],[]⟩
noncomputable def H:List LC:=[]
theorem cZ:aR Tryz.prog E:=aJ jB
theorem loops:∀c,Tryz.f165.body=some c->aI E H c:=aO (by kernel_rfl)
theorem aME:aZ Tryz.prog 165 fs:=aH cZ mixed Tryz.func165 H loops fun⟨x0,x1,()⟩ hw hp=>(show bB E H Tryz.f165 fs.ps fs.rs (x0,(x1,()))=aQ x0 x1 from by kernel_rfl).trans (eq x0 x1 hw hp)
theorem aMD:cW Tryz.prog 165 fs:=⟨aME,_,Tryz.func165,by kernel_rfl,by kernel_rfl⟩
end gC
namespace dF
noncomputable def fs:FS:=⟨[(.val (.sl 44 fH) .f),(.fn fH .bool)],[(.bool,.o)],fun x=>dF.pre x.1 x.2.1,fun x=>((),((dF x.1 x.2.1),()))⟩
noncomputable def E:fG:=⟨bE,[(170,bL.fs)],[]⟩
noncomputable def H:List LC:=[]
theorem cZ:aR Tryz.prog E:=aB bL.aMD (aJ jB)
theorem loops:∀c,Tryz.f164.body=some c->aI E H c:=aO (by kernel_rfl)
theorem aME:aZ Tryz.prog 164 fs:=aH cZ mixed Tryz.func164 H loops fun⟨x0,x1,()⟩ hw hp=>(show bB E H Tryz.f164 fs.ps fs.rs (x0,(x1,()))=aQ x0 x1 from by kernel_rfl).trans (eq x0 x1 hw hp)
theorem aMD:cW Tryz.prog 164 fs:=⟨aME,_,Tryz.func164,by kernel_rfl,by kernel_rfl⟩
end dF
namespace jL
noncomputable def fs:FS:=⟨[(.val bJ .f),(.val (.int .i64) .f)],[(bJ,.o)],fun x=>jL.pre x.1 x.2.1,fun x=>((),((jL x.1 x.2.1),()))⟩
noncomputable def E:fG:=⟨bE,[(87,bC.fs),(60,dW.fs),(165,gC.fs),(164,dF.fs)],[]⟩
noncomputable def sh6:gJ:=⟨(uu::ui::(.one (.bptr 0 [] bJ))::uu::(.one (.bptr 32 [] bJ))::(.one (.bptr 8256 [] bJ))::un 15 ((.one (.dat (.sl 44 fH)))::ui::ui::un 38 [])),[(0,(.box bJ (.dat bJ))),(32,(.box bJ (.pair (.dat (.int .i64)) (.pair (.dat (.int .i64)) (.pair (.arr 20000000) (.dat .unit)))))),(20000000,(.arr 44 fH)),(8256,(.box bJ (.pair (.dat (.int .i64)) (.pair (.dat (.int .i64)) (.pair (.arr 20000001) (.dat .unit)))))),(20000001,(.arr 44 fH))]⟩
noncomputable def aJs:List hJ:=[⟨(.exit 0),⟨0,[4,5],[],[]⟩,⟨(un 4 ((.one (.bptr 32 [] bJ))::(.one (.bptr 8256 [] bJ))::un 56 [])),[(32,(.box bJ (.pair (.dat (.int .i64)) (.pair (.dat (.int .i64)) (.pair (.arr 20000000) (.dat .unit)))))),(20000000,(.arr 44 fH)),(8256,(.box bJ (.pair (.dat (.int .i64)) (.pair (.dat (.int .i64)) (.pair (.arr 20000001) (.dat .unit)))))),(20000001,(.arr 44 fH))]⟩⟩]
noncomputable def L6:LC:=⟨6,⟨6,[1,2,4,5,21,22,23],[],[]⟩,sh6,aJs,pre6,fn6⟩
noncomputable def H:List LC:=[L6]
noncomputable def code(i:Nat):Code:=(bI (cU Tryz.f142)).getD i .skip
theorem aLt:cP E H (code 0) L6:=⟨mu6,fun⟨x1,x2,x3,x4,x5,x6,x7,x8,x9,x10,x11,x12,x13,()⟩ hp=>aV (show L6.step E H (code 0) (x1,(x2,(x3,(x4,(x5,(x6,(x7,(x8,(x9,(x10,(x11,(x12,(x13,())))))))))))))=aE2 x1 x2 x3 x4 x5 x6 x7 x8 x9 x10 x11 x12 x13 from by kernel_rfl) (ok6 x1 x2 x3 x4 x5 x6 x7 x8 x9 x10 x11 x12 x13 hp)⟩
theorem cZ:aR Tryz.prog E:=aB bC.aMD (aB dW.aMD (aB gC.aMD (aB dF.aMD (aJ jB))))
theorem loops:∀c,Tryz.f142.body=some c->aI E H c:=bH (by kernel_rfl) (by kernel_rfl) fun i l h=>match i,h with
  |0,h=>Option.some.inj h▸aLt
  |n+1,h=>by cases h
theorem aME:aZ Tryz.prog 142 fs:=aH cZ mixed Tryz.func142 H loops fun⟨x0,x1,()⟩ hw hp=>(show bB E H Tryz.f142 fs.ps fs.rs (x0,(x1,()))=aQ x0 x1 from by kernel_rfl).trans (eq x0 x1 hw hp)
theorem aMD:cW Tryz.prog 142 fs:=⟨aME,_,Tryz.func142,by kernel_rfl,by kernel_rfl⟩
end jL
namespace fL
noncomputable def fs:FS:=⟨[(.ref bX .o),(.val kA .f),(.val jR .f)],[(dU,.o)],fun x=>fL.pre x.1 x.2.1 x.2.2.1,fun x=>(((fL x.1 x.2.1 x.2.2.1).1,()),((fL x.1 x.2.1 x.2.2.1).2,()))⟩
noncomputable def E:fG:=⟨bE,[(139,fZ.fs),(140,gG.fs),(137,nE.fs),(138,jU.fs),(141,jP.fs),(142,jL.fs)],[]⟩
noncomputable def H:List LC:=[]
theorem cZ:aR Tryz.prog E:=aB fZ.aMD (aB gG.aMD (aB nE.aMD (aB jU.aMD (aB jP.aMD (aB jL.aMD (aJ jB))))))
theorem loops:∀c,Tryz.f117.body=some c->aI E H c:=aO (by kernel_rfl)
theorem aME:aZ Tryz.prog 117 fs:=aH cZ mixed Tryz.func117 H loops fun⟨x0,x1,x2,()⟩ hw hp=>(show bB E H Tryz.f117 fs.ps fs.rs (x0,(x1,(x2,())))=aQ x0 x1 x2 from by kernel_rfl).trans (eq x0 x1 x2 hw hp)
theorem aMD:cW Tryz.prog 117 fs:=⟨aME,_,Tryz.func117,by kernel_rfl,by kernel_rfl⟩
end fL
namespace kS
noncomputable def nJ:List (Nat×vN):=[(10000000,(.box bX (.pair (.arr 20000000) (.pair (.arr 20000001) (.pair (.arr 20000002) (.pair (.dat (.int .i64)) (.pair (.arr 20000003) (.pair (.arr 20000004) (.dat .unit))))))))),(20000000,(.arr 42 bJ)),(20000001,(.arr 80 cJ)),(20000002,(.arr 83 bY)),(20000003,(.arr 3 (.int .i64))),(20000004,(.arr 48 dU)),(64,(.box dU (.dat dU)))]
noncomputable def fs:FS:=⟨[(.ref bX .o),(.val kA .f),(.val jR .f)],[(dU,.o)],fun x=>kS.pre x.1 x.2.1 x.2.2.1,fun x=>(((kS x.1 x.2.1 x.2.2.1).1,()),((kS x.1 x.2.1 x.2.2.1).2,()))⟩
noncomputable def E:fG:=⟨bE,[(115,gR.fs),(116,dL.fs),(117,fL.fs)],[]⟩
noncomputable def sh5:gJ:=⟨((.one (.bptr 10000000 [] bX))::un 5 ((.one (.bptr 64 [] dU))::un 20 ((.one (.arr 20000002))::ui::ui::un 47 []))),nJ⟩
noncomputable def yO:List hJ:=[⟨(.exit 1),⟨0,[0,6],[],[]⟩,⟨((.one (.bptr 10000000 [] bX))::un 5 ((.one (.bptr 64 [] dU))::un 70 [])),nJ⟩⟩]
noncomputable def L5:LC:=⟨5,⟨5,[0,6,27,28,29],[],[]⟩,sh5,yO,pre5,fn5⟩
noncomputable def H:List LC:=[L5]
noncomputable def code(i:Nat):Code:=(bI (cU Tryz.f91)).getD i .skip
theorem aDN:cP E H (code 0) L5:=⟨mu5,fun⟨x1,x2,x3,x4,x5,x6,x7,x8,x9,x10,()⟩ hp=>aV (show L5.step E H (code 0) (x1,(x2,(x3,(x4,(x5,(x6,(x7,(x8,(x9,(x10,()))))))))))=rA x1 x2 x3 x4 x5 x6 x7 x8 x9 x10 from by kernel_rfl) (ok5 x1 x2 x3 x4 x5 x6 x7 x8 x9 x10 hp)⟩
theorem cZ:aR Tryz.prog E:=aB gR.aMD (aB dL.aMD (aB fL.aMD (aJ jB)))
theorem loops:∀c,Tryz.f91.body=some c->aI E H c:=bH (by kernel_rfl) (by kernel_rfl) fun i l h=>match i,h with
  |0,h=>Option.some.inj h▸aDN
  |n+1,h=>by cases h
theorem aME:aZ Tryz.prog 91 fs:=aH cZ mixed Tryz.func91 H loops fun⟨x0,x1,x2,()⟩ hw hp=>(show bB E H Tryz.f91 fs.ps fs.rs (x0,(x1,(x2,())))=aQ x0 x1 x2 from by kernel_rfl).trans (eq x0 x1 x2 hw hp)
theorem aMD:cW Tryz.prog 91 fs:=⟨aME,_,Tryz.func91,by kernel_rfl,by kernel_rfl⟩
end kS
namespace jG
noncomputable def fs:FS:=⟨[(.ref bX .o),(.val kA .f),(.val jR .f)],[(dU,.o)],fun x=>jG.pre x.1 x.2.1 x.2.2.1,fun x=>(((jG x.1 x.2.1 x.2.2.1).1,()),((jG x.1 x.2.1 x.2.2.1).2,()))⟩
noncomputable def E:fG:=⟨bE,[(91,kS.fs)],[]⟩
noncomputable def H:List LC:=[]
theorem cZ:aR Tryz.prog E:=aB kS.aMD (aJ jB)
theorem loops:∀c,Tryz.f47.body=some c->aI E H c:=aO (by kernel_rfl)
theorem aME:aZ Tryz.prog 47 fs:=aH cZ mixed Tryz.func47 H loops fun⟨x0,x1,x2,()⟩ hw hp=>(show bB E H Tryz.f47 fs.ps fs.rs (x0,(x1,(x2,())))=aQ x0 x1 x2 from by kernel_rfl).trans (eq x0 x1 x2 hw hp)
theorem aMD:cW Tryz.prog 47 fs:=⟨aME,_,Tryz.func47,by kernel_rfl,by kernel_rfl⟩
end jG
namespace kY
noncomputable def fs:FS:=⟨[(.val kA .f),(.val bX .f),(.val jR .f)],[(bX,.o),(dU,.o)],fun x=>kY.pre x.1 x.2.1 x.2.2.1,fun x=>((),((kY x.1 x.2.1 x.2.2.1).1,((kY x.1 x.2.1 x.2.2.1).2,())))⟩
noncomputable def E:fG:=⟨bE,[(45,eB.fs),(20,fY.fs),(46,oA.fs),(47,jG.fs)],[]⟩
noncomputable def H:List LC:=[]
theorem cZ:aR Tryz.prog E:=aB eB.aMD (aB fY.aMD (aB oA.aMD (aB jG.aMD (aJ jB))))
theorem loops:∀c,Tryz.f12.body=some c->aI E H c:=aO (by kernel_rfl)
theorem aME:aZ Tryz.prog 12 fs:=aH cZ mixed Tryz.func12 H loops fun⟨x0,x1,x2,()⟩ hw hp=>(show bB E H Tryz.f12 fs.ps fs.rs (x0,(x1,(x2,())))=aQ x0 x1 x2 from by kernel_rfl).trans (eq x0 x1 x2 hw hp)
theorem aMD:cW Tryz.prog 12 fs:=⟨aME,_,Tryz.func12,by kernel_rfl,by kernel_rfl⟩
end kY
namespace fJ
noncomputable def fs:FS:=⟨[(.val kA .f),(.val (.sl 46 jR) .f)],[(bX,.o),((.sl 48 dU),.o)],fun x=>fJ.pre x.1 x.2.1,fun x=>((),((fJ x.1 x.2.1).1,((fJ x.1 x.2.1).2,())))⟩
noncomputable def E:fG:=⟨bE,[(15,iC.fs),(12,kY.fs)],[]⟩
noncomputable def uL:gJ:=⟨(uu::uu::(.one (.bptr 0 [] kA))::uu::(.one (.bptr 32 [] bX))::uu::(.one (.bptr 8256 [] bX))::(.one (.arr 20000010))::un 6 ((.one (.dat (.sl 46 jR)))::ui::ui::un 18 [])),[(0,(.box kA (.dat kA))),(32,(.box bX (.pair (.arr 20000000) (.pair (.arr 20000001) (.pair (.arr 20000002) (.pair (.dat (.int .i64)) (.pair (.arr 20000003) (.pair (.arr 20000004) (.dat .unit))))))))),(20000000,(.arr 42 bJ)),(20000001,(.arr 80 cJ)),(20000002,(.arr 83 bY)),(20000003,(.arr 3 (.int .i64))),(20000004,(.arr 48 dU)),(8256,(.box bX (.pair (.arr 20000005) (.pair (.arr 20000006) (.pair (.arr 20000007) (.pair (.dat (.int .i64)) (.pair (.arr 20000008) (.pair (.arr 20000009) (.dat .unit))))))))),(20000005,(.arr 42 bJ)),(20000006,(.arr 80 cJ)),(20000007,(.arr 83 bY)),(20000008,(.arr 3 (.int .i64))),(20000009,(.arr 48 dU)),(20000010,(.arr 48 dU))]⟩
noncomputable def jD:List hJ:=[⟨(.exit 0),⟨0,[4,6,7],[(7,(48,dU))],[]⟩,⟨(un 4 ((.one (.bptr 32 [] bX))::uu::(.one (.bptr 8256 [] bX))::(.one (.arr 20000010))::un 27 [])),[(32,(.box bX (.pair (.arr 20000000) (.pair (.arr 20000001) (.pair (.arr 20000002) (.pair (.dat (.int .i64)) (.pair (.arr 20000003) (.pair (.arr 20000004) (.dat .unit))))))))),(20000000,(.arr 42 bJ)),(20000001,(.arr 80 cJ)),(20000002,(.arr 83 bY)),(20000003,(.arr 3 (.int .i64))),(20000004,(.arr 48 dU)),(8256,(.box bX (.pair (.arr 20000005) (.pair (.arr 20000006) (.pair (.arr 20000007) (.pair (.dat (.int .i64)) (.pair (.arr 20000008) (.pair (.arr 20000009) (.dat .unit))))))))),(20000005,(.arr 42 bJ)),(20000006,(.arr 80 cJ)),(20000007,(.arr 83 bY)),(20000008,(.arr 3 (.int .i64))),(20000009,(.arr 48 dU)),(20000010,(.arr 48 dU))]⟩⟩]
noncomputable def L4:LC:=⟨4,⟨4,[2,4,6,7,14,15,16],[(7,(48,dU))],[]⟩,uL,jD,pre4,fn4⟩
noncomputable def H:List LC:=[L4]
noncomputable def code(i:Nat):Code:=(bI (cU Tryz.f8)).getD i .skip
theorem mT:cP E H (code 0) L4:=⟨lN,fun⟨x1,x2,x3,x4,x5,x6,x7,x8,x9,x10,x11,x12,x13,x14,x15,x16,x17,x18,x19,()⟩ hp=>aV (show L4.step E H (code 0) (x1,(x2,(x3,(x4,(x5,(x6,(x7,(x8,(x9,(x10,(x11,(x12,(x13,(x14,(x15,(x16,(x17,(x18,(x19,())))))))))))))))))))=eA x1 x2 x3 x4 x5 x6 x7 x8 x9 x10 x11 x12 x13 x14 x15 x16 x17 x18 x19 from by kernel_rfl) (uM x1 x2 x3 x4 x5 x6 x7 x8 x9 x10 x11 x12 x13 x14 x15 x16 x17 x18 x19 hp)⟩
theorem cZ:aR Tryz.prog E:=aB iC.aMD (aB kY.aMD (aJ jB))
theorem loops:∀c,Tryz.f8.body=some c->aI E H c:=bH (by kernel_rfl) (by kernel_rfl) fun i l h=>match i,h with
  |0,h=>Option.some.inj h▸mT
  |n+1,h=>by cases h
theorem aME:aZ Tryz.prog 8 fs:=aH cZ mixed Tryz.func8 H loops fun⟨x0,x1,()⟩ hw hp=>(show bB E H Tryz.f8 fs.ps fs.rs (x0,(x1,()))=aQ x0 x1 from by kernel_rfl).trans (eq x0 x1 hw hp)
theorem aMD:cW Tryz.prog 8 fs:=⟨aME,_,Tryz.func8,by kernel_rfl,by kernel_rfl⟩
end fJ
namespace kX
noncomputable def fs:FS:=⟨[(.val fH .f),(.val fH .f)],[(.bool,.o)],fun _=>true,fun x=>((),((kX x.1 x.2.1),()))⟩
noncomputable def E:fG:=⟨bE,[],[]⟩
noncomputable def H:List LC:=[]
theorem cZ:aR Tryz.prog E:=aJ jB
theorem loops:∀c,Tryz.f143.body=some c->aI E H c:=aO (by kernel_rfl)
theorem aME:aZ Tryz.prog 143 fs:=aH cZ mixed Tryz.func143 H loops fun⟨x0,x1,()⟩ hw _=>(show bB E H Tryz.f143 fs.ps fs.rs (x0,(x1,()))=aQ x0 x1 from by kernel_rfl).trans (eq x0 x1 hw)
theorem aMD:cW Tryz.prog 143 fs:=⟨aME,_,Tryz.func143,by kernel_rfl,by kernel_rfl⟩
end kX
namespace iF
noncomputable def fs:FS:=⟨[(.val (.sl 44 fH) .f),(.val (.sl 44 fH) .f)],[(.bool,.o)],fun _=>true,fun x=>((),((iF x.1 x.2.1),()))⟩
noncomputable def E:fG:=⟨bE,[(143,kX.fs)],[]⟩
noncomputable def uL:gJ:=⟨((.one (.dat (.sl 44 fH)))::(.one (.dat (.sl 44 fH)))::uu::uu::uu::ui::un 21 []),[]⟩
noncomputable def jD:List hJ:=[⟨.ret,⟨0,[4],[],[]⟩,⟨(un 4 ((.one (.dat .bool))::un 22 [])),[]⟩⟩,⟨(.exit 0),⟨0,[],[],[]⟩,⟨(un 27 []),[]⟩⟩]
noncomputable def L4:LC:=⟨4,⟨4,[0,1,5],[],[]⟩,uL,jD,pre4,fn4⟩
noncomputable def H:List LC:=[L4]
noncomputable def code(i:Nat):Code:=(bI (cU Tryz.f119)).getD i .skip
theorem mT:cP E H (code 0) L4:=⟨lN,fun⟨x1,x2,x3,()⟩ hp=>aV (show L4.step E H (code 0) (x1,(x2,(x3,())))=eA x1 x2 x3 from by kernel_rfl) (uM x1 x2 x3 hp)⟩
theorem cZ:aR Tryz.prog E:=aB kX.aMD (aJ jB)
theorem loops:∀c,Tryz.f119.body=some c->aI E H c:=bH (by kernel_rfl) (by kernel_rfl) fun i l h=>match i,h with
  |0,h=>Option.some.inj h▸mT
  |n+1,h=>by cases h
theorem aME:aZ Tryz.prog 119 fs:=aH cZ mixed Tryz.func119 H loops fun⟨x0,x1,()⟩ hw _=>(show bB E H Tryz.f119 fs.ps fs.rs (x0,(x1,()))=aQ x0 x1 from by kernel_rfl).trans (eq x0 x1 hw)
theorem aMD:cW Tryz.prog 119 fs:=⟨aME,_,Tryz.func119,by kernel_rfl,by kernel_rfl⟩
end iF
namespace lV
noncomputable def fs:FS:=⟨[(.val bJ .f),(.val bJ .f)],[(.bool,.o)],fun _=>true,fun x=>((),((lV x.1 x.2.1),()))⟩
noncomputable def E:fG:=⟨bE,[(119,iF.fs)],[]⟩
noncomputable def H:List LC:=[]
theorem cZ:aR Tryz.prog E:=aB iF.aMD (aJ jB)
theorem loops:∀c,Tryz.f99.body=some c->aI E H c:=aO (by kernel_rfl)
theorem aME:aZ Tryz.prog 99 fs:=aH cZ mixed Tryz.func99 H loops fun⟨x0,x1,()⟩ hw _=>(show bB E H Tryz.f99 fs.ps fs.rs (x0,(x1,()))=aQ x0 x1 from by kernel_rfl).trans (eq x0 x1 hw)
theorem aMD:cW Tryz.prog 99 fs:=⟨aME,_,Tryz.func99,by kernel_rfl,by kernel_rfl⟩
end lV
namespace jF
noncomputable def fs:FS:=⟨[(.val (.sl 42 bJ) .f),(.val (.sl 42 bJ) .f)],[(.bool,.o)],fun _=>true,fun x=>((),((jF x.1 x.2.1),()))⟩
noncomputable def E:fG:=⟨bE,[(99,lV.fs)],[]⟩
noncomputable def uL:gJ:=⟨((.one (.dat (.sl 42 bJ)))::(.one (.dat (.sl 42 bJ)))::uu::uu::uu::ui::un 21 []),[]⟩
noncomputable def jD:List hJ:=[⟨.ret,⟨0,[4],[],[]⟩,⟨(un 4 ((.one (.dat .bool))::un 22 [])),[]⟩⟩,⟨(.exit 0),⟨0,[],[],[]⟩,⟨(un 27 []),[]⟩⟩]
noncomputable def L4:LC:=⟨4,⟨4,[0,1,5],[],[]⟩,uL,jD,pre4,fn4⟩
noncomputable def H:List LC:=[L4]
noncomputable def code(i:Nat):Code:=(bI (cU Tryz.f68)).getD i .skip
theorem mT:cP E H (code 0) L4:=⟨lN,fun⟨x1,x2,x3,()⟩ hp=>aV (show L4.step E H (code 0) (x1,(x2,(x3,())))=eA x1 x2 x3 from by kernel_rfl) (uM x1 x2 x3 hp)⟩
theorem cZ:aR Tryz.prog E:=aB lV.aMD (aJ jB)
theorem loops:∀c,Tryz.f68.body=some c->aI E H c:=bH (by kernel_rfl) (by kernel_rfl) fun i l h=>match i,h with
  |0,h=>Option.some.inj h▸mT
  |n+1,h=>by cases h
theorem aME:aZ Tryz.prog 68 fs:=aH cZ mixed Tryz.func68 H loops fun⟨x0,x1,()⟩ hw _=>(show bB E H Tryz.f68 fs.ps fs.rs (x0,(x1,()))=aQ x0 x1 from by kernel_rfl).trans (eq x0 x1 hw)
theorem aMD:cW Tryz.prog 68 fs:=⟨aME,_,Tryz.func68,by kernel_rfl,by kernel_rfl⟩
end jF
namespace kU
noncomputable def fs:FS:=⟨[(.val (.pair (.int .i64) (.pair (.int .i64) .unit)) .f),(.val (.pair (.int .i64) (.pair (.int .i64) .unit)) .f)],[(.bool,.o)],fun _=>true,fun x=>((),((kU x.1 x.2.1),()))⟩
noncomputable def E:fG:=⟨bE,[],[]⟩
noncomputable def H:List LC:=[]
theorem cZ:aR Tryz.prog E:=aJ jB
theorem loops:∀c,Tryz.f144.body=some c->aI E H c:=aO (by kernel_rfl)
theorem aME:aZ Tryz.prog 144 fs:=aH cZ mixed Tryz.func144 H loops fun⟨x0,x1,()⟩ hw _=>(show bB E H Tryz.f144 fs.ps fs.rs (x0,(x1,()))=aQ x0 x1 from by kernel_rfl).trans (eq x0 x1 hw)
theorem aMD:cW Tryz.prog 144 fs:=⟨aME,_,Tryz.func144,by kernel_rfl,by kernel_rfl⟩
end kU
namespace iB
noncomputable def fs:FS:=⟨[(.val (.sl 118 (.pair (.int .i64) (.pair (.int .i64) .unit))) .f),(.val (.sl 118 (.pair (.int .i64) (.pair (.int .i64) .unit))) .f)],[(.bool,.o)],fun _=>true,fun x=>((),((iB x.1 x.2.1),()))⟩
noncomputable def E:fG:=⟨bE,[(144,kU.fs)],[]⟩
noncomputable def uL:gJ:=⟨((.one (.dat (.sl 118 (.pair (.int .i64) (.pair (.int .i64) .unit)))))::(.one (.dat (.sl 118 (.pair (.int .i64) (.pair (.int .i64) .unit)))))::uu::uu::uu::ui::un 21 []),[]⟩
noncomputable def jD:List hJ:=[⟨.ret,⟨0,[4],[],[]⟩,⟨(un 4 ((.one (.dat .bool))::un 22 [])),[]⟩⟩,⟨(.exit 0),⟨0,[],[],[]⟩,⟨(un 27 []),[]⟩⟩]
noncomputable def L4:LC:=⟨4,⟨4,[0,1,5],[],[]⟩,uL,jD,pre4,fn4⟩
noncomputable def H:List LC:=[L4]
noncomputable def code(i:Nat):Code:=(bI (cU Tryz.f120)).getD i .skip
theorem mT:cP E H (code 0) L4:=⟨lN,fun⟨x1,x2,x3,()⟩ hp=>aV (show L4.step E H (code 0) (x1,(x2,(x3,())))=eA x1 x2 x3 from by kernel_rfl) (uM x1 x2 x3 hp)⟩
theorem cZ:aR Tryz.prog E:=aB kU.aMD (aJ jB)
theorem loops:∀c,Tryz.f120.body=some c->aI E H c:=bH (by kernel_rfl) (by kernel_rfl) fun i l h=>match i,h with
  |0,h=>Option.some.inj h▸mT
  |n+1,h=>by cases h
theorem aME:aZ Tryz.prog 120 fs:=aH cZ mixed Tryz.func120 H loops fun⟨x0,x1,()⟩ hw _=>(show bB E H Tryz.f120 fs.ps fs.rs (x0,(x1,()))=aQ x0 x1 from by kernel_rfl).trans (eq x0 x1 hw)
theorem aMD:cW Tryz.prog 120 fs:=⟨aME,_,Tryz.func120,by kernel_rfl,by kernel_rfl⟩
end iB
namespace jQ
noncomputable def fs:FS:=⟨[(.val cJ .f),(.val cJ .f)],[(.bool,.o)],fun _=>true,fun x=>((),((jQ x.1 x.2.1),()))⟩
noncomputable def E:fG:=⟨bE,[(120,iB.fs)],[]⟩
noncomputable def H:List LC:=[]
theorem cZ:aR Tryz.prog E:=aB iB.aMD (aJ jB)
theorem loops:∀c,Tryz.f100.body=some c->aI E H c:=aO (by kernel_rfl)
theorem aME:aZ Tryz.prog 100 fs:=aH cZ mixed Tryz.func100 H loops fun⟨x0,x1,()⟩ hw _=>(show bB E H Tryz.f100 fs.ps fs.rs (x0,(x1,()))=aQ x0 x1 from by kernel_rfl).trans (eq x0 x1 hw)
theorem aMD:cW Tryz.prog 100 fs:=⟨aME,_,Tryz.func100,by kernel_rfl,by kernel_rfl⟩
end jQ
namespace gF
noncomputable def fs:FS:=⟨[(.val (.sl 80 cJ) .f),(.val (.sl 80 cJ) .f)],[(.bool,.o)],fun _=>true,fun x=>((),((gF x.1 x.2.1),()))⟩
noncomputable def E:fG:=⟨bE,[(100,jQ.fs)],[]⟩
noncomputable def uL:gJ:=⟨((.one (.dat (.sl 80 cJ)))::(.one (.dat (.sl 80 cJ)))::uu::uu::uu::ui::un 21 []),[]⟩
noncomputable def jD:List hJ:=[⟨.ret,⟨0,[4],[],[]⟩,⟨(un 4 ((.one (.dat .bool))::un 22 [])),[]⟩⟩,⟨(.exit 0),⟨0,[],[],[]⟩,⟨(un 27 []),[]⟩⟩]
noncomputable def L4:LC:=⟨4,⟨4,[0,1,5],[],[]⟩,uL,jD,pre4,fn4⟩
noncomputable def H:List LC:=[L4]
noncomputable def code(i:Nat):Code:=(bI (cU Tryz.f69)).getD i .skip
theorem mT:cP E H (code 0) L4:=⟨lN,fun⟨x1,x2,x3,()⟩ hp=>aV (show L4.step E H (code 0) (x1,(x2,(x3,())))=eA x1 x2 x3 from by kernel_rfl) (uM x1 x2 x3 hp)⟩
theorem cZ:aR Tryz.prog E:=aB jQ.aMD (aJ jB)
theorem loops:∀c,Tryz.f69.body=some c->aI E H c:=bH (by kernel_rfl) (by kernel_rfl) fun i l h=>match i,h with
  |0,h=>Option.some.inj h▸mT
  |n+1,h=>by cases h
theorem aME:aZ Tryz.prog 69 fs:=aH cZ mixed Tryz.func69 H loops fun⟨x0,x1,()⟩ hw _=>(show bB E H Tryz.f69 fs.ps fs.rs (x0,(x1,()))=aQ x0 x1 from by kernel_rfl).trans (eq x0 x1 hw)
theorem aMD:cW Tryz.prog 69 fs:=⟨aME,_,Tryz.func69,by kernel_rfl,by kernel_rfl⟩
end gF
namespace dV
noncomputable def fs:FS:=⟨[(.val (.sl 3 (.int .i64)) .f),(.val (.sl 3 (.int .i64)) .f)],[(.bool,.o)],fun _=>true,fun x=>((),((dV x.1 x.2.1),()))⟩
noncomputable def E:fG:=⟨bE,[],[]⟩
noncomputable def uL:gJ:=⟨((.one (.dat (.sl 3 (.int .i64))))::(.one (.dat (.sl 3 (.int .i64))))::uu::uu::uu::ui::un 20 []),[]⟩
noncomputable def jD:List hJ:=[⟨.ret,⟨0,[4],[],[]⟩,⟨(un 4 ((.one (.dat .bool))::un 21 [])),[]⟩⟩,⟨(.exit 0),⟨0,[],[],[]⟩,⟨(un 26 []),[]⟩⟩]
noncomputable def L4:LC:=⟨4,⟨4,[0,1,5],[],[]⟩,uL,jD,pre4,fn4⟩
noncomputable def H:List LC:=[L4]
noncomputable def code(i:Nat):Code:=(bI (cU Tryz.f71)).getD i .skip
theorem mT:cP E H (code 0) L4:=⟨lN,fun⟨x1,x2,x3,()⟩ hp=>aV (show L4.step E H (code 0) (x1,(x2,(x3,())))=eA x1 x2 x3 from by kernel_rfl) (uM x1 x2 x3 hp)⟩
theorem cZ:aR Tryz.prog E:=aJ jB
theorem loops:∀c,Tryz.f71.body=some c->aI E H c:=bH (by kernel_rfl) (by kernel_rfl) fun i l h=>match i,h with
  |0,h=>Option.some.inj h▸mT
  |n+1,h=>by cases h
theorem aME:aZ Tryz.prog 71 fs:=aH cZ mixed Tryz.func71 H loops fun⟨x0,x1,()⟩ hw _=>(show bB E H Tryz.f71 fs.ps fs.rs (x0,(x1,()))=aQ x0 x1 from by kernel_rfl).trans (eq x0 x1 hw)
theorem aMD:cW Tryz.prog 71 fs:=⟨aME,_,Tryz.func71,by kernel_rfl,by kernel_rfl⟩
end dV
namespace jN
noncomputable def fs:FS:=⟨[(.val bY .f),(.val bY .f)],[(.bool,.o)],fun _=>true,fun x=>((),((jN x.1 x.2.1),()))⟩
noncomputable def E:fG:=⟨bE,[(71,dV.fs)],[]⟩
noncomputable def H:List LC:=[]
theorem cZ:aR Tryz.prog E:=aB dV.aMD (aJ jB)
theorem loops:∀c,Tryz.f101.body=some c->aI E H c:=aO (by kernel_rfl)
theorem aME:aZ Tryz.prog 101 fs:=aH cZ mixed Tryz.func101 H loops fun⟨x0,x1,()⟩ hw _=>(show bB E H Tryz.f101 fs.ps fs.rs (x0,(x1,()))=aQ x0 x1 from by kernel_rfl).trans (eq x0 x1 hw)
theorem aMD:cW Tryz.prog 101 fs:=⟨aME,_,Tryz.func101,by kernel_rfl,by kernel_rfl⟩
end jN
namespace gH
noncomputable def fs:FS:=⟨[(.val (.sl 83 bY) .f),(.val (.sl 83 bY) .f)],[(.bool,.o)],fun _=>true,fun x=>((),((gH x.1 x.2.1),()))⟩
noncomputable def E:fG:=⟨bE,[(101,jN.fs)],[]⟩
noncomputable def uL:gJ:=⟨((.one (.dat (.sl 83 bY)))::(.one (.dat (.sl 83 bY)))::uu::uu::uu::ui::un 21 []),[]⟩
noncomputable def jD:List hJ:=[⟨.ret,⟨0,[4],[],[]⟩,⟨(un 4 ((.one (.dat .bool))::un 22 [])),[]⟩⟩,⟨(.exit 0),⟨0,[],[],[]⟩,⟨(un 27 []),[]⟩⟩]
noncomputable def L4:LC:=⟨4,⟨4,[0,1,5],[],[]⟩,uL,jD,pre4,fn4⟩
noncomputable def H:List LC:=[L4]
noncomputable def code(i:Nat):Code:=(bI (cU Tryz.f70)).getD i .skip
theorem mT:cP E H (code 0) L4:=⟨lN,fun⟨x1,x2,x3,()⟩ hp=>aV (show L4.step E H (code 0) (x1,(x2,(x3,())))=eA x1 x2 x3 from by kernel_rfl) (uM x1 x2 x3 hp)⟩
theorem cZ:aR Tryz.prog E:=aB jN.aMD (aJ jB)
theorem loops:∀c,Tryz.f70.body=some c->aI E H c:=bH (by kernel_rfl) (by kernel_rfl) fun i l h=>match i,h with
  |0,h=>Option.some.inj h▸mT
  |n+1,h=>by cases h
theorem aME:aZ Tryz.prog 70 fs:=aH cZ mixed Tryz.func70 H loops fun⟨x0,x1,()⟩ hw _=>(show bB E H Tryz.f70 fs.ps fs.rs (x0,(x1,()))=aQ x0 x1 from by kernel_rfl).trans (eq x0 x1 hw)
theorem aMD:cW Tryz.prog 70 fs:=⟨aME,_,Tryz.func70,by kernel_rfl,by kernel_rfl⟩
end gH
namespace iV
noncomputable def fs:FS:=⟨[(.val dU .f),(.val dU .f)],[(.bool,.o)],fun _=>true,fun x=>((),((iV x.1 x.2.1),()))⟩
noncomputable def E:fG:=⟨bE,[],[]⟩
noncomputable def H:List LC:=[]
theorem cZ:aR Tryz.prog E:=aJ jB
theorem loops:∀c,Tryz.f72.body=some c->aI E H c:=aO (by kernel_rfl)
theorem aME:aZ Tryz.prog 72 fs:=aH cZ mixed Tryz.func72 H loops fun⟨x0,x1,()⟩ hw _=>(show bB E H Tryz.f72 fs.ps fs.rs (x0,(x1,()))=aQ x0 x1 from by kernel_rfl).trans (eq x0 x1 hw)
theorem aMD:cW Tryz.prog 72 fs:=⟨aME,_,Tryz.func72,by kernel_rfl,by kernel_rfl⟩
end iV
namespace dK
noncomputable def fs:FS:=⟨[(.val (.sl 48 dU) .f),(.val (.sl 48 dU) .f)],[(.bool,.o)],fun _=>true,fun x=>((),((dK x.1 x.2.1),()))⟩
noncomputable def E:fG:=⟨bE,[(72,iV.fs)],[]⟩
noncomputable def uL:gJ:=⟨((.one (.dat (.sl 48 dU)))::(.one (.dat (.sl 48 dU)))::uu::uu::uu::ui::un 21 []),[]⟩
noncomputable def jD:List hJ:=[⟨.ret,⟨0,[4],[],[]⟩,⟨(un 4 ((.one (.dat .bool))::un 22 [])),[]⟩⟩,⟨(.exit 0),⟨0,[],[],[]⟩,⟨(un 27 []),[]⟩⟩]
noncomputable def L4:LC:=⟨4,⟨4,[0,1,5],[],[]⟩,uL,jD,pre4,fn4⟩
noncomputable def H:List LC:=[L4]
noncomputable def code(i:Nat):Code:=(bI (cU Tryz.f25)).getD i .skip
theorem mT:cP E H (code 0) L4:=⟨lN,fun⟨x1,x2,x3,()⟩ hp=>aV (show L4.step E H (code 0) (x1,(x2,(x3,())))=eA x1 x2 x3 from by kernel_rfl) (uM x1 x2 x3 hp)⟩
theorem cZ:aR Tryz.prog E:=aB iV.aMD (aJ jB)
theorem loops:∀c,Tryz.f25.body=some c->aI E H c:=bH (by kernel_rfl) (by kernel_rfl) fun i l h=>match i,h with
  |0,h=>Option.some.inj h▸mT
  |n+1,h=>by cases h
theorem aME:aZ Tryz.prog 25 fs:=aH cZ mixed Tryz.func25 H loops fun⟨x0,x1,()⟩ hw _=>(show bB E H Tryz.f25 fs.ps fs.rs (x0,(x1,()))=aQ x0 x1 from by kernel_rfl).trans (eq x0 x1 hw)
theorem aMD:cW Tryz.prog 25 fs:=⟨aME,_,Tryz.func25,by kernel_rfl,by kernel_rfl⟩
end dK
namespace jZ
noncomputable def fs:FS:=⟨[(.val bX .f),(.val bX .f)],[(.bool,.o)],fun _=>true,fun x=>((),((jZ x.1 x.2.1),()))⟩
noncomputable def E:fG:=⟨bE,[(68,jF.fs),(69,gF.fs),(71,dV.fs),(70,gH.fs),(25,dK.fs)],[]⟩
noncomputable def H:List LC:=[]
theorem cZ:aR Tryz.prog E:=aB jF.aMD (aB gF.aMD (aB dV.aMD (aB gH.aMD (aB dK.aMD (aJ jB)))))
theorem loops:∀c,Tryz.f24.body=some c->aI E H c:=aO (by kernel_rfl)
theorem aME:aZ Tryz.prog 24 fs:=aH cZ mixed Tryz.func24 H loops fun⟨x0,x1,()⟩ hw _=>(show bB E H Tryz.f24 fs.ps fs.rs (x0,(x1,()))=aQ x0 x1 from by kernel_rfl).trans (eq x0 x1 hw)
theorem aMD:cW Tryz.prog 24 fs:=⟨aME,_,Tryz.func24,by kernel_rfl,by kernel_rfl⟩
end jZ
namespace lX
noncomputable def fs:FS:=⟨[(.val jR .f),(.val jR .f)],[(.bool,.o)],fun _=>true,fun x=>((),((lX x.1 x.2.1),()))⟩
noncomputable def E:fG:=⟨bE,[],[]⟩
noncomputable def H:List LC:=[]
theorem cZ:aR Tryz.prog E:=aJ jB
theorem loops:∀c,Tryz.f73.body=some c->aI E H c:=aO (by kernel_rfl)
theorem aME:aZ Tryz.prog 73 fs:=aH cZ mixed Tryz.func73 H loops fun⟨x0,x1,()⟩ hw _=>(show bB E H Tryz.f73 fs.ps fs.rs (x0,(x1,()))=aQ x0 x1 from by kernel_rfl).trans (eq x0 x1 hw)
theorem aMD:cW Tryz.prog 73 fs:=⟨aME,_,Tryz.func73,by kernel_rfl,by kernel_rfl⟩
end lX
namespace jH
noncomputable def fs:FS:=⟨[(.val (.sl 46 jR) .f),(.val (.sl 46 jR) .f)],[(.bool,.o)],fun _=>true,fun x=>((),((jH x.1 x.2.1),()))⟩
noncomputable def E:fG:=⟨bE,[(73,lX.fs)],[]⟩
noncomputable def uL:gJ:=⟨((.one (.dat (.sl 46 jR)))::(.one (.dat (.sl 46 jR)))::uu::uu::uu::ui::un 21 []),[]⟩
noncomputable def jD:List hJ:=[⟨.ret,⟨0,[4],[],[]⟩,⟨(un 4 ((.one (.dat .bool))::un 22 [])),[]⟩⟩,⟨(.exit 0),⟨0,[],[],[]⟩,⟨(un 27 []),[]⟩⟩]
noncomputable def L4:LC:=⟨4,⟨4,[0,1,5],[],[]⟩,uL,jD,pre4,fn4⟩
noncomputable def H:List LC:=[L4]
noncomputable def code(i:Nat):Code:=(bI (cU Tryz.f26)).getD i .skip
theorem mT:cP E H (code 0) L4:=⟨lN,fun⟨x1,x2,x3,()⟩ hp=>aV (show L4.step E H (code 0) (x1,(x2,(x3,())))=eA x1 x2 x3 from by kernel_rfl) (uM x1 x2 x3 hp)⟩
theorem cZ:aR Tryz.prog E:=aB lX.aMD (aJ jB)
theorem loops:∀c,Tryz.f26.body=some c->aI E H c:=bH (by kernel_rfl) (by kernel_rfl) fun i l h=>match i,h with
  |0,h=>Option.some.inj h▸mT
  |n+1,h=>by cases h
theorem aME:aZ Tryz.prog 26 fs:=aH cZ mixed Tryz.func26 H loops fun⟨x0,x1,()⟩ hw _=>(show bB E H Tryz.f26 fs.ps fs.rs (x0,(x1,()))=aQ x0 x1 from by kernel_rfl).trans (eq x0 x1 hw)
theorem aMD:cW Tryz.prog 26 fs:=⟨aME,_,Tryz.func26,by kernel_rfl,by kernel_rfl⟩
end jH
namespace aG
noncomputable def fs:FS:=⟨[(.val (.int .i64) .f)],[(.str,.o)],fun x=>aG.pre x.1,fun x=>((),((aG x.1),()))⟩
noncomputable def E:fG:=⟨bE,[],[]⟩
noncomputable def uL:gJ:=⟨(ui::uu::uu::(.one (.dat .str))::un 16 []),[]⟩
noncomputable def jD:List hJ:=[⟨(.exit 0),⟨0,[3],[],[]⟩,⟨(uu::uu::uu::(.one (.dat .str))::un 16 []),[]⟩⟩]
noncomputable def L4:LC:=⟨4,⟨4,[0,3],[],[]⟩,uL,jD,pre4,fn4⟩
noncomputable def H:List LC:=[L4]
noncomputable def code(i:Nat):Code:=(bI (cU Tryz.f74)).getD i .skip
theorem mT:cP E H (code 0) L4:=⟨lN,fun⟨x1,x2,()⟩ hp=>aV (show L4.step E H (code 0) (x1,(x2,()))=eA x1 x2 from by kernel_rfl) (uM x1 x2 hp)⟩
theorem cZ:aR Tryz.prog E:=aJ jB
theorem loops:∀c,Tryz.f74.body=some c->aI E H c:=bH (by kernel_rfl) (by kernel_rfl) fun i l h=>match i,h with
  |0,h=>Option.some.inj h▸mT
  |n+1,h=>by cases h
theorem aME:aZ Tryz.prog 74 fs:=aH cZ mixed Tryz.func74 H loops fun⟨x0,()⟩ hw hp=>(show bB E H Tryz.f74 fs.ps fs.rs (x0,())=aQ x0 from by kernel_rfl).trans (eq x0 hw hp)
theorem aMD:cW Tryz.prog 74 fs:=⟨aME,_,Tryz.func74,by kernel_rfl,by kernel_rfl⟩
end aG
namespace fK
noncomputable def nJ:List (Nat×vN):=[(40000001,(.arr 46 jR))]
noncomputable def fs:FS:=⟨[(.mut (.sl 46 jR)),(.val (.int .i64) .f)],[((.int .i64),.o)],fun x=>fK.pre x.1 x.2.1,fun x=>(((fK x.1 x.2.1).1,()),((fK x.1 x.2.1).2,()))⟩
noncomputable def E:fG:=⟨bE,[(74,aG.fs)],[]⟩
noncomputable def rP:gJ:=⟨((.one (.arr 40000001))::ui::uu::uu::uu::ui::un 65 []),nJ⟩
noncomputable def fW:List hJ:=[⟨(.exit 0),⟨0,[1,0],[],[]⟩,⟨((.one (.arr 40000001))::ui::un 69 []),nJ⟩⟩]
noncomputable def L2:LC:=⟨2,⟨2,[0,1,5],[],[]⟩,rP,fW,pre2,fn2⟩
noncomputable def H:List LC:=[L2]
noncomputable def code(i:Nat):Code:=(bI (cU Tryz.f27)).getD i .skip
theorem lC:cP E H (code 0) L2:=⟨mA,fun⟨x1,x2,x3,()⟩ hp=>aV (show L2.step E H (code 0) (x1,(x2,(x3,())))=dT x1 x2 x3 from by kernel_rfl) (rR x1 x2 x3 hp)⟩
theorem cZ:aR Tryz.prog E:=aB aG.aMD (aJ jB)
theorem loops:∀c,Tryz.f27.body=some c->aI E H c:=bH (by kernel_rfl) (by kernel_rfl) fun i l h=>match i,h with
  |0,h=>Option.some.inj h▸lC
  |n+1,h=>by cases h
theorem aME:aZ Tryz.prog 27 fs:=aH cZ mixed Tryz.func27 H loops fun⟨x0,x1,()⟩ hw hp=>(show bB E H Tryz.f27 fs.ps fs.rs (x0,(x1,()))=aQ x0 x1 from by kernel_rfl).trans (eq x0 x1 hw hp)
theorem aMD:cW Tryz.prog 27 fs:=⟨aME,_,Tryz.func27,by kernel_rfl,by kernel_rfl⟩
end fK
namespace dY
noncomputable def nJ:List (Nat×vN):=[(40000001,(.arr 44 fH))]
noncomputable def fs:FS:=⟨[(.mut (.sl 44 fH)),(.val (.int .i64) .f)],[((.int .i64),.o)],fun x=>dY.pre x.1 x.2.1,fun x=>(((dY x.1 x.2.1).1,()),((dY x.1 x.2.1).2,()))⟩
noncomputable def E:fG:=⟨bE,[(74,aG.fs)],[]⟩
noncomputable def rP:gJ:=⟨((.one (.arr 40000001))::ui::uu::uu::uu::ui::un 44 []),nJ⟩
noncomputable def fW:List hJ:=[⟨(.exit 0),⟨0,[1,0],[],[]⟩,⟨((.one (.arr 40000001))::ui::un 48 []),nJ⟩⟩]
noncomputable def L2:LC:=⟨2,⟨2,[0,1,5],[],[]⟩,rP,fW,pre2,fn2⟩
noncomputable def H:List LC:=[L2]
noncomputable def code(i:Nat):Code:=(bI (cU Tryz.f102)).getD i .skip
theorem lC:cP E H (code 0) L2:=⟨mA,fun⟨x1,x2,x3,()⟩ hp=>aV (show L2.step E H (code 0) (x1,(x2,(x3,())))=dT x1 x2 x3 from by kernel_rfl) (rR x1 x2 x3 hp)⟩
theorem cZ:aR Tryz.prog E:=aB aG.aMD (aJ jB)
theorem loops:∀c,Tryz.f102.body=some c->aI E H c:=bH (by kernel_rfl) (by kernel_rfl) fun i l h=>match i,h with
  |0,h=>Option.some.inj h▸lC
  |n+1,h=>by cases h
theorem aME:aZ Tryz.prog 102 fs:=aH cZ mixed Tryz.func102 H loops fun⟨x0,x1,()⟩ hw hp=>(show bB E H Tryz.f102 fs.ps fs.rs (x0,(x1,()))=aQ x0 x1 from by kernel_rfl).trans (eq x0 x1 hw hp)
theorem aMD:cW Tryz.prog 102 fs:=⟨aME,_,Tryz.func102,by kernel_rfl,by kernel_rfl⟩
end dY
namespace eJ
noncomputable def nJ:List (Nat×vN):=[(40000001,(.arr 42 bJ))]
noncomputable def fs:FS:=⟨[(.mut (.sl 42 bJ)),(.val (.int .i64) .f)],[((.int .i64),.o)],fun x=>eJ.pre x.1 x.2.1,fun x=>(((eJ x.1 x.2.1).1,()),((eJ x.1 x.2.1).2,()))⟩
noncomputable def E:fG:=⟨bE,[(102,dY.fs)],[]⟩
noncomputable def rP:gJ:=⟨((.one (.arr 40000001))::ui::uu::uu::uu::ui::un 28 []),nJ⟩
noncomputable def fW:List hJ:=[⟨(.exit 0),⟨0,[1,0],[],[]⟩,⟨((.one (.arr 40000001))::ui::un 32 []),nJ⟩⟩]
noncomputable def L2:LC:=⟨2,⟨2,[0,1,5],[],[]⟩,rP,fW,pre2,fn2⟩
noncomputable def H:List LC:=[L2]
noncomputable def code(i:Nat):Code:=(bI (cU Tryz.f75)).getD i .skip
theorem lC:cP E H (code 0) L2:=⟨mA,fun⟨x1,x2,x3,()⟩ hp=>aV (show L2.step E H (code 0) (x1,(x2,(x3,())))=dT x1 x2 x3 from by kernel_rfl) (rR x1 x2 x3 hp)⟩
theorem cZ:aR Tryz.prog E:=aB dY.aMD (aJ jB)
theorem loops:∀c,Tryz.f75.body=some c->aI E H c:=bH (by kernel_rfl) (by kernel_rfl) fun i l h=>match i,h with
  |0,h=>Option.some.inj h▸lC
  |n+1,h=>by cases h
theorem aME:aZ Tryz.prog 75 fs:=aH cZ mixed Tryz.func75 H loops fun⟨x0,x1,()⟩ hw hp=>(show bB E H Tryz.f75 fs.ps fs.rs (x0,(x1,()))=aQ x0 x1 from by kernel_rfl).trans (eq x0 x1 hw hp)
theorem aMD:cW Tryz.prog 75 fs:=⟨aME,_,Tryz.func75,by kernel_rfl,by kernel_rfl⟩
end eJ
namespace dZ
noncomputable def nJ:List (Nat×vN):=[(40000001,(.arr 118 (.pair (.int .i64) (.pair (.int .i64) .unit))))]
noncomputable def fs:FS:=⟨[(.mut (.sl 118 (.pair (.int .i64) (.pair (.int .i64) .unit)))),(.val (.int .i64) .f)],[((.int .i64),.o)],fun x=>dZ.pre x.1 x.2.1,fun x=>(((dZ x.1 x.2.1).1,()),((dZ x.1 x.2.1).2,()))⟩
noncomputable def E:fG:=⟨bE,[],[]⟩
noncomputable def rP:gJ:=⟨((.one (.arr 40000001))::ui::uu::uu::uu::ui::un 21 []),nJ⟩
noncomputable def fW:List hJ:=[⟨(.exit 0),⟨0,[1,0],[],[]⟩,⟨((.one (.arr 40000001))::ui::un 25 []),nJ⟩⟩]
noncomputable def L2:LC:=⟨2,⟨2,[0,1,5],[],[]⟩,rP,fW,pre2,fn2⟩
noncomputable def H:List LC:=[L2]
noncomputable def code(i:Nat):Code:=(bI (cU Tryz.f103)).getD i .skip
theorem lC:cP E H (code 0) L2:=⟨mA,fun⟨x1,x2,x3,()⟩ hp=>aV (show L2.step E H (code 0) (x1,(x2,(x3,())))=dT x1 x2 x3 from by kernel_rfl) (rR x1 x2 x3 hp)⟩
theorem cZ:aR Tryz.prog E:=aJ jB
theorem loops:∀c,Tryz.f103.body=some c->aI E H c:=bH (by kernel_rfl) (by kernel_rfl) fun i l h=>match i,h with
  |0,h=>Option.some.inj h▸lC
  |n+1,h=>by cases h
theorem aME:aZ Tryz.prog 103 fs:=aH cZ mixed Tryz.func103 H loops fun⟨x0,x1,()⟩ hw hp=>(show bB E H Tryz.f103 fs.ps fs.rs (x0,(x1,()))=aQ x0 x1 from by kernel_rfl).trans (eq x0 x1 hw hp)
theorem aMD:cW Tryz.prog 103 fs:=⟨aME,_,Tryz.func103,by kernel_rfl,by kernel_rfl⟩
end dZ
namespace dO
noncomputable def nJ:List (Nat×vN):=[(40000001,(.arr 80 cJ))]
noncomputable def fs:FS:=⟨[(.mut (.sl 80 cJ)),(.val (.int .i64) .f)],[((.int .i64),.o)],fun x=>dO.pre x.1 x.2.1,fun x=>(((dO x.1 x.2.1).1,()),((dO x.1 x.2.1).2,()))⟩
noncomputable def E:fG:=⟨bE,[(103,dZ.fs)],[]⟩
noncomputable def rP:gJ:=⟨((.one (.arr 40000001))::ui::uu::uu::uu::ui::un 42 []),nJ⟩
noncomputable def fW:List hJ:=[⟨(.exit 0),⟨0,[1,0],[],[]⟩,⟨((.one (.arr 40000001))::ui::un 46 []),nJ⟩⟩]
noncomputable def L2:LC:=⟨2,⟨2,[0,1,5],[],[]⟩,rP,fW,pre2,fn2⟩
noncomputable def H:List LC:=[L2]
noncomputable def code(i:Nat):Code:=(bI (cU Tryz.f76)).getD i .skip
theorem lC:cP E H (code 0) L2:=⟨mA,fun⟨x1,x2,x3,()⟩ hp=>aV (show L2.step E H (code 0) (x1,(x2,(x3,())))=dT x1 x2 x3 from by kernel_rfl) (rR x1 x2 x3 hp)⟩
theorem cZ:aR Tryz.prog E:=aB dZ.aMD (aJ jB)
theorem loops:∀c,Tryz.f76.body=some c->aI E H c:=bH (by kernel_rfl) (by kernel_rfl) fun i l h=>match i,h with
  |0,h=>Option.some.inj h▸lC
  |n+1,h=>by cases h
theorem aME:aZ Tryz.prog 76 fs:=aH cZ mixed Tryz.func76 H loops fun⟨x0,x1,()⟩ hw hp=>(show bB E H Tryz.f76 fs.ps fs.rs (x0,(x1,()))=aQ x0 x1 from by kernel_rfl).trans (eq x0 x1 hw hp)
theorem aMD:cW Tryz.prog 76 fs:=⟨aME,_,Tryz.func76,by kernel_rfl,by kernel_rfl⟩
end dO
namespace bO
noncomputable def fs:FS:=⟨[(.mut (.sl 3 (.int .i64))),(.val (.int .i64) .f)],[((.int .i64),.o)],fun x=>bO.pre x.1 x.2.1,fun x=>(((bO x.1 x.2.1).1,()),((bO x.1 x.2.1).2,()))⟩
noncomputable def E:fG:=⟨bE,[],[]⟩
noncomputable def rP:gJ:=⟨((.one (.arr 40000001))::ui::uu::uu::uu::ui::un 13 []),[(40000001,(.arr 3 (.int .i64)))]⟩
noncomputable def fW:List hJ:=[⟨(.exit 0),⟨0,[1,0],[],[]⟩,⟨((.one (.arr 40000001))::ui::un 17 []),[(40000001,(.arr 3 (.int .i64)))]⟩⟩]
noncomputable def L2:LC:=⟨2,⟨2,[0,1,5],[],[]⟩,rP,fW,pre2,fn2⟩
noncomputable def H:List LC:=[L2]
noncomputable def code(i:Nat):Code:=(bI (cU Tryz.f78)).getD i .skip
theorem lC:cP E H (code 0) L2:=⟨mA,fun⟨x1,x2,x3,()⟩ hp=>aV (show L2.step E H (code 0) (x1,(x2,(x3,())))=dT x1 x2 x3 from by kernel_rfl) (rR x1 x2 x3 hp)⟩
theorem cZ:aR Tryz.prog E:=aJ jB
theorem loops:∀c,Tryz.f78.body=some c->aI E H c:=bH (by kernel_rfl) (by kernel_rfl) fun i l h=>match i,h with
  |0,h=>Option.some.inj h▸lC
  |n+1,h=>by cases h
theorem aME:aZ Tryz.prog 78 fs:=aH cZ mixed Tryz.func78 H loops fun⟨x0,x1,()⟩ hw hp=>(show bB E H Tryz.f78 fs.ps fs.rs (x0,(x1,()))=aQ x0 x1 from by kernel_rfl).trans (eq x0 x1 hw hp)
theorem aMD:cW Tryz.prog 78 fs:=⟨aME,_,Tryz.func78,by kernel_rfl,by kernel_rfl⟩
end bO
namespace dN
noncomputable def nJ:List (Nat×vN):=[(40000001,(.arr 83 bY))]
noncomputable def fs:FS:=⟨[(.mut (.sl 83 bY)),(.val (.int .i64) .f)],[((.int .i64),.o)],fun x=>dN.pre x.1 x.2.1,fun x=>(((dN x.1 x.2.1).1,()),((dN x.1 x.2.1).2,()))⟩
noncomputable def E:fG:=⟨bE,[(78,bO.fs)],[]⟩
noncomputable def rP:gJ:=⟨((.one (.arr 40000001))::ui::uu::uu::uu::ui::un 35 []),nJ⟩
noncomputable def fW:List hJ:=[⟨(.exit 0),⟨0,[1,0],[],[]⟩,⟨((.one (.arr 40000001))::ui::un 39 []),nJ⟩⟩]
noncomputable def L2:LC:=⟨2,⟨2,[0,1,5],[],[]⟩,rP,fW,pre2,fn2⟩
noncomputable def H:List LC:=[L2]
noncomputable def code(i:Nat):Code:=(bI (cU Tryz.f77)).getD i .skip
theorem lC:cP E H (code 0) L2:=⟨mA,fun⟨x1,x2,x3,()⟩ hp=>aV (show L2.step E H (code 0) (x1,(x2,(x3,())))=dT x1 x2 x3 from by kernel_rfl) (rR x1 x2 x3 hp)⟩
theorem cZ:aR Tryz.prog E:=aB bO.aMD (aJ jB)
theorem loops:∀c,Tryz.f77.body=some c->aI E H c:=bH (by kernel_rfl) (by kernel_rfl) fun i l h=>match i,h with
  |0,h=>Option.some.inj h▸lC
  |n+1,h=>by cases h
theorem aME:aZ Tryz.prog 77 fs:=aH cZ mixed Tryz.func77 H loops fun⟨x0,x1,()⟩ hw hp=>(show bB E H Tryz.f77 fs.ps fs.rs (x0,(x1,()))=aQ x0 x1 from by kernel_rfl).trans (eq x0 x1 hw hp)
theorem aMD:cW Tryz.prog 77 fs:=⟨aME,_,Tryz.func77,by kernel_rfl,by kernel_rfl⟩
end dN
namespace cB
noncomputable def nJ:List (Nat×vN):=[(40000001,(.arr 48 dU))]
noncomputable def fs:FS:=⟨[(.mut (.sl 48 dU)),(.val (.int .i64) .f)],[((.int .i64),.o)],fun x=>cB.pre x.1 x.2.1,fun x=>(((cB x.1 x.2.1).1,()),((cB x.1 x.2.1).2,()))⟩
noncomputable def E:fG:=⟨bE,[(74,aG.fs)],[]⟩
noncomputable def rP:gJ:=⟨((.one (.arr 40000001))::ui::uu::uu::uu::ui::un 37 []),nJ⟩
noncomputable def fW:List hJ:=[⟨(.exit 0),⟨0,[1,0],[],[]⟩,⟨((.one (.arr 40000001))::ui::un 41 []),nJ⟩⟩]
noncomputable def L2:LC:=⟨2,⟨2,[0,1,5],[],[]⟩,rP,fW,pre2,fn2⟩
noncomputable def H:List LC:=[L2]
noncomputable def code(i:Nat):Code:=(bI (cU Tryz.f29)).getD i .skip
theorem lC:cP E H (code 0) L2:=⟨mA,fun⟨x1,x2,x3,()⟩ hp=>aV (show L2.step E H (code 0) (x1,(x2,(x3,())))=dT x1 x2 x3 from by kernel_rfl) (rR x1 x2 x3 hp)⟩
theorem cZ:aR Tryz.prog E:=aB aG.aMD (aJ jB)
theorem loops:∀c,Tryz.f29.body=some c->aI E H c:=bH (by kernel_rfl) (by kernel_rfl) fun i l h=>match i,h with
  |0,h=>Option.some.inj h▸lC
  |n+1,h=>by cases h
theorem aME:aZ Tryz.prog 29 fs:=aH cZ mixed Tryz.func29 H loops fun⟨x0,x1,()⟩ hw hp=>(show bB E H Tryz.f29 fs.ps fs.rs (x0,(x1,()))=aQ x0 x1 from by kernel_rfl).trans (eq x0 x1 hw hp)
theorem aMD:cW Tryz.prog 29 fs:=⟨aME,_,Tryz.func29,by kernel_rfl,by kernel_rfl⟩
end cB
namespace eX
noncomputable def fs:FS:=⟨[(.mut bX),(.val (.int .i64) .f)],[((.int .i64),.o)],fun x=>eX.pre x.1 x.2.1,fun x=>(((eX x.1 x.2.1).1,()),((eX x.1 x.2.1).2,()))⟩
noncomputable def E:fG:=⟨bE,[(75,eJ.fs),(76,dO.fs),(78,bO.fs),(77,dN.fs),(29,cB.fs)],[]⟩
noncomputable def H:List LC:=[]
theorem cZ:aR Tryz.prog E:=aB eJ.aMD (aB dO.aMD (aB bO.aMD (aB dN.aMD (aB cB.aMD (aJ jB)))))
theorem loops:∀c,Tryz.f28.body=some c->aI E H c:=aO (by kernel_rfl)
theorem aME:aZ Tryz.prog 28 fs:=aH cZ mixed Tryz.func28 H loops fun⟨x0,x1,()⟩ hw hp=>(show bB E H Tryz.f28 fs.ps fs.rs (x0,(x1,()))=aQ x0 x1 from by kernel_rfl).trans (eq x0 x1 hw hp)
theorem aMD:cW Tryz.prog 28 fs:=⟨aME,_,Tryz.func28,by kernel_rfl,by kernel_rfl⟩
end eX
namespace dQ
noncomputable def fs:FS:=⟨[(.val (.sl 44 fH) .f),(.val (.int .i64) .f)],[((.int .i64),.o)],fun x=>dQ.pre x.1 x.2.1,fun x=>((),((dQ x.1 x.2.1),()))⟩
noncomputable def E:fG:=⟨bE,[(74,aG.fs)],[]⟩
noncomputable def rP:gJ:=⟨((.one (.dat (.sl 44 fH)))::ui::uu::uu::uu::ui::un 54 []),[]⟩
noncomputable def fW:List hJ:=[⟨.ret,⟨0,[4],[],[]⟩,⟨(un 4 (ui::un 55 [])),[]⟩⟩,⟨(.exit 0),⟨0,[1],[],[]⟩,⟨(uu::ui::un 58 []),[]⟩⟩]
noncomputable def L2:LC:=⟨2,⟨2,[0,1,5],[],[]⟩,rP,fW,pre2,fn2⟩
noncomputable def H:List LC:=[L2]
noncomputable def code(i:Nat):Code:=(bI (cU Tryz.f104)).getD i .skip
theorem lC:cP E H (code 0) L2:=⟨mA,fun⟨x1,x2,x3,()⟩ hp=>aV (show L2.step E H (code 0) (x1,(x2,(x3,())))=dT x1 x2 x3 from by kernel_rfl) (rR x1 x2 x3 hp)⟩
theorem cZ:aR Tryz.prog E:=aB aG.aMD (aJ jB)
theorem loops:∀c,Tryz.f104.body=some c->aI E H c:=bH (by kernel_rfl) (by kernel_rfl) fun i l h=>match i,h with
  |0,h=>Option.some.inj h▸lC
  |n+1,h=>by cases h
theorem aME:aZ Tryz.prog 104 fs:=aH cZ mixed Tryz.func104 H loops fun⟨x0,x1,()⟩ hw hp=>(show bB E H Tryz.f104 fs.ps fs.rs (x0,(x1,()))=aQ x0 x1 from by kernel_rfl).trans (eq x0 x1 hw hp)
theorem aMD:cW Tryz.prog 104 fs:=⟨aME,_,Tryz.func104,by kernel_rfl,by kernel_rfl⟩
end dQ
namespace eC
noncomputable def fs:FS:=⟨[(.val (.sl 42 bJ) .f),(.val (.int .i64) .f)],[((.int .i64),.o)],fun x=>eC.pre x.1 x.2.1,fun x=>((),((eC x.1 x.2.1),()))⟩
noncomputable def E:fG:=⟨bE,[(104,dQ.fs)],[]⟩
noncomputable def rP:gJ:=⟨((.one (.dat (.sl 42 bJ)))::ui::uu::uu::uu::ui::un 34 []),[]⟩
noncomputable def fW:List hJ:=[⟨.ret,⟨0,[4],[],[]⟩,⟨(un 4 (ui::un 35 [])),[]⟩⟩,⟨(.exit 0),⟨0,[1],[],[]⟩,⟨(uu::ui::un 38 []),[]⟩⟩]
noncomputable def L2:LC:=⟨2,⟨2,[0,1,5],[],[]⟩,rP,fW,pre2,fn2⟩
noncomputable def H:List LC:=[L2]
noncomputable def code(i:Nat):Code:=(bI (cU Tryz.f79)).getD i .skip
theorem lC:cP E H (code 0) L2:=⟨mA,fun⟨x1,x2,x3,()⟩ hp=>aV (show L2.step E H (code 0) (x1,(x2,(x3,())))=dT x1 x2 x3 from by kernel_rfl) (rR x1 x2 x3 hp)⟩
theorem cZ:aR Tryz.prog E:=aB dQ.aMD (aJ jB)
theorem loops:∀c,Tryz.f79.body=some c->aI E H c:=bH (by kernel_rfl) (by kernel_rfl) fun i l h=>match i,h with
  |0,h=>Option.some.inj h▸lC
  |n+1,h=>by cases h
theorem aME:aZ Tryz.prog 79 fs:=aH cZ mixed Tryz.func79 H loops fun⟨x0,x1,()⟩ hw hp=>(show bB E H Tryz.f79 fs.ps fs.rs (x0,(x1,()))=aQ x0 x1 from by kernel_rfl).trans (eq x0 x1 hw hp)
theorem aMD:cW Tryz.prog 79 fs:=⟨aME,_,Tryz.func79,by kernel_rfl,by kernel_rfl⟩
end eC
namespace dP
noncomputable def fs:FS:=⟨[(.val (.sl 118 (.pair (.int .i64) (.pair (.int .i64) .unit))) .f),(.val (.int .i64) .f)],[((.int .i64),.o)],fun x=>dP.pre x.1 x.2.1,fun x=>((),((dP x.1 x.2.1),()))⟩
noncomputable def E:fG:=⟨bE,[],[]⟩
noncomputable def rP:gJ:=⟨((.one (.dat (.sl 118 (.pair (.int .i64) (.pair (.int .i64) .unit)))))::ui::uu::uu::uu::ui::un 25 []),[]⟩
noncomputable def fW:List hJ:=[⟨.ret,⟨0,[4],[],[]⟩,⟨(un 4 (ui::un 26 [])),[]⟩⟩,⟨(.exit 0),⟨0,[1],[],[]⟩,⟨(uu::ui::un 29 []),[]⟩⟩]
noncomputable def L2:LC:=⟨2,⟨2,[0,1,5],[],[]⟩,rP,fW,pre2,fn2⟩
noncomputable def H:List LC:=[L2]
noncomputable def code(i:Nat):Code:=(bI (cU Tryz.f105)).getD i .skip
theorem lC:cP E H (code 0) L2:=⟨mA,fun⟨x1,x2,x3,()⟩ hp=>aV (show L2.step E H (code 0) (x1,(x2,(x3,())))=dT x1 x2 x3 from by kernel_rfl) (rR x1 x2 x3 hp)⟩
theorem cZ:aR Tryz.prog E:=aJ jB
theorem loops:∀c,Tryz.f105.body=some c->aI E H c:=bH (by kernel_rfl) (by kernel_rfl) fun i l h=>match i,h with
  |0,h=>Option.some.inj h▸lC
  |n+1,h=>by cases h
theorem aME:aZ Tryz.prog 105 fs:=aH cZ mixed Tryz.func105 H loops fun⟨x0,x1,()⟩ hw hp=>(show bB E H Tryz.f105 fs.ps fs.rs (x0,(x1,()))=aQ x0 x1 from by kernel_rfl).trans (eq x0 x1 hw hp)
theorem aMD:cW Tryz.prog 105 fs:=⟨aME,_,Tryz.func105,by kernel_rfl,by kernel_rfl⟩
end dP
namespace dG
noncomputable def fs:FS:=⟨[(.val (.sl 80 cJ) .f),(.val (.int .i64) .f)],[((.int .i64),.o)],fun x=>dG.pre x.1 x.2.1,fun x=>((),((dG x.1 x.2.1),()))⟩
noncomputable def E:fG:=⟨bE,[(105,dP.fs)],[]⟩
noncomputable def rP:gJ:=⟨((.one (.dat (.sl 80 cJ)))::ui::uu::uu::uu::ui::un 52 []),[]⟩
noncomputable def fW:List hJ:=[⟨.ret,⟨0,[4],[],[]⟩,⟨(un 4 (ui::un 53 [])),[]⟩⟩,⟨(.exit 0),⟨0,[1],[],[]⟩,⟨(uu::ui::un 56 []),[]⟩⟩]
noncomputable def L2:LC:=⟨2,⟨2,[0,1,5],[],[]⟩,rP,fW,pre2,fn2⟩
noncomputable def H:List LC:=[L2]
noncomputable def code(i:Nat):Code:=(bI (cU Tryz.f80)).getD i .skip
theorem lC:cP E H (code 0) L2:=⟨mA,fun⟨x1,x2,x3,()⟩ hp=>aV (show L2.step E H (code 0) (x1,(x2,(x3,())))=dT x1 x2 x3 from by kernel_rfl) (rR x1 x2 x3 hp)⟩
theorem cZ:aR Tryz.prog E:=aB dP.aMD (aJ jB)
theorem loops:∀c,Tryz.f80.body=some c->aI E H c:=bH (by kernel_rfl) (by kernel_rfl) fun i l h=>match i,h with
  |0,h=>Option.some.inj h▸lC
  |n+1,h=>by cases h
theorem aME:aZ Tryz.prog 80 fs:=aH cZ mixed Tryz.func80 H loops fun⟨x0,x1,()⟩ hw hp=>(show bB E H Tryz.f80 fs.ps fs.rs (x0,(x1,()))=aQ x0 x1 from by kernel_rfl).trans (eq x0 x1 hw hp)
theorem aMD:cW Tryz.prog 80 fs:=⟨aME,_,Tryz.func80,by kernel_rfl,by kernel_rfl⟩
end dG
namespace bG
noncomputable def fs:FS:=⟨[(.val (.sl 3 (.int .i64)) .f),(.val (.int .i64) .f)],[((.int .i64),.o)],fun x=>bG.pre x.1 x.2.1,fun x=>((),((bG x.1 x.2.1),()))⟩
noncomputable def E:fG:=⟨bE,[],[]⟩
noncomputable def rP:gJ:=⟨((.one (.dat (.sl 3 (.int .i64))))::ui::uu::uu::uu::ui::un 15 []),[]⟩
noncomputable def fW:List hJ:=[⟨.ret,⟨0,[4],[],[]⟩,⟨(un 4 (ui::un 16 [])),[]⟩⟩,⟨(.exit 0),⟨0,[1],[],[]⟩,⟨(uu::ui::un 19 []),[]⟩⟩]
noncomputable def L2:LC:=⟨2,⟨2,[0,1,5],[],[]⟩,rP,fW,pre2,fn2⟩
noncomputable def H:List LC:=[L2]
noncomputable def code(i:Nat):Code:=(bI (cU Tryz.f82)).getD i .skip
theorem lC:cP E H (code 0) L2:=⟨mA,fun⟨x1,x2,x3,()⟩ hp=>aV (show L2.step E H (code 0) (x1,(x2,(x3,())))=dT x1 x2 x3 from by kernel_rfl) (rR x1 x2 x3 hp)⟩
theorem cZ:aR Tryz.prog E:=aJ jB
theorem loops:∀c,Tryz.f82.body=some c->aI E H c:=bH (by kernel_rfl) (by kernel_rfl) fun i l h=>match i,h with
  |0,h=>Option.some.inj h▸lC
  |n+1,h=>by cases h
theorem aME:aZ Tryz.prog 82 fs:=aH cZ mixed Tryz.func82 H loops fun⟨x0,x1,()⟩ hw hp=>(show bB E H Tryz.f82 fs.ps fs.rs (x0,(x1,()))=aQ x0 x1 from by kernel_rfl).trans (eq x0 x1 hw hp)
theorem aMD:cW Tryz.prog 82 fs:=⟨aME,_,Tryz.func82,by kernel_rfl,by kernel_rfl⟩
end bG
namespace dH
noncomputable def fs:FS:=⟨[(.val (.sl 83 bY) .f),(.val (.int .i64) .f)],[((.int .i64),.o)],fun x=>dH.pre x.1 x.2.1,fun x=>((),((dH x.1 x.2.1),()))⟩
noncomputable def E:fG:=⟨bE,[(82,bG.fs)],[]⟩
noncomputable def rP:gJ:=⟨((.one (.dat (.sl 83 bY)))::ui::uu::uu::uu::ui::un 43 []),[]⟩
noncomputable def fW:List hJ:=[⟨.ret,⟨0,[4],[],[]⟩,⟨(un 4 (ui::un 44 [])),[]⟩⟩,⟨(.exit 0),⟨0,[1],[],[]⟩,⟨(uu::ui::un 47 []),[]⟩⟩]
noncomputable def L2:LC:=⟨2,⟨2,[0,1,5],[],[]⟩,rP,fW,pre2,fn2⟩
noncomputable def H:List LC:=[L2]
noncomputable def code(i:Nat):Code:=(bI (cU Tryz.f81)).getD i .skip
theorem lC:cP E H (code 0) L2:=⟨mA,fun⟨x1,x2,x3,()⟩ hp=>aV (show L2.step E H (code 0) (x1,(x2,(x3,())))=dT x1 x2 x3 from by kernel_rfl) (rR x1 x2 x3 hp)⟩
theorem cZ:aR Tryz.prog E:=aB bG.aMD (aJ jB)
theorem loops:∀c,Tryz.f81.body=some c->aI E H c:=bH (by kernel_rfl) (by kernel_rfl) fun i l h=>match i,h with
  |0,h=>Option.some.inj h▸lC
  |n+1,h=>by cases h
theorem aME:aZ Tryz.prog 81 fs:=aH cZ mixed Tryz.func81 H loops fun⟨x0,x1,()⟩ hw hp=>(show bB E H Tryz.f81 fs.ps fs.rs (x0,(x1,()))=aQ x0 x1 from by kernel_rfl).trans (eq x0 x1 hw hp)
theorem aMD:cW Tryz.prog 81 fs:=⟨aME,_,Tryz.func81,by kernel_rfl,by kernel_rfl⟩
end dH
namespace bN
noncomputable def fs:FS:=⟨[(.val (.sl 48 dU) .f),(.val (.int .i64) .f)],[((.int .i64),.o)],fun x=>bN.pre x.1 x.2.1,fun x=>((),((bN x.1 x.2.1),()))⟩
noncomputable def E:fG:=⟨bE,[(74,aG.fs)],[]⟩
noncomputable def rP:gJ:=⟨((.one (.dat (.sl 48 dU)))::ui::uu::uu::uu::ui::un 45 []),[]⟩
noncomputable def fW:List hJ:=[⟨.ret,⟨0,[4],[],[]⟩,⟨(un 4 (ui::un 46 [])),[]⟩⟩,⟨(.exit 0),⟨0,[1],[],[]⟩,⟨(uu::ui::un 49 []),[]⟩⟩]
noncomputable def L2:LC:=⟨2,⟨2,[0,1,5],[],[]⟩,rP,fW,pre2,fn2⟩
noncomputable def H:List LC:=[L2]
noncomputable def code(i:Nat):Code:=(bI (cU Tryz.f31)).getD i .skip
theorem lC:cP E H (code 0) L2:=⟨mA,fun⟨x1,x2,x3,()⟩ hp=>aV (show L2.step E H (code 0) (x1,(x2,(x3,())))=dT x1 x2 x3 from by kernel_rfl) (rR x1 x2 x3 hp)⟩
theorem cZ:aR Tryz.prog E:=aB aG.aMD (aJ jB)
theorem loops:∀c,Tryz.f31.body=some c->aI E H c:=bH (by kernel_rfl) (by kernel_rfl) fun i l h=>match i,h with
  |0,h=>Option.some.inj h▸lC
  |n+1,h=>by cases h
theorem aME:aZ Tryz.prog 31 fs:=aH cZ mixed Tryz.func31 H loops fun⟨x0,x1,()⟩ hw hp=>(show bB E H Tryz.f31 fs.ps fs.rs (x0,(x1,()))=aQ x0 x1 from by kernel_rfl).trans (eq x0 x1 hw hp)
theorem aMD:cW Tryz.prog 31 fs:=⟨aME,_,Tryz.func31,by kernel_rfl,by kernel_rfl⟩
end bN
namespace eL
noncomputable def fs:FS:=⟨[(.val bX .f),(.val (.int .i64) .f)],[((.int .i64),.o)],fun x=>eL.pre x.1 x.2.1,fun x=>((),((eL x.1 x.2.1),()))⟩
noncomputable def E:fG:=⟨bE,[(79,eC.fs),(80,dG.fs),(82,bG.fs),(81,dH.fs),(31,bN.fs)],[]⟩
noncomputable def H:List LC:=[]
theorem cZ:aR Tryz.prog E:=aB eC.aMD (aB dG.aMD (aB bG.aMD (aB dH.aMD (aB bN.aMD (aJ jB)))))
theorem loops:∀c,Tryz.f30.body=some c->aI E H c:=aO (by kernel_rfl)
theorem aME:aZ Tryz.prog 30 fs:=aH cZ mixed Tryz.func30 H loops fun⟨x0,x1,()⟩ hw hp=>(show bB E H Tryz.f30 fs.ps fs.rs (x0,(x1,()))=aQ x0 x1 from by kernel_rfl).trans (eq x0 x1 hw hp)
theorem aMD:cW Tryz.prog 30 fs:=⟨aME,_,Tryz.func30,by kernel_rfl,by kernel_rfl⟩
end eL
namespace hZ
noncomputable def fs:FS:=⟨[(.val kA .f),(.val (.sl 102 jR) .f)],[(.bool,.o)],fun _=>true,fun x=>((),((hZ x.1 x.2.1),()))⟩
noncomputable def E:fG:=⟨bE,[(21,fX.fs),(22,kI.fs),(23,eW.fs),(9,gQ.fs),(8,fJ.fs),(25,dK.fs),(24,jZ.fs),(26,jH.fs),(27,fK.fs),(29,cB.fs),(28,eX.fs),(31,bN.fs),(30,eL.fs)],[]⟩
noncomputable def H:List LC:=[]
theorem cZ:aR Tryz.prog E:=aB fX.aMD (aB kI.aMD (aB eW.aMD (aB gQ.aMD (aB fJ.aMD (aB dK.aMD (aB jZ.aMD (aB jH.aMD (aB fK.aMD (aB cB.aMD (aB eX.aMD (aB bN.aMD (aB eL.aMD (aJ jB)))))))))))))
theorem loops:∀c,Tryz.f5.body=some c->aI E H c:=aO (by kernel_rfl)
theorem aME:aZ Tryz.prog 5 fs:=aH cZ mixed Tryz.func5 H loops fun⟨x0,x1,()⟩ hw _=>(show bB E H Tryz.f5 fs.ps fs.rs (x0,(x1,()))=aQ x0 x1 from by kernel_rfl).trans (eq x0 x1 hw)
theorem aMD:cW Tryz.prog 5 fs:=⟨aME,_,Tryz.func5,by kernel_rfl,by kernel_rfl⟩
end hZ
end
end Go.Aw.Pl
