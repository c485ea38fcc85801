import Derived.Test.YtbpldgeajbfgnaaGreatDoorPForms2
set_option linter.defProp false
namespace Go.Proofs.YtbpldgeajbfgnaaGreatDoor
open Go Go.Vm
open Go.IntKind (i64)
set_option linter.unusedVariables false
set_option linter.unusedSimpArgs false
noncomputable section
def M.iq{R:Type}(fP:Int->Int->aC->aC->au->Int->Int->Int->Bool->Bool->Bool->Bool->au->au->Bool->Option (au×au×Bool))(lY:Int->Int->aC->aC->au->Int->Bool->Bool->Bool->Bool->au->au->Bool->Option (au×au×Bool))(t' jr:Int)(kH nV:aC)(lZ:au)(p:Int)(p1 p2 p3 p4:Bool)(c c1:au)(c2:Bool)(k:au×au×Bool->Option R):Option R:=
 bif t'==1 then
 (bif aA c then
 (bif aA c1 then
 ((M.bU ([[D.int .i64 6,D.str kH,D.int .i64 0]]) c c1 c2).bind λagz=>
 (jA agz.2.1 [[D.int .i64 (↑c.length:Int),D.int .i64 (↑agz.1.length:Int)]] 16 λza=>(bif aA agz.1 then
 (bif aA za then
 (k ((agz.1,za,agz.2.2))) else none) else none))) else none) else none) else
 (bif t'==2 then
 (bif aA c then
 (bif aA c1 then
 ((M.bU ([[D.int .i64 3,D.str kH,D.int .i64 0]]) c c1 c2).bind λagA=>
 (jA agA.2.1 [[D.int .i64 (↑c.length:Int),D.int .i64 (↑agA.1.length:Int)]] 16 λza=>(bif aA agA.1 then
 (bif aA za then
 (k ((agA.1,za,agA.2.2))) else none) else none))) else none) else none) else
 (bif t'==3 then
 (bif aA c then
 (bif aA c1 then
 ((M.bU ([[D.int .i64 4,D.str kH,D.int .i64 0]]) c c1 c2).bind λagB=>
 (jA agB.2.1 [[D.int .i64 (↑c.length:Int),D.int .i64 (↑agB.1.length:Int)]] 16 λza=>(bif aA agB.1 then
 (bif aA za then
 (k ((agB.1,za,agB.2.2))) else none) else none))) else none) else none) else
 (bif t'==4 then
 (bif aA c then
 (bif aA c1 then
 ((M.bU ([[D.int .i64 5,D.str kH,D.int .i64 0]]) c c1 c2).bind λagC=>
 (jA agC.2.1 [[D.int .i64 (↑c.length:Int),D.int .i64 (↑agC.1.length:Int)]] 16 λza=>(bif aA agC.1 then
 (bif aA za then
 (k ((agC.1,za,agC.2.2))) else none) else none))) else none) else none) else
 (bif t'==5 then
 (bif aA c then
 (bif aA c1 then
 ((M.bU ([[D.int .i64 6,D.str kH,D.int .i64 0]]) c c1 c2).bind λagD=>
 (bif aA agD.1 then
 (bif aA agD.2.1 then
 ((fP t' jr kH nV lZ 34 35 p p1 p2 p3 p4 agD.1 agD.2.1 agD.2.2).bind λagE=>
 (jA agE.2.1 [[D.int .i64 (↑c.length:Int),D.int .i64 (↑agE.1.length:Int)]] 16 λza=>(bif aA agE.1 then
 (bif aA za then
 (k ((agE.1,za,agE.2.2))) else none) else none))) else none) else none)) else none) else none) else
 (bif t'==7 then
 (bif aA c then
 (bif aA c1 then
 ((M.bU ([[D.int .i64 7,D.str kH,D.int .i64 0]]) c c1 c2).bind λagF=>
 (bif aA agF.1 then
 (bif aA agF.2.1 then
 ((fP t' jr kH nV lZ 32 33 p p1 p2 p3 p4 agF.1 agF.2.1 agF.2.2).bind λagG=>
 (jA agG.2.1 [[D.int .i64 (↑c.length:Int),D.int .i64 (↑agG.1.length:Int)]] 16 λza=>(bif aA agG.1 then
 (bif aA za then
 (k ((agG.1,za,agG.2.2))) else none) else none))) else none) else none)) else none) else none) else
 (bif t'==8 then
 (bif aA c then
 (bif aA c1 then
 ((M.bU ([[D.int .i64 8,D.str kH,D.int .i64 0]]) c c1 c2).bind λagH=>
 (bif aA agH.1 then
 (bif aA agH.2.1 then
 ((fP t' jr kH nV lZ 32 33 p p1 p2 p3 p4 agH.1 agH.2.1 agH.2.2).bind λagI=>
 (jA agI.2.1 [[D.int .i64 (↑c.length:Int),D.int .i64 (↑agI.1.length:Int)]] 16 λza=>(bif aA agI.1 then
 (bif aA za then
 (k ((agI.1,za,agI.2.2))) else none) else none))) else none) else none)) else none) else none) else
 (bif aA c then
 (bif aA c1 then
 ((lY t' jr kH nV lZ p p1 p2 p3 p4 c c1 c2).bind λagJ=>
 (jA agJ.2.1 [[D.int .i64 (↑c.length:Int),D.int .i64 (↑agJ.1.length:Int)]] 16 λza=>(bif aA agJ.1 then
 (bif aA za then
 (k ((agJ.1,za,agJ.2.2))) else none) else none))) else none) else none)))))))
def C.Rf{fP:Int->Int->aC->aC->au->Int->Int->Int->Bool->Bool->Bool->Bool->au->au->Bool->Option (au×au×Bool)}{lY:Int->Int->aC->aC->au->Int->Bool->Bool->Bool->Bool->au->au->Bool->Option (au×au×Bool)}(EI:S.mF.ok X0 λx=>fP x.1.2.1.1 x.1.2.1.2.1 x.1.2.1.2.2.1 x.1.2.1.2.2.2.1 x.1.2.1.2.2.2.2.1 x.1.2.2.1 x.1.2.2.2.1 x.1.2.2.2.2.1.1 x.1.2.2.2.2.1.2.1 x.1.2.2.2.2.1.2.2.1 x.1.2.2.2.2.1.2.2.2.1 x.1.2.2.2.2.1.2.2.2.2.1 x.2.1.1 x.2.1.2.1 x.2.1.2.2.1)(OW:S.lq.ok X0 λx=>lY x.1.2.1.1 x.1.2.1.2.1 x.1.2.1.2.2.1 x.1.2.1.2.2.2.1 x.1.2.1.2.2.2.2.1 x.1.2.2.1.1 x.1.2.2.1.2.1 x.1.2.2.1.2.2.1 x.1.2.2.1.2.2.2.1 x.1.2.2.1.2.2.2.2.1 x.2.1.1 x.2.1.2.1 x.2.1.2.2.1):S.mG.ok X0 λx=>M.iq fP lY x.1.2.1.1 x.1.2.1.2.1 x.1.2.1.2.2.1 x.1.2.1.2.2.2.1 x.1.2.1.2.2.2.2.1 x.1.2.2.1.1 x.1.2.2.1.2.1 x.1.2.2.1.2.2.1 x.1.2.2.1.2.2.2.1 x.1.2.2.1.2.2.2.2.1 x.2.1.1 x.2.1.2.1 x.2.1.2.2.1 some:=fnS (λx=>M.iq fP lY x.1.2.1.1 x.1.2.1.2.1 x.1.2.1.2.2.1 x.1.2.1.2.2.2.1 x.1.2.1.2.2.2.2.1 x.1.2.2.1.1 x.1.2.2.1.2.1 x.1.2.2.1.2.2.1 x.1.2.2.1.2.2.2.1 x.1.2.2.1.2.2.2.2.1 x.2.1.1 x.2.1.2.1 x.2.1.2.2.1) [fe C.bU,fe EI,fe OW] [] (by intros;simp only[M.iq,jA];repeat' first|with_reducible apply ig|with_reducible apply Ho|with_reducible apply Hq|with_reducible apply Hr|with_reducible apply Ht|(intro _)|apply ig|rfl)
def M.pV{R:Type}(fA:Int->Int->aC->aC->au->Int->Bool->Bool->Bool->Bool->au->au->Bool->Option (au×au×Bool))(t' jr:Int)(kH nV:aC)(lZ:au)(p:Int)(p1 p2 p3 p4:Bool)(c c1:au)(c2:Bool)(k:au×au×Bool->Option R):Option R:=
 (M.jh t' jr kH nV lZ).bind λRh=>
 ((M.Bl Rh.1 Rh.2.1 Rh.2.2.1 Rh.2.2.2.1 Rh.2.2.2.2 p p1 p2 p3 p4).bind λaCD=>
 (bif c2 then
 ((M.lU Rh.1 Rh.2.1 Rh.2.2.1 Rh.2.2.2.1 Rh.2.2.2.2).bind λaCE=>
 (bif aCE !=15 then
 ((M.iO 32).bind λaog=>
 (bif aA c then
 (bif aA c1 then
 ((M.bU ([[D.int .i64 aog.1,D.str aog.2.1,D.int .i64 aog.2.2]]) c c1 c2).bind λagK=>
 (M.oM.bind λagL=>
 (bif aA agK.1 then
 (bif aA agK.2.1 then
 ((fA t' jr kH nV lZ agL.1 agL.2.1 agL.2.2.1 agL.2.2.2.1 agL.2.2.2.2 agK.1 agK.2.1 agK.2.2).bind λagM=>
 ((M.iO 33).bind λaoh=>
 (bif aA agM.1 then
 (bif aA agM.2.1 then
 ((M.bU ([[D.int .i64 aoh.1,D.str aoh.2.1,D.int .i64 aoh.2.2]]) agM.1 agM.2.1 agM.2.2).bind λagN=>
 (bif aA agN.1 then(bif aA agN.2.1 then(k ((agN.1,agN.2.1,agN.2.2))) else none) else none)) else none) else none))) else none) else none))) else none) else none)) else
 (bif !Rh.1==4 then
 (bif aA c then
 (bif aA c1 then
 ((fA t' jr kH nV lZ p p1 p2 p3 p4 c c1 c2).bind λagO=>
 (bif aA agO.1 then(bif aA agO.2.1 then(k ((agO.1,agO.2.1,agO.2.2))) else none) else none)) else none) else none) else
 ((M.iO 32).bind λaoi=>
 (bif aA c then
 (bif aA c1 then
 ((M.bU ([[D.int .i64 aoi.1,D.str aoi.2.1,D.int .i64 aoi.2.2]]) c c1 c2).bind λagP=>
 (M.oM.bind λagQ=>
 (bif aA agP.1 then
 (bif aA agP.2.1 then
 ((fA t' jr kH nV lZ agQ.1 agQ.2.1 agQ.2.2.1 agQ.2.2.2.1 agQ.2.2.2.2 agP.1 agP.2.1 agP.2.2).bind λagR=>
 ((M.iO 33).bind λaoj=>
 (bif aA agR.1 then
 (bif aA agR.2.1 then
 ((M.bU ([[D.int .i64 aoj.1,D.str aoj.2.1,D.int .i64 aoj.2.2]]) agR.1 agR.2.1 agR.2.2).bind λagS=>
 (bif aA agS.1 then(bif aA agS.2.1 then(k ((agS.1,agS.2.1,agS.2.2))) else none) else none)) else none) else none))) else none) else none))) else none) else none))))) else
 (bif !!aCD then
 (bif aA c then
 (bif aA c1 then
 ((fA t' jr kH nV lZ p p1 p2 p3 p4 c c1 c2).bind λagT=>
 (bif aA agT.1 then(bif aA agT.2.1 then(k ((agT.1,agT.2.1,agT.2.2))) else none) else none)) else none) else none) else
 ((M.iO 32).bind λaok=>
 (bif aA c then
 (bif aA c1 then
 ((M.bU ([[D.int .i64 aok.1,D.str aok.2.1,D.int .i64 aok.2.2]]) c c1 c2).bind λagU=>
 (M.oM.bind λagV=>
 (bif aA agU.1 then
 (bif aA agU.2.1 then
 ((fA t' jr kH nV lZ agV.1 agV.2.1 agV.2.2.1 agV.2.2.2.1 agV.2.2.2.2 agU.1 agU.2.1 agU.2.2).bind λagW=>
 ((M.iO 33).bind λaol=>
 (bif aA agW.1 then
 (bif aA agW.2.1 then
 ((M.bU ([[D.int .i64 aol.1,D.str aol.2.1,D.int .i64 aol.2.2]]) agW.1 agW.2.1 agW.2.2).bind λagX=>
 (bif aA agX.1 then(bif aA agX.2.1 then(k ((agX.1,agX.2.1,agX.2.2))) else none) else none)) else none) else none))) else none) else none))) else none) else none)))))
def C.Ri{fA:Int->Int->aC->aC->au->Int->Bool->Bool->Bool->Bool->au->au->Bool->Option (au×au×Bool)}(EJ:S.mG.ok X0 λx=>fA x.1.2.1.1 x.1.2.1.2.1 x.1.2.1.2.2.1 x.1.2.1.2.2.2.1 x.1.2.1.2.2.2.2.1 x.1.2.2.1.1 x.1.2.2.1.2.1 x.1.2.2.1.2.2.1 x.1.2.2.1.2.2.2.1 x.1.2.2.1.2.2.2.2.1 x.2.1.1 x.2.1.2.1 x.2.1.2.2.1):S.oN.ok X0 λx=>M.pV fA x.1.2.1.1 x.1.2.1.2.1 x.1.2.1.2.2.1 x.1.2.1.2.2.2.1 x.1.2.1.2.2.2.2.1 x.1.2.2.1.1 x.1.2.2.1.2.1 x.1.2.2.1.2.2.1 x.1.2.2.1.2.2.2.1 x.1.2.2.1.2.2.2.2.1 x.2.1.1 x.2.1.2.1 x.2.1.2.2.1 some:=fnS (λx=>M.pV fA x.1.2.1.1 x.1.2.1.2.1 x.1.2.1.2.2.1 x.1.2.1.2.2.2.1 x.1.2.1.2.2.2.2.1 x.1.2.2.1.1 x.1.2.2.1.2.1 x.1.2.2.1.2.2.1 x.1.2.2.1.2.2.2.1 x.1.2.2.1.2.2.2.2.1 x.2.1.1 x.2.1.2.1 x.2.1.2.2.1) [fe C.jh,fe C.Bl,fe C.lU,fe C.iO,fe C.bU,fe C.oM,fe EJ] [] (by intros;unfold M.pV;repeat' first|with_reducible apply ig|with_reducible apply Ho|with_reducible apply Hq|with_reducible apply Hr|with_reducible apply Ht|(intro _)|apply ig|rfl)
def M.qM{R:Type}(fA:Int->Int->aC->aC->au->Int->Bool->Bool->Bool->Bool->au->au->Bool->Option (au×au×Bool))(qx:Int->Int->aC->aC->au->Int->Bool->Bool->Bool->Bool->au->au->Bool->Option (au×au×Bool))(t' jr:Int)(kH nV:aC)(lZ:au)(k' p:Int)(p1 p2 p3 p4:Bool)(c c1:au)(c2:Bool)(k:au×au×Bool->Option R):Option R:=
 (M.jh t' jr kH nV lZ).bind λTD=>
 ((idx lZ k').bind λaqI=>
 (rJ 5 aqI λarR arS arU arV agY=>
 ((M.uH TD.1 TD.2.1 TD.2.2.1 TD.2.2.2.1 TD.2.2.2.2 k' p p1 p2 p3 p4).bind λTF=>
 ((M.oD TD.1 TD.2.1 TD.2.2.1 TD.2.2.2.1 TD.2.2.2.2 k').bind λaCF=>
 (bif aCF then
 (bif aA c then
 (bif aA c1 then
 ((fA arR arS arU arV agY TF.1 TF.2.1 TF.2.2.1 TF.2.2.2.1 TF.2.2.2.2 c c1 c2).bind λagZ=>
 (bif aA agZ.1 then(bif aA agZ.2.1 then(k ((agZ.1,agZ.2.1,agZ.2.2))) else none) else none)) else none) else none) else
 (bif aA c then
 (bif aA c1 then
 ((qx arR arS arU arV agY TF.1 TF.2.1 TF.2.2.1 TF.2.2.2.1 TF.2.2.2.2 c c1 c2).bind λag0=>
 (bif aA ag0.1 then(bif aA ag0.2.1 then(k ((ag0.1,ag0.2.1,ag0.2.2))) else none) else none)) else none) else none))))))
def C.SG{fA:Int->Int->aC->aC->au->Int->Bool->Bool->Bool->Bool->au->au->Bool->Option (au×au×Bool)}{qx:Int->Int->aC->aC->au->Int->Bool->Bool->Bool->Bool->au->au->Bool->Option (au×au×Bool)}(EJ:S.mG.ok X0 λx=>fA x.1.2.1.1 x.1.2.1.2.1 x.1.2.1.2.2.1 x.1.2.1.2.2.2.1 x.1.2.1.2.2.2.2.1 x.1.2.2.1.1 x.1.2.2.1.2.1 x.1.2.2.1.2.2.1 x.1.2.2.1.2.2.2.1 x.1.2.2.1.2.2.2.2.1 x.2.1.1 x.2.1.2.1 x.2.1.2.2.1)(SH:S.oN.ok X0 λx=>qx x.1.2.1.1 x.1.2.1.2.1 x.1.2.1.2.2.1 x.1.2.1.2.2.2.1 x.1.2.1.2.2.2.2.1 x.1.2.2.1.1 x.1.2.2.1.2.1 x.1.2.2.1.2.2.1 x.1.2.2.1.2.2.2.1 x.1.2.2.1.2.2.2.2.1 x.2.1.1 x.2.1.2.1 x.2.1.2.2.1):S.jf.ok X0 λx=>M.qM fA qx x.1.2.1.1 x.1.2.1.2.1 x.1.2.1.2.2.1 x.1.2.1.2.2.2.1 x.1.2.1.2.2.2.2.1 x.1.2.2.1 x.1.2.2.2.1.1 x.1.2.2.2.1.2.1 x.1.2.2.2.1.2.2.1 x.1.2.2.2.1.2.2.2.1 x.1.2.2.2.1.2.2.2.2.1 x.2.1.1 x.2.1.2.1 x.2.1.2.2.1 some:=fnS (λx=>M.qM fA qx x.1.2.1.1 x.1.2.1.2.1 x.1.2.1.2.2.1 x.1.2.1.2.2.2.1 x.1.2.1.2.2.2.2.1 x.1.2.2.1 x.1.2.2.2.1.1 x.1.2.2.2.1.2.1 x.1.2.2.2.1.2.2.1 x.1.2.2.2.1.2.2.2.1 x.1.2.2.2.1.2.2.2.2.1 x.2.1.1 x.2.1.2.1 x.2.1.2.2.1) [fe C.jh,fe C.uH,fe C.oD,fe EJ,fe SH] [] (by intros;simp only[M.qM,rJ];repeat' first|with_reducible apply ig|with_reducible apply Ho|with_reducible apply Hq|with_reducible apply Hr|with_reducible apply Ht|(intro _)|apply ig|rfl)
def M.iG:Nat->(Int->Int->aC->aC->au->Int->Int->Bool->Bool->Bool->Bool->au->au->Bool->Option (au×au×Bool))×(Int->Int->aC->aC->au->Int->Int->Int->Bool->Bool->Bool->Bool->au->au->Bool->Option (au×au×Bool))×(Int->Int->aC->aC->au->Int->Bool->Bool->Bool->Bool->au->au->Bool->Option (au×au×Bool))×(Int->Int->aC->aC->au->Int->Bool->Bool->Bool->Bool->au->au->Bool->Option (au×au×Bool))×(Int->Int->aC->aC->au->Int->Bool->Bool->Bool->Bool->au->au->Bool->Option (au×au×Bool)):=
 Nat.rec (λ_ _ _ _ _ _ _ _ _ _ _ _ _ _=>none,λ_ _ _ _ _ _ _ _ _ _ _ _ _ _ _=>none,λ_ _ _ _ _ _ _ _ _ _ _ _ _=>none,λ_ _ _ _ _ _ _ _ _ _ _ _ _=>none,λ_ _ _ _ _ _ _ _ _ _ _ _ _=>none) λ_ qz=>(λt' jr kH nV lZ k' p p1 p2 p3 p4 c c1 c2=>M.qM qz.2.2.2.1 qz.2.2.2.2 t' jr kH nV lZ k' p p1 p2 p3 p4 c c1 c2 some,λt' jr kH nV lZ open' shut p p1 p2 p3 p4 c c1 c2=>M.pU qz.1 t' jr kH nV lZ open' shut p p1 p2 p3 p4 c c1 c2 some,λt' jr kH nV lZ p p1 p2 p3 p4 c c1 c2=>M.dX qz.1 qz.2.1 t' jr kH nV lZ p p1 p2 p3 p4 c c1 c2 some,λt' jr kH nV lZ p p1 p2 p3 p4 c c1 c2=>M.iq qz.2.1 qz.2.2.1 t' jr kH nV lZ p p1 p2 p3 p4 c c1 c2 some,λt' jr kH nV lZ p p1 p2 p3 p4 c c1 c2=>M.pV qz.2.2.2.1 t' jr kH nV lZ p p1 p2 p3 p4 c c1 c2 some)
def M.jP(n:Nat):Int->Int->aC->aC->au->Int->Int->Bool->Bool->Bool->Bool->au->au->Bool->Option (au×au×Bool):=(M.iG n).1
def M.pW(n:Nat):Int->Int->aC->aC->au->Int->Int->Int->Bool->Bool->Bool->Bool->au->au->Bool->Option (au×au×Bool):=(M.iG n).2.1
def M.nN(n:Nat):Int->Int->aC->aC->au->Int->Bool->Bool->Bool->Bool->au->au->Bool->Option (au×au×Bool):=(M.iG n).2.2.1
def M.pX(n:Nat):Int->Int->aC->aC->au->Int->Bool->Bool->Bool->Bool->au->au->Bool->Option (au×au×Bool):=(M.iG n).2.2.2.1
def M.tX(n:Nat):Int->Int->aC->aC->au->Int->Bool->Bool->Bool->Bool->au->au->Bool->Option (au×au×Bool):=(M.iG n).2.2.2.2
def M.UM(n:Nat):M.jP (n+1)=λt' jr kH nV lZ k' p p1 p2 p3 p4 c c1 c2=>M.qM (M.pX n) (M.tX n) t' jr kH nV lZ k' p p1 p2 p3 p4 c c1 c2 some:=rfl
def M.SI(n:Nat):M.pW (n+1)=λt' jr kH nV lZ open' shut p p1 p2 p3 p4 c c1 c2=>M.pU (M.jP n) t' jr kH nV lZ open' shut p p1 p2 p3 p4 c c1 c2 some:=rfl
def M.OX(n:Nat):M.nN (n+1)=λt' jr kH nV lZ p p1 p2 p3 p4 c c1 c2=>M.dX (M.jP n) (M.pW n) t' jr kH nV lZ p p1 p2 p3 p4 c c1 c2 some:=rfl
def M.SK(n:Nat):M.pX (n+1)=λt' jr kH nV lZ p p1 p2 p3 p4 c c1 c2=>M.iq (M.pW n) (M.nN n) t' jr kH nV lZ p p1 p2 p3 p4 c c1 c2 some:=rfl
def M.SL(n:Nat):M.tX (n+1)=λt' jr kH nV lZ p p1 p2 p3 p4 c c1 c2=>M.pV (M.pX n) t' jr kH nV lZ p p1 p2 p3 p4 c c1 c2 some:=rfl
def M.jf(t' jr:Int)(kH nV:aC)(lZ:au)(k' p:Int)(p1 p2 p3 p4:Bool)(c c1:au)(c2:Bool):Option (au×au×Bool):=lim λn=>M.jP n t' jr kH nV lZ k' p p1 p2 p3 p4 c c1 c2
def M.mF(t' jr:Int)(kH nV:aC)(lZ:au)(open' shut p:Int)(p1 p2 p3 p4:Bool)(c c1:au)(c2:Bool):Option (au×au×Bool):=lim λn=>M.pW n t' jr kH nV lZ open' shut p p1 p2 p3 p4 c c1 c2
def M.lq(t' jr:Int)(kH nV:aC)(lZ:au)(p:Int)(p1 p2 p3 p4:Bool)(c c1:au)(c2:Bool):Option (au×au×Bool):=lim λn=>M.nN n t' jr kH nV lZ p p1 p2 p3 p4 c c1 c2
def M.mG(t' jr:Int)(kH nV:aC)(lZ:au)(p:Int)(p1 p2 p3 p4:Bool)(c c1:au)(c2:Bool):Option (au×au×Bool):=lim λn=>M.pX n t' jr kH nV lZ p p1 p2 p3 p4 c c1 c2
def M.oN(t' jr:Int)(kH nV:aC)(lZ:au)(p:Int)(p1 p2 p3 p4:Bool)(c c1:au)(c2:Bool):Option (au×au×Bool):=lim λn=>M.tX n t' jr kH nV lZ p p1 p2 p3 p4 c c1 c2
def C.iG:∀n,(S.jf.ok X0 λx=>M.jP n x.1.2.1.1 x.1.2.1.2.1 x.1.2.1.2.2.1 x.1.2.1.2.2.2.1 x.1.2.1.2.2.2.2.1 x.1.2.2.1 x.1.2.2.2.1.1 x.1.2.2.2.1.2.1 x.1.2.2.2.1.2.2.1 x.1.2.2.2.1.2.2.2.1 x.1.2.2.2.1.2.2.2.2.1 x.2.1.1 x.2.1.2.1 x.2.1.2.2.1)∧(S.mF.ok X0 λx=>M.pW n x.1.2.1.1 x.1.2.1.2.1 x.1.2.1.2.2.1 x.1.2.1.2.2.2.1 x.1.2.1.2.2.2.2.1 x.1.2.2.1 x.1.2.2.2.1 x.1.2.2.2.2.1.1 x.1.2.2.2.2.1.2.1 x.1.2.2.2.2.1.2.2.1 x.1.2.2.2.2.1.2.2.2.1 x.1.2.2.2.2.1.2.2.2.2.1 x.2.1.1 x.2.1.2.1 x.2.1.2.2.1)∧(S.lq.ok X0 λx=>M.nN n x.1.2.1.1 x.1.2.1.2.1 x.1.2.1.2.2.1 x.1.2.1.2.2.2.1 x.1.2.1.2.2.2.2.1 x.1.2.2.1.1 x.1.2.2.1.2.1 x.1.2.2.1.2.2.1 x.1.2.2.1.2.2.2.1 x.1.2.2.1.2.2.2.2.1 x.2.1.1 x.2.1.2.1 x.2.1.2.2.1)∧(S.mG.ok X0 λx=>M.pX n x.1.2.1.1 x.1.2.1.2.1 x.1.2.1.2.2.1 x.1.2.1.2.2.2.1 x.1.2.1.2.2.2.2.1 x.1.2.2.1.1 x.1.2.2.1.2.1 x.1.2.2.1.2.2.1 x.1.2.2.1.2.2.2.1 x.1.2.2.1.2.2.2.2.1 x.2.1.1 x.2.1.2.1 x.2.1.2.2.1)∧(S.oN.ok X0 λx=>M.tX n x.1.2.1.1 x.1.2.1.2.1 x.1.2.1.2.2.1 x.1.2.1.2.2.2.1 x.1.2.1.2.2.2.2.1 x.1.2.2.1.1 x.1.2.2.1.2.1 x.1.2.2.1.2.2.1 x.1.2.2.1.2.2.2.1 x.1.2.2.1.2.2.2.2.1 x.2.1.1 x.2.1.2.1 x.2.1.2.2.1)
 |0=>⟨gq.zero,gq.zero,gq.zero,gq.zero,gq.zero⟩
 |n+1=>have h:=C.iG n;⟨C.SG h.2.2.2.1 h.2.2.2.2,C.Q9 h.1,C.Oi h.1 h.2.1,C.Rf h.2.1 h.2.2.1,C.Ri h.2.2.2.1⟩
def C.jf:S.jf.ok X0 λx=>M.jf x.1.2.1.1 x.1.2.1.2.1 x.1.2.1.2.2.1 x.1.2.1.2.2.2.1 x.1.2.1.2.2.2.2.1 x.1.2.2.1 x.1.2.2.2.1.1 x.1.2.2.2.1.2.1 x.1.2.2.2.1.2.2.1 x.1.2.2.2.1.2.2.2.1 x.1.2.2.2.1.2.2.2.2.1 x.2.1.1 x.2.1.2.1 x.2.1.2.2.1:=gq.lim λn=>(C.iG n).1
def M.SN{n:Nat}{t' jr:Int}{kH nV:aC}{lZ:au}{k' p:Int}{p1 p2 p3 p4:Bool}{c c1:au}{c2:Bool}{r:au×au×Bool}(h:M.jP n t' jr kH nV lZ k' p p1 p2 p3 p4 c c1 c2=some r):M.jf t' jr kH nV lZ k' p p1 p2 p3 p4 c c1 c2=some r:=
 gq.Hl (λn=>(C.iG n).1) (by intro a b h;simp[S.jf,sg] at h;first|exact h|simp[Prod.ext_iff,h]) (x:=(((),(t',jr,kH,nV,lZ,()),k',(p,p1,p2,p3,p4,()),()),((c,c1,c2,()),()))) h
def C.mF:S.mF.ok X0 λx=>M.mF x.1.2.1.1 x.1.2.1.2.1 x.1.2.1.2.2.1 x.1.2.1.2.2.2.1 x.1.2.1.2.2.2.2.1 x.1.2.2.1 x.1.2.2.2.1 x.1.2.2.2.2.1.1 x.1.2.2.2.2.1.2.1 x.1.2.2.2.2.1.2.2.1 x.1.2.2.2.2.1.2.2.2.1 x.1.2.2.2.2.1.2.2.2.2.1 x.2.1.1 x.2.1.2.1 x.2.1.2.2.1:=gq.lim λn=>(C.iG n).2.1
def C.lq:S.lq.ok X0 λx=>M.lq x.1.2.1.1 x.1.2.1.2.1 x.1.2.1.2.2.1 x.1.2.1.2.2.2.1 x.1.2.1.2.2.2.2.1 x.1.2.2.1.1 x.1.2.2.1.2.1 x.1.2.2.1.2.2.1 x.1.2.2.1.2.2.2.1 x.1.2.2.1.2.2.2.2.1 x.2.1.1 x.2.1.2.1 x.2.1.2.2.1:=gq.lim λn=>(C.iG n).2.2.1
def C.mG:S.mG.ok X0 λx=>M.mG x.1.2.1.1 x.1.2.1.2.1 x.1.2.1.2.2.1 x.1.2.1.2.2.2.1 x.1.2.1.2.2.2.2.1 x.1.2.2.1.1 x.1.2.2.1.2.1 x.1.2.2.1.2.2.1 x.1.2.2.1.2.2.2.1 x.1.2.2.1.2.2.2.2.1 x.2.1.1 x.2.1.2.1 x.2.1.2.2.1:=gq.lim λn=>(C.iG n).2.2.2.1
def C.oN:S.oN.ok X0 λx=>M.oN x.1.2.1.1 x.1.2.1.2.1 x.1.2.1.2.2.1 x.1.2.1.2.2.2.1 x.1.2.1.2.2.2.2.1 x.1.2.2.1.1 x.1.2.2.1.2.1 x.1.2.2.1.2.2.1 x.1.2.2.1.2.2.2.1 x.1.2.2.1.2.2.2.2.1 x.2.1.1 x.2.1.2.1 x.2.1.2.2.1:=gq.lim λn=>(C.iG n).2.2.2.2
def M.lD{R:Type}(s' VJ:aC)(k:Bool->Option R):Option R:=
 bif decide ((↑s'.length:Int)>=(↑VJ.length:Int)) then((cut s' 0 (↑VJ.length:Int)).bind λaCG=>(k (aCG==VJ))) else(k false)
def M.iF(s' VJ:aC):Option (Bool):=M.lD s' VJ some
def C.iF:S.iF.ok X0 λx=>M.iF x.1.1 x.1.2.1:=fnS (λx=>M.lD x.1.1 x.1.2.1) [] [] (by intros;simp only[M.lD,nb]<;>rfl)
def M.yI{R:Type}(s' VJ:aC)(k:Bool->Option R):Option R:=
 (M.iF s' VJ).bind λaCH=>(k aCH)
def M.strings_HasPrefix(s' VJ:aC):Option (Bool):=M.yI s' VJ some
def C.strings_HasPrefix:S.strings_HasPrefix.ok X0 λx=>M.strings_HasPrefix x.1.1 x.1.2.1:=fnS (λx=>M.yI x.1.1 x.1.2.1) [fe C.iF] [] (by intros;simp only[M.yI,nb]<;>rfl)
def M.IC{R:Type}(s':aC)(at':Int)(v16 aom v162 aon v164 aoo aop v167 v168 aoq ag1 ag2 ag3 ag4 ag5 ag6 ag7 ag8 ag9 aha ahb ahc ahd ahe ahf ahg ahh ahi ahj ahk ahl ahm ahn aho ahp ahq ahr ahs aht:aC)(s:Int×Int×Int)(kn:Int×Int×Int->Option R)(ke:Int×Int×Int->Option R):Option R:=match s with
 |(kind,most,v17)=>
 bif decide (v17<39) then
 (bif decide (0<=v17) && decide (v17<39) then
 ((cStr [D.str v16,D.str aom,D.str v162,D.str aon,D.str v164,D.str aoo,D.str aop,D.str v167,D.str v168,D.str aoq,D.str ag1,D.str ag2,D.str ag3,D.str ag4,D.str ag5,D.str ag6,D.str ag7,D.str ag8,D.str ag9,D.str aha,D.str ahb,D.str ahc,D.str ahd,D.str ahe,D.str ahf,D.str ahg,D.str ahh,D.str ahi,D.str ahj,D.str ahk,D.str ahl,D.str ahm,D.str ahn,D.str aho,D.str ahp,D.str ahq,D.str ahr,D.str ahs,D.str aht] v17.toNat).bind λaor=>
 (bif decide ((↑aor.length:Int)>most) then
 ((cut s' at' (↑s'.length:Int)).bind λaCI=>
 ((M.strings_HasPrefix aCI aor).bind λaCJ=>
 (bif aCJ then(kn ((i64.wrap (30+v17),(↑aor.length:Int),i64.wrap (v17+1)))) else(kn ((kind,most,i64.wrap (v17+1))))))) else(kn ((kind,most,i64.wrap (v17+1)))))) else none) else(ke ((kind,most,v17)))
def M.Rj(s':aC)(at':Int)(v16 aom v162 aon v164 aoo aop v167 v168 aoq ag1 ag2 ag3 ag4 ag5 ag6 ag7 ag8 ag9 aha ahb ahc ahd ahe ahf ahg ahh ahi ahj ahk ahl ahm ahn aho ahp ahq ahr ahs aht:aC)(s:Int×Int×Int):=M.IC s' at' v16 aom v162 aon v164 aoo aop v167 v168 aoq ag1 ag2 ag3 ag4 ag5 ag6 ag7 ag8 ag9 aha ahb ahc ahd ahe ahf ahg ahh ahi ahj ahk ahl ahm ahn aho ahp ahq ahr ahs aht s (λs=>some (Sum.inl s)) λt=>some (Sum.inr t)
def M.LY(s':aC)(at':Int)(v16 aom v162 aon v164 aoo aop v167 v168 aoq ag1 ag2 ag3 ag4 ag5 ag6 ag7 ag8 ag9 aha ahb ahc ahd ahe ahf ahg ahh ahi ahj ahk ahl ahm ahn aho ahp ahq ahr ahs aht:aC)(s:Int×Int×Int):Option (Int×Int×Int):=fF (M.Rj s' at' v16 aom v162 aon v164 aoo aop v167 v168 aoq ag1 ag2 ag3 ag4 ag5 ag6 ag7 ag8 ag9 aha ahb ahc ahd ahe ahf ahg ahh ahi ahj ahk ahl ahm ahn aho ahp ahq ahr ahs aht) s
def F.LY:LE X0 242:=le 5 (Gz [eP 0 pS,eP 1 pI,eP 6 pI,eP 7 pI,eP 16 (jy [pS,pS,pS,pS,pS,pS,pS,pS,pS,pS,pS,pS,pS,pS,pS,pS,pS,pS,pS,pS,pS,pS,pS,pS,pS,pS,pS,pS,pS,pS,pS,pS,pS,pS,pS,pS,pS,pS,pS]),eP 17 pI] []) (λx=>(x.1.2.2.1,x.1.2.2.2.1,x.1.2.2.2.2.2.1)) (λx s=>((x.1.1,x.1.2.1,s.1,s.2.1,(x.1.2.2.2.2.1.1,x.1.2.2.2.2.1.2.1,x.1.2.2.2.2.1.2.2.1,x.1.2.2.2.2.1.2.2.2.1,x.1.2.2.2.2.1.2.2.2.2.1,x.1.2.2.2.2.1.2.2.2.2.2.1,x.1.2.2.2.2.1.2.2.2.2.2.2.1,x.1.2.2.2.2.1.2.2.2.2.2.2.2.1,x.1.2.2.2.2.1.2.2.2.2.2.2.2.2.1,x.1.2.2.2.2.1.2.2.2.2.2.2.2.2.2.1,x.1.2.2.2.2.1.2.2.2.2.2.2.2.2.2.2.1,x.1.2.2.2.2.1.2.2.2.2.2.2.2.2.2.2.2.1,x.1.2.2.2.2.1.2.2.2.2.2.2.2.2.2.2.2.2.1,x.1.2.2.2.2.1.2.2.2.2.2.2.2.2.2.2.2.2.2.1,x.1.2.2.2.2.1.2.2.2.2.2.2.2.2.2.2.2.2.2.2.1,x.1.2.2.2.2.1.2.2.2.2.2.2.2.2.2.2.2.2.2.2.2.1,x.1.2.2.2.2.1.2.2.2.2.2.2.2.2.2.2.2.2.2.2.2.2.1,x.1.2.2.2.2.1.2.2.2.2.2.2.2.2.2.2.2.2.2.2.2.2.2.1,x.1.2.2.2.2.1.2.2.2.2.2.2.2.2.2.2.2.2.2.2.2.2.2.2.1,x.1.2.2.2.2.1.2.2.2.2.2.2.2.2.2.2.2.2.2.2.2.2.2.2.2.1,x.1.2.2.2.2.1.2.2.2.2.2.2.2.2.2.2.2.2.2.2.2.2.2.2.2.2.1,x.1.2.2.2.2.1.2.2.2.2.2.2.2.2.2.2.2.2.2.2.2.2.2.2.2.2.2.1,x.1.2.2.2.2.1.2.2.2.2.2.2.2.2.2.2.2.2.2.2.2.2.2.2.2.2.2.2.1,x.1.2.2.2.2.1.2.2.2.2.2.2.2.2.2.2.2.2.2.2.2.2.2.2.2.2.2.2.2.1,x.1.2.2.2.2.1.2.2.2.2.2.2.2.2.2.2.2.2.2.2.2.2.2.2.2.2.2.2.2.2.1,x.1.2.2.2.2.1.2.2.2.2.2.2.2.2.2.2.2.2.2.2.2.2.2.2.2.2.2.2.2.2.2.1,x.1.2.2.2.2.1.2.2.2.2.2.2.2.2.2.2.2.2.2.2.2.2.2.2.2.2.2.2.2.2.2.2.1,x.1.2.2.2.2.1.2.2.2.2.2.2.2.2.2.2.2.2.2.2.2.2.2.2.2.2.2.2.2.2.2.2.2.1,x.1.2.2.2.2.1.2.2.2.2.2.2.2.2.2.2.2.2.2.2.2.2.2.2.2.2.2.2.2.2.2.2.2.2.1,x.1.2.2.2.2.1.2.2.2.2.2.2.2.2.2.2.2.2.2.2.2.2.2.2.2.2.2.2.2.2.2.2.2.2.2.1,x.1.2.2.2.2.1.2.2.2.2.2.2.2.2.2.2.2.2.2.2.2.2.2.2.2.2.2.2.2.2.2.2.2.2.2.2.1,x.1.2.2.2.2.1.2.2.2.2.2.2.2.2.2.2.2.2.2.2.2.2.2.2.2.2.2.2.2.2.2.2.2.2.2.2.2.1,x.1.2.2.2.2.1.2.2.2.2.2.2.2.2.2.2.2.2.2.2.2.2.2.2.2.2.2.2.2.2.2.2.2.2.2.2.2.2.1,x.1.2.2.2.2.1.2.2.2.2.2.2.2.2.2.2.2.2.2.2.2.2.2.2.2.2.2.2.2.2.2.2.2.2.2.2.2.2.2.1,x.1.2.2.2.2.1.2.2.2.2.2.2.2.2.2.2.2.2.2.2.2.2.2.2.2.2.2.2.2.2.2.2.2.2.2.2.2.2.2.2.1,x.1.2.2.2.2.1.2.2.2.2.2.2.2.2.2.2.2.2.2.2.2.2.2.2.2.2.2.2.2.2.2.2.2.2.2.2.2.2.2.2.2.1,x.1.2.2.2.2.1.2.2.2.2.2.2.2.2.2.2.2.2.2.2.2.2.2.2.2.2.2.2.2.2.2.2.2.2.2.2.2.2.2.2.2.2.1,x.1.2.2.2.2.1.2.2.2.2.2.2.2.2.2.2.2.2.2.2.2.2.2.2.2.2.2.2.2.2.2.2.2.2.2.2.2.2.2.2.2.2.2.1,x.1.2.2.2.2.1.2.2.2.2.2.2.2.2.2.2.2.2.2.2.2.2.2.2.2.2.2.2.2.2.2.2.2.2.2.2.2.2.2.2.2.2.2.2.1,()),s.2.2,()),())) (λx=> .leaf (Int×Int×Int) (λt=>(Ex.exit 0,{tm:=[(0,V.d (D.str x.1.1)),(1,V.d (D.int .i64 x.1.2.1)),(6,V.d (D.int .i64 t.1)),(7,V.d (D.int .i64 t.2.1)),(16,V.agg [V.d (D.str x.1.2.2.2.2.1.1),V.d (D.str x.1.2.2.2.2.1.2.1),V.d (D.str x.1.2.2.2.2.1.2.2.1),V.d (D.str x.1.2.2.2.2.1.2.2.2.1),V.d (D.str x.1.2.2.2.2.1.2.2.2.2.1),V.d (D.str x.1.2.2.2.2.1.2.2.2.2.2.1),V.d (D.str x.1.2.2.2.2.1.2.2.2.2.2.2.1),V.d (D.str x.1.2.2.2.2.1.2.2.2.2.2.2.2.1),V.d (D.str x.1.2.2.2.2.1.2.2.2.2.2.2.2.2.1),V.d (D.str x.1.2.2.2.2.1.2.2.2.2.2.2.2.2.2.1),V.d (D.str x.1.2.2.2.2.1.2.2.2.2.2.2.2.2.2.2.1),V.d (D.str x.1.2.2.2.2.1.2.2.2.2.2.2.2.2.2.2.2.1),V.d (D.str x.1.2.2.2.2.1.2.2.2.2.2.2.2.2.2.2.2.2.1),V.d (D.str x.1.2.2.2.2.1.2.2.2.2.2.2.2.2.2.2.2.2.2.1),V.d (D.str x.1.2.2.2.2.1.2.2.2.2.2.2.2.2.2.2.2.2.2.2.1),V.d (D.str x.1.2.2.2.2.1.2.2.2.2.2.2.2.2.2.2.2.2.2.2.2.1),V.d (D.str x.1.2.2.2.2.1.2.2.2.2.2.2.2.2.2.2.2.2.2.2.2.2.1),V.d (D.str x.1.2.2.2.2.1.2.2.2.2.2.2.2.2.2.2.2.2.2.2.2.2.2.1),V.d (D.str x.1.2.2.2.2.1.2.2.2.2.2.2.2.2.2.2.2.2.2.2.2.2.2.2.1),V.d (D.str x.1.2.2.2.2.1.2.2.2.2.2.2.2.2.2.2.2.2.2.2.2.2.2.2.2.1),V.d (D.str x.1.2.2.2.2.1.2.2.2.2.2.2.2.2.2.2.2.2.2.2.2.2.2.2.2.2.1),V.d (D.str x.1.2.2.2.2.1.2.2.2.2.2.2.2.2.2.2.2.2.2.2.2.2.2.2.2.2.2.1),V.d (D.str x.1.2.2.2.2.1.2.2.2.2.2.2.2.2.2.2.2.2.2.2.2.2.2.2.2.2.2.2.1),V.d (D.str x.1.2.2.2.2.1.2.2.2.2.2.2.2.2.2.2.2.2.2.2.2.2.2.2.2.2.2.2.2.1),V.d (D.str x.1.2.2.2.2.1.2.2.2.2.2.2.2.2.2.2.2.2.2.2.2.2.2.2.2.2.2.2.2.2.1),V.d (D.str x.1.2.2.2.2.1.2.2.2.2.2.2.2.2.2.2.2.2.2.2.2.2.2.2.2.2.2.2.2.2.2.1),V.d (D.str x.1.2.2.2.2.1.2.2.2.2.2.2.2.2.2.2.2.2.2.2.2.2.2.2.2.2.2.2.2.2.2.2.1),V.d (D.str x.1.2.2.2.2.1.2.2.2.2.2.2.2.2.2.2.2.2.2.2.2.2.2.2.2.2.2.2.2.2.2.2.2.1),V.d (D.str x.1.2.2.2.2.1.2.2.2.2.2.2.2.2.2.2.2.2.2.2.2.2.2.2.2.2.2.2.2.2.2.2.2.2.1),V.d (D.str x.1.2.2.2.2.1.2.2.2.2.2.2.2.2.2.2.2.2.2.2.2.2.2.2.2.2.2.2.2.2.2.2.2.2.2.1),V.d (D.str x.1.2.2.2.2.1.2.2.2.2.2.2.2.2.2.2.2.2.2.2.2.2.2.2.2.2.2.2.2.2.2.2.2.2.2.2.1),V.d (D.str x.1.2.2.2.2.1.2.2.2.2.2.2.2.2.2.2.2.2.2.2.2.2.2.2.2.2.2.2.2.2.2.2.2.2.2.2.2.1),V.d (D.str x.1.2.2.2.2.1.2.2.2.2.2.2.2.2.2.2.2.2.2.2.2.2.2.2.2.2.2.2.2.2.2.2.2.2.2.2.2.2.1),V.d (D.str x.1.2.2.2.2.1.2.2.2.2.2.2.2.2.2.2.2.2.2.2.2.2.2.2.2.2.2.2.2.2.2.2.2.2.2.2.2.2.2.1),V.d (D.str x.1.2.2.2.2.1.2.2.2.2.2.2.2.2.2.2.2.2.2.2.2.2.2.2.2.2.2.2.2.2.2.2.2.2.2.2.2.2.2.2.1),V.d (D.str x.1.2.2.2.2.1.2.2.2.2.2.2.2.2.2.2.2.2.2.2.2.2.2.2.2.2.2.2.2.2.2.2.2.2.2.2.2.2.2.2.2.1),V.d (D.str x.1.2.2.2.2.1.2.2.2.2.2.2.2.2.2.2.2.2.2.2.2.2.2.2.2.2.2.2.2.2.2.2.2.2.2.2.2.2.2.2.2.2.1),V.d (D.str x.1.2.2.2.2.1.2.2.2.2.2.2.2.2.2.2.2.2.2.2.2.2.2.2.2.2.2.2.2.2.2.2.2.2.2.2.2.2.2.2.2.2.2.1),V.d (D.str x.1.2.2.2.2.1.2.2.2.2.2.2.2.2.2.2.2.2.2.2.2.2.2.2.2.2.2.2.2.2.2.2.2.2.2.2.2.2.2.2.2.2.2.2.1)]),(17,V.d (D.int .i64 t.2.2)),(18,V.d (D.bool false))],mem:=[]}))) (λx=>M.IC x.1.1 x.1.2.1 x.1.2.2.2.2.1.1 x.1.2.2.2.2.1.2.1 x.1.2.2.2.2.1.2.2.1 x.1.2.2.2.2.1.2.2.2.1 x.1.2.2.2.2.1.2.2.2.2.1 x.1.2.2.2.2.1.2.2.2.2.2.1 x.1.2.2.2.2.1.2.2.2.2.2.2.1 x.1.2.2.2.2.1.2.2.2.2.2.2.2.1 x.1.2.2.2.2.1.2.2.2.2.2.2.2.2.1 x.1.2.2.2.2.1.2.2.2.2.2.2.2.2.2.1 x.1.2.2.2.2.1.2.2.2.2.2.2.2.2.2.2.1 x.1.2.2.2.2.1.2.2.2.2.2.2.2.2.2.2.2.1 x.1.2.2.2.2.1.2.2.2.2.2.2.2.2.2.2.2.2.1 x.1.2.2.2.2.1.2.2.2.2.2.2.2.2.2.2.2.2.2.1 x.1.2.2.2.2.1.2.2.2.2.2.2.2.2.2.2.2.2.2.2.1 x.1.2.2.2.2.1.2.2.2.2.2.2.2.2.2.2.2.2.2.2.2.1 x.1.2.2.2.2.1.2.2.2.2.2.2.2.2.2.2.2.2.2.2.2.2.1 x.1.2.2.2.2.1.2.2.2.2.2.2.2.2.2.2.2.2.2.2.2.2.2.1 x.1.2.2.2.2.1.2.2.2.2.2.2.2.2.2.2.2.2.2.2.2.2.2.2.1 x.1.2.2.2.2.1.2.2.2.2.2.2.2.2.2.2.2.2.2.2.2.2.2.2.2.1 x.1.2.2.2.2.1.2.2.2.2.2.2.2.2.2.2.2.2.2.2.2.2.2.2.2.2.1 x.1.2.2.2.2.1.2.2.2.2.2.2.2.2.2.2.2.2.2.2.2.2.2.2.2.2.2.1 x.1.2.2.2.2.1.2.2.2.2.2.2.2.2.2.2.2.2.2.2.2.2.2.2.2.2.2.2.1 x.1.2.2.2.2.1.2.2.2.2.2.2.2.2.2.2.2.2.2.2.2.2.2.2.2.2.2.2.2.1 x.1.2.2.2.2.1.2.2.2.2.2.2.2.2.2.2.2.2.2.2.2.2.2.2.2.2.2.2.2.2.1 x.1.2.2.2.2.1.2.2.2.2.2.2.2.2.2.2.2.2.2.2.2.2.2.2.2.2.2.2.2.2.2.1 x.1.2.2.2.2.1.2.2.2.2.2.2.2.2.2.2.2.2.2.2.2.2.2.2.2.2.2.2.2.2.2.2.1 x.1.2.2.2.2.1.2.2.2.2.2.2.2.2.2.2.2.2.2.2.2.2.2.2.2.2.2.2.2.2.2.2.2.1 x.1.2.2.2.2.1.2.2.2.2.2.2.2.2.2.2.2.2.2.2.2.2.2.2.2.2.2.2.2.2.2.2.2.2.1 x.1.2.2.2.2.1.2.2.2.2.2.2.2.2.2.2.2.2.2.2.2.2.2.2.2.2.2.2.2.2.2.2.2.2.2.1 x.1.2.2.2.2.1.2.2.2.2.2.2.2.2.2.2.2.2.2.2.2.2.2.2.2.2.2.2.2.2.2.2.2.2.2.2.1 x.1.2.2.2.2.1.2.2.2.2.2.2.2.2.2.2.2.2.2.2.2.2.2.2.2.2.2.2.2.2.2.2.2.2.2.2.2.1 x.1.2.2.2.2.1.2.2.2.2.2.2.2.2.2.2.2.2.2.2.2.2.2.2.2.2.2.2.2.2.2.2.2.2.2.2.2.2.1 x.1.2.2.2.2.1.2.2.2.2.2.2.2.2.2.2.2.2.2.2.2.2.2.2.2.2.2.2.2.2.2.2.2.2.2.2.2.2.2.1 x.1.2.2.2.2.1.2.2.2.2.2.2.2.2.2.2.2.2.2.2.2.2.2.2.2.2.2.2.2.2.2.2.2.2.2.2.2.2.2.2.1 x.1.2.2.2.2.1.2.2.2.2.2.2.2.2.2.2.2.2.2.2.2.2.2.2.2.2.2.2.2.2.2.2.2.2.2.2.2.2.2.2.2.1 x.1.2.2.2.2.1.2.2.2.2.2.2.2.2.2.2.2.2.2.2.2.2.2.2.2.2.2.2.2.2.2.2.2.2.2.2.2.2.2.2.2.2.1 x.1.2.2.2.2.1.2.2.2.2.2.2.2.2.2.2.2.2.2.2.2.2.2.2.2.2.2.2.2.2.2.2.2.2.2.2.2.2.2.2.2.2.2.1 x.1.2.2.2.2.1.2.2.2.2.2.2.2.2.2.2.2.2.2.2.2.2.2.2.2.2.2.2.2.2.2.2.2.2.2.2.2.2.2.2.2.2.2.2.1) [fe C.strings_HasPrefix] [] (by rintro _ _ ⟨_,_,_⟩ _ _<;>simp only[M.IC,nb]<;>rfl)
def M.NV{R:Type}(s':aC)(at':Int)(k:Int×Int->Option R):Option R:=
 (M.cO at' 0 (i64.wrap ((↑s'.length:Int) - 1))).bind λaCK=>
 (bif !aCK then(k ((0,0))) else
 ((M.LY s' at' [123] [125] [40] [41] [91] [93] [44] [59] [43,61] [45,61] [42,61] [47,61] [37,61] [94,61] [124,124] [38,38] [33,126] [61,61] [60,61] [62,61] [33,61] [43,43] [45,45] [62,62] [61] [43] [45] [42] [47] [37] [94] [33] [62] [60] [124] [63] [58] [126] [36] ((0,0,0))).bind λarW=>(k ((arW.1,arW.2.1)))))
def M.qH(s':aC)(at':Int):Option (Int×Int):=M.NV s' at' some
def C.qH:S.qH.ok X0 λx=>M.qH x.1.1 x.1.2.1:=fnS (λx=>M.NV x.1.1 x.1.2.1) [fe C.cO] [F.LY] (by intros;simp only[M.NV,nb]<;>rfl)
def M.FQ{R:Type}(a:Int)(a1:aC)(a2 b:Int)(b1:aC)(b2:Int)(k:Bool->Option R):Option R:=
 bif a1==[] then(k false) else
 (bif b1==[] then(k false) else
 (bif a==2 then(k false) else
 (bif a==1 then(k false) else
 (bif b==1 then(k false) else
 ((idx a1 (i64.wrap ((↑a1.length:Int) - 1))).bind λaCL=>
 ((idx b1 0).bind λahu=>
 ((M.jE (i64.wrap (↑aCL.toNat:Int))).bind λaCM=>
 (bif aCM then
 ((M.jE (i64.wrap (↑ahu.toNat:Int))).bind λaCN=>
 (bif aCN then(k true) else
 (bif a==3 then
 ((M.jE (i64.wrap (↑ahu.toNat:Int))).bind λaCO=>
 (bif aCO then(k true) else
 (bif i64.wrap (↑ahu.toNat:Int)==46 then(k true) else
 (bif a==6 then
 (bif b==32 then(k true) else
 ((M.iy a).bind λaCP=>
 (bif !aCP then(k false) else
 (bif(a1.length+b1.length).ble 9223372036854775807 then
 ((M.qH (a1++b1) 0).bind λaCQ=>(k (decide (aCQ.2>(↑a1.length:Int))))) else none)))) else
 ((M.iy a).bind λaCR=>
 (bif !aCR then(k false) else
 (bif(a1.length+b1.length).ble 9223372036854775807 then
 ((M.qH (a1++b1) 0).bind λaCS=>(k (decide (aCS.2>(↑a1.length:Int))))) else none))))))) else
 (bif a==6 then
 (bif b==32 then(k true) else
 ((M.iy a).bind λaCT=>
 (bif !aCT then(k false) else
 (bif(a1.length+b1.length).ble 9223372036854775807 then
 ((M.qH (a1++b1) 0).bind λaCU=>(k (decide (aCU.2>(↑a1.length:Int))))) else none)))) else
 ((M.iy a).bind λaCV=>
 (bif !aCV then(k false) else
 (bif(a1.length+b1.length).ble 9223372036854775807 then
 ((M.qH (a1++b1) 0).bind λaCW=>(k (decide (aCW.2>(↑a1.length:Int))))) else none))))))) else
 (bif a==3 then
 ((M.jE (i64.wrap (↑ahu.toNat:Int))).bind λaCX=>
 (bif aCX then(k true) else
 (bif i64.wrap (↑ahu.toNat:Int)==46 then(k true) else
 (bif a==6 then
 (bif b==32 then(k true) else
 ((M.iy a).bind λaCY=>
 (bif !aCY then(k false) else
 (bif(a1.length+b1.length).ble 9223372036854775807 then
 ((M.qH (a1++b1) 0).bind λaCZ=>(k (decide (aCZ.2>(↑a1.length:Int))))) else none)))) else
 ((M.iy a).bind λaC0=>
 (bif !aC0 then(k false) else
 (bif(a1.length+b1.length).ble 9223372036854775807 then
 ((M.qH (a1++b1) 0).bind λaC1=>(k (decide (aC1.2>(↑a1.length:Int))))) else none))))))) else
 (bif a==6 then
 (bif b==32 then(k true) else
 ((M.iy a).bind λaC2=>
 (bif !aC2 then(k false) else
 (bif(a1.length+b1.length).ble 9223372036854775807 then
 ((M.qH (a1++b1) 0).bind λaC3=>(k (decide (aC3.2>(↑a1.length:Int))))) else none)))) else
 ((M.iy a).bind λaC4=>
 (bif !aC4 then(k false) else
 (bif(a1.length+b1.length).ble 9223372036854775807 then
 ((M.qH (a1++b1) 0).bind λaC5=>(k (decide (aC5.2>(↑a1.length:Int))))) else none)))))))))))))
def M.qZ(a:Int)(a1:aC)(a2 b:Int)(b1:aC)(b2:Int):Option (Bool):=M.FQ a a1 a2 b b1 b2 some
def C.qZ:S.qZ.ok X0 λx=>M.qZ x.1.1.1 x.1.1.2.1 x.1.1.2.2.1 x.1.2.1.1 x.1.2.1.2.1 x.1.2.1.2.2.1:=fnS (λx=>M.FQ x.1.1.1 x.1.1.2.1 x.1.1.2.2.1 x.1.2.1.1 x.1.2.1.2.1 x.1.2.1.2.2.1) [fe C.jE,fe C.iy,fe C.qH] [] (by intros;unfold M.FQ;repeat' first|with_reducible apply ig|with_reducible apply Ho|with_reducible apply Hq|with_reducible apply Hr|with_reducible apply Ht|(intro _)|apply ig|rfl)
def M.wC{R:Type}(fM:Int->Int->aC->aC->au->Int->Int->Bool->Bool->Bool->Bool->Option (Int×Int×aC×au×Int))(t' jr:Int)(kH nV:aC)(lZ:au)(p:Int)(p1 p2 p3 p4:Bool)(k:Int×Int×aC×au×Int->Option R):Option R:=
 (M.jf t' jr kH nV lZ 0 p p1 p2 p3 p4 [] [] false).bind λarX=>
 ((M.gZ jr).bind λaos=>
 ((M.iO jr).bind λaot=>
 ((idx arX.1 0).bind λaIK=>
 (arX.1[0]?.bind λaeN=>
 ((eu .i64 aeN 0).bind λaC6=>
 ((cStr aeN 1).bind λaC7=>
 ((eu .i64 aeN 2).bind λaC8=>
 ((M.qZ aot.1 aot.2.1 aot.2.2 aC6 aC7 aC8).bind λaC9=>
 (bif aC9 then
 (bif(aos.length+1).ble 9223372036854775807 then
 ((M.fE (aos++[32])).bind λaDa=>
 ((fM t' jr kH nV lZ 0 p p1 p2 p3 p4).bind λaDb=>
 ((M.iR ([lG aDa,lG aDb])).bind λaDc=>
 (k ((CJ aDc)))))) else none) else
 ((M.fE aos).bind λaDd=>
 ((fM t' jr kH nV lZ 0 p p1 p2 p3 p4).bind λaDe=>
 ((M.iR ([lG aDd,lG aDe])).bind λaDf=>
 (k ((CJ aDf)))))))))))))))
def C.Xv{fM:Int->Int->aC->aC->au->Int->Int->Bool->Bool->Bool->Bool->Option (Int×Int×aC×au×Int)}(Oj:S.zV.ok X0 λx=>fM x.1.1.1 x.1.1.2.1 x.1.1.2.2.1 x.1.1.2.2.2.1 x.1.1.2.2.2.2.1 x.1.2.1 x.1.2.2.1.1 x.1.2.2.1.2.1 x.1.2.2.1.2.2.1 x.1.2.2.1.2.2.2.1 x.1.2.2.1.2.2.2.2.1):S.yu.ok X0 λx=>M.wC fM x.1.1.1 x.1.1.2.1 x.1.1.2.2.1 x.1.1.2.2.2.1 x.1.1.2.2.2.2.1 x.1.2.1.1 x.1.2.1.2.1 x.1.2.1.2.2.1 x.1.2.1.2.2.2.1 x.1.2.1.2.2.2.2.1 some:=fnS (λx=>M.wC fM x.1.1.1 x.1.1.2.1 x.1.1.2.2.1 x.1.1.2.2.2.1 x.1.1.2.2.2.2.1 x.1.2.1.1 x.1.2.1.2.1 x.1.2.1.2.2.1 x.1.2.1.2.2.2.1 x.1.2.1.2.2.2.2.1) [fe C.jf,fe C.gZ,fe C.iO,fe C.qZ,fe C.fE,fe Oj,fe C.iR] [] (by intros;simp only[M.wC,lG,CJ];repeat' first|with_reducible apply ig|with_reducible apply Ho|with_reducible apply Hq|with_reducible apply Hr|with_reducible apply Ht|(intro _)|apply ig|rfl)
def M.fB{R:Type}(nO:au->Option (Int×Int×aC×au×Int))(fM:Int->Int->aC->aC->au->Int->Int->Bool->Bool->Bool->Bool->Option (Int×Int×aC×au×Int))(xM:Int->Int->aC->aC->au->Int->Bool->Bool->Bool->Bool->Option (Int×Int×aC×au×Int))(t' jr:Int)(kH nV:aC)(lZ:au)(p:Int)(p1 p2 p3 p4:Bool)(k:Int×Int×aC×au×Int->Option R):Option R:=
 bif t'==1 then
 ((M.fE kH).bind λaDg=>
 (k ((CJ aDg)))) else
 (bif t'==2 then
 ((M.fE kH).bind λaDh=>
 (k ((CJ aDh)))) else
 (bif t'==3 then
 ((M.fE kH).bind λaDi=>
 (k ((CJ aDi)))) else
 (bif t'==4 then
 ((M.fE kH).bind λaDj=>
 (k ((CJ aDj)))) else
 (bif t'==5 then
 (bif(kH.length+1).ble 9223372036854775807 then
 ((M.fE (kH++[91])).bind λaDk=>
 ((nO lZ).bind λaDl=>
 ((M.fE [93]).bind λaDm=>
 ((M.iR ([lG aDk,lG aDl,lG aDm])).bind λaDn=>
 (k ((CJ aDn))))))) else none) else
 (bif t'==7 then
 (bif(kH.length+1).ble 9223372036854775807 then
 ((M.fE (kH++[40])).bind λaDo=>
 ((nO lZ).bind λaDp=>
 ((M.fE [41]).bind λaDq=>
 ((M.iR ([lG aDo,lG aDp,lG aDq])).bind λaDr=>
 (k ((CJ aDr))))))) else none) else
 (bif t'==8 then
 (bif(kH.length+1).ble 9223372036854775807 then
 ((M.fE (kH++[40])).bind λaDs=>
 ((nO lZ).bind λaDt=>
 ((M.fE [41]).bind λaDu=>
 ((M.iR ([lG aDs,lG aDt,lG aDu])).bind λaDv=>
 (k ((CJ aDv))))))) else none) else
 (bif t'==9 then
 ((M.gZ jr).bind λaDw=>
 ((M.fE aDw).bind λaDx=>
 ((fM t' jr kH nV lZ 0 p p1 p2 p3 p4).bind λaDy=>
 ((M.iR ([lG aDx,lG aDy])).bind λaDz=>
 (k ((CJ aDz))))))) else
 (bif t'==10 then
 ((fM t' jr kH nV lZ 0 p p1 p2 p3 p4).bind λaDA=>
 ((M.gZ jr).bind λaDB=>
 ((M.fE aDB).bind λaDC=>
 ((M.iR ([lG aDA,lG aDC])).bind λaDD=>
 (k ((CJ aDD))))))) else
 (bif t'==6 then
 ((M.fE [36]).bind λaDE=>
 ((fM t' jr kH nV lZ 0 p p1 p2 p3 p4).bind λaDF=>
 ((M.iR ([lG aDE,lG aDF])).bind λaDG=>
 (k ((CJ aDG)))))) else
 (bif t'==11 then
 ((xM t' jr kH nV lZ p p1 p2 p3 p4).bind λaDH=>
 (k ((CJ aDH)))) else
 (bif t'==14 then
 ((fM t' jr kH nV lZ 0 p p1 p2 p3 p4).bind λaDI=>
 ((M.fE [32,63,32]).bind λaDJ=>
 ((fM t' jr kH nV lZ 1 p p1 p2 p3 p4).bind λaDK=>
 ((M.fE [32,58,32]).bind λaDL=>
 ((fM t' jr kH nV lZ 2 p p1 p2 p3 p4).bind λaDM=>
 ((M.iR ([lG aDI,lG aDJ,lG aDK,lG aDL,lG aDM])).bind λaDN=>
 (k ((CJ aDN))))))))) else
 (bif t'==13 then
 (bif decide ((↑lZ.length:Int)>1) then
 ((M.fE [40]).bind λaDO=>
 ((nO lZ).bind λaDP=>
 (bif(5+kH.length).ble 9223372036854775807 then
 ((M.fE ([41,32,105,110,32]++kH)).bind λaDQ=>
 ((M.iR ([lG aDO,lG aDP,lG aDQ])).bind λaDR=>
 (k ((CJ aDR))))) else none))) else
 ((fM t' jr kH nV lZ 0 p p1 p2 p3 p4).bind λaDS=>
 (bif(4+kH.length).ble 9223372036854775807 then
 ((M.fE ([32,105,110,32]++kH)).bind λaDT=>
 ((M.iR ([lG aDS,lG aDT])).bind λaDU=>
 (k ((CJ aDU))))) else none))) else
 ((fM t' jr kH nV lZ 0 p p1 p2 p3 p4).bind λVK=>
 ((fM t' jr kH nV lZ 1 p p1 p2 p3 p4).bind λVL=>
 (bif t'==12 then
 (bif jr==99 then
 ((M.fE [32]).bind λaDV=>
 ((M.iR ([lG VK,lG aDV,lG VL])).bind λaDW=>
 (k ((CJ aDW))))) else
 (bif t'==12 then
 (bif jr==45 then
 ((M.gZ jr).bind λarY=>
 (bif(1+arY.length).ble 9223372036854775807 then
 ((M.fE ([32]++arY)).bind λaDX=>
 (M.wo.bind λaDY=>
 ((M.iR ([lG VK,lG aDX,lG aDY,lG VL])).bind λahv=>
 ((M.wu ahv.1 ahv.2.1 ahv.2.2.1 (dI ahv.2.2.2.1) ahv.2.2.2.2).bind λahw=>
 ((M.sZ ahw.1 ahw.2.1 ahw.2.2.1 (dI ahw.2.2.2.1) ahw.2.2.2.2).bind λaDZ=>
 (k ((CJ aDZ)))))))) else none)) else
 (bif jr==44 then
 ((M.gZ jr).bind λarZ=>
 (bif(1+arZ.length).ble 9223372036854775807 then
 ((M.fE ([32]++arZ)).bind λaD0=>
 (M.wo.bind λaD1=>
 ((M.iR ([lG VK,lG aD0,lG aD1,lG VL])).bind λahx=>
 ((M.wu ahx.1 ahx.2.1 ahx.2.2.1 (dI ahx.2.2.2.1) ahx.2.2.2.2).bind λahy=>
 ((M.sZ ahy.1 ahy.2.1 ahy.2.2.1 (dI ahy.2.2.2.1) ahy.2.2.2.2).bind λaD2=>
 (k ((CJ aD2)))))))) else none)) else
 ((M.gZ jr).bind λaou=>
 (bif(1+aou.length).ble 9223372036854775807 then
 (bif(([32]++aou).length+1).ble 9223372036854775807 then
 ((M.fE ([32]++aou++[32])).bind λaD3=>
 ((M.iR ([lG VK,lG aD3,lG VL])).bind λaD4=>
 (k ((CJ aD4))))) else none) else none)))) else
 ((M.gZ jr).bind λaov=>
 (bif(1+aov.length).ble 9223372036854775807 then
 (bif(([32]++aov).length+1).ble 9223372036854775807 then
 ((M.fE ([32]++aov++[32])).bind λaD5=>
 ((M.iR ([lG VK,lG aD5,lG VL])).bind λaD6=>
 (k ((CJ aD6))))) else none) else none)))) else
 (bif t'==12 then
 (bif jr==45 then
 ((M.gZ jr).bind λar0=>
 (bif(1+ar0.length).ble 9223372036854775807 then
 ((M.fE ([32]++ar0)).bind λaD7=>
 (M.wo.bind λaD8=>
 ((M.iR ([lG VK,lG aD7,lG aD8,lG VL])).bind λahz=>
 ((M.wu ahz.1 ahz.2.1 ahz.2.2.1 (dI ahz.2.2.2.1) ahz.2.2.2.2).bind λahA=>
 ((M.sZ ahA.1 ahA.2.1 ahA.2.2.1 (dI ahA.2.2.2.1) ahA.2.2.2.2).bind λaD9=>
 (k ((CJ aD9)))))))) else none)) else
 (bif jr==44 then
 ((M.gZ jr).bind λar1=>
 (bif(1+ar1.length).ble 9223372036854775807 then
 ((M.fE ([32]++ar1)).bind λaEa=>
 (M.wo.bind λaEb=>
 ((M.iR ([lG VK,lG aEa,lG aEb,lG VL])).bind λahB=>
 ((M.wu ahB.1 ahB.2.1 ahB.2.2.1 (dI ahB.2.2.2.1) ahB.2.2.2.2).bind λahC=>
 ((M.sZ ahC.1 ahC.2.1 ahC.2.2.1 (dI ahC.2.2.2.1) ahC.2.2.2.2).bind λaEc=>
 (k ((CJ aEc)))))))) else none)) else
 ((M.gZ jr).bind λaow=>
 (bif(1+aow.length).ble 9223372036854775807 then
 (bif(([32]++aow).length+1).ble 9223372036854775807 then
 ((M.fE ([32]++aow++[32])).bind λaEd=>
 ((M.iR ([lG VK,lG aEd,lG VL])).bind λaEe=>
 (k ((CJ aEe))))) else none) else none)))) else
 ((M.gZ jr).bind λaox=>
 (bif(1+aox.length).ble 9223372036854775807 then
 (bif(([32]++aox).length+1).ble 9223372036854775807 then
 ((M.fE ([32]++aox++[32])).bind λaEf=>
 ((M.iR ([lG VK,lG aEf,lG VL])).bind λaEg=>
 (k ((CJ aEg))))) else none) else none))))))))))))))))))
def C.Y6{nO:au->Option (Int×Int×aC×au×Int)}{fM:Int->Int->aC->aC->au->Int->Int->Bool->Bool->Bool->Bool->Option (Int×Int×aC×au×Int)}{xM:Int->Int->aC->aC->au->Int->Bool->Bool->Bool->Bool->Option (Int×Int×aC×au×Int)}(aa8:S.Ac.ok X0 λx=>nO x.1.1)(Oj:S.zV.ok X0 λx=>fM x.1.1.1 x.1.1.2.1 x.1.1.2.2.1 x.1.1.2.2.2.1 x.1.1.2.2.2.2.1 x.1.2.1 x.1.2.2.1.1 x.1.2.2.1.2.1 x.1.2.2.1.2.2.1 x.1.2.2.1.2.2.2.1 x.1.2.2.1.2.2.2.2.1)(Y7:S.yu.ok X0 λx=>xM x.1.1.1 x.1.1.2.1 x.1.1.2.2.1 x.1.1.2.2.2.1 x.1.1.2.2.2.2.1 x.1.2.1.1 x.1.2.1.2.1 x.1.2.1.2.2.1 x.1.2.1.2.2.2.1 x.1.2.1.2.2.2.2.1):S.wU.ok X0 λx=>M.fB nO fM xM x.1.1.1 x.1.1.2.1 x.1.1.2.2.1 x.1.1.2.2.2.1 x.1.1.2.2.2.2.1 x.1.2.1.1 x.1.2.1.2.1 x.1.2.1.2.2.1 x.1.2.1.2.2.2.1 x.1.2.1.2.2.2.2.1 some:=fnS (λx=>M.fB nO fM xM x.1.1.1 x.1.1.2.1 x.1.1.2.2.1 x.1.1.2.2.2.1 x.1.1.2.2.2.2.1 x.1.2.1.1 x.1.2.1.2.1 x.1.2.1.2.2.1 x.1.2.1.2.2.2.1 x.1.2.1.2.2.2.2.1) [fe C.fE,fe aa8,fe C.iR,fe C.gZ,fe Oj,fe Y7,fe C.wo,fe C.wu,fe C.sZ] [] (by intros;simp only[M.fB,lG,CJ];repeat' first|with_reducible apply ig|with_reducible apply Ho|with_reducible apply Hq|with_reducible apply Hr|with_reducible apply Ht|(intro _)|apply ig|rfl)
def M.zk{R:Type}(jG:Int->Int->aC->aC->au->Int->Bool->Bool->Bool->Bool->Option (Int×Int×aC×au×Int))(t' jr:Int)(kH nV:aC)(lZ:au)(p:Int)(p1 p2 p3 p4:Bool)(k:Int×Int×aC×au×Int->Option R):Option R:=
 (M.jh t' jr kH nV lZ).bind λahD=>
 ((M.Bl ahD.1 ahD.2.1 ahD.2.2.1 ahD.2.2.2.1 ahD.2.2.2.2 p p1 p2 p3 p4).bind λaEh=>
 (bif aEh then
 ((jG t' jr kH nV lZ p p1 p2 p3 p4).bind λaEi=>
 (k ((CJ aEi)))) else
 ((M.fE [40]).bind λaEj=>
 (M.oM.bind λahE=>
 ((jG t' jr kH nV lZ ahE.1 ahE.2.1 ahE.2.2.1 ahE.2.2.2.1 ahE.2.2.2.2).bind λaEk=>
 ((M.fE [41]).bind λaEl=>
 ((M.iR ([lG aEj,lG aEk,lG aEl])).bind λaEm=>
 (k ((CJ aEm))))))))))
def C.Y8{jG:Int->Int->aC->aC->au->Int->Bool->Bool->Bool->Bool->Option (Int×Int×aC×au×Int)}(Np:S.wU.ok X0 λx=>jG x.1.1.1 x.1.1.2.1 x.1.1.2.2.1 x.1.1.2.2.2.1 x.1.1.2.2.2.2.1 x.1.2.1.1 x.1.2.1.2.1 x.1.2.1.2.2.1 x.1.2.1.2.2.2.1 x.1.2.1.2.2.2.2.1):S.kM.ok X0 λx=>M.zk jG x.1.1.1 x.1.1.2.1 x.1.1.2.2.1 x.1.1.2.2.2.1 x.1.1.2.2.2.2.1 x.1.2.1.1 x.1.2.1.2.1 x.1.2.1.2.2.1 x.1.2.1.2.2.2.1 x.1.2.1.2.2.2.2.1 some:=fnS (λx=>M.zk jG x.1.1.1 x.1.1.2.1 x.1.1.2.2.1 x.1.1.2.2.2.1 x.1.1.2.2.2.2.1 x.1.2.1.1 x.1.2.1.2.1 x.1.2.1.2.2.1 x.1.2.1.2.2.2.1 x.1.2.1.2.2.2.2.1) [fe C.jh,fe C.Bl,fe Np,fe C.fE,fe C.oM,fe C.iR] [] (by intros;simp only[M.zk,lG,CJ];repeat' first|with_reducible apply ig|with_reducible apply Ho|with_reducible apply Hq|with_reducible apply Hr|with_reducible apply Ht|(intro _)|apply ig|rfl)
def M.kC:Nat->(Int->Int->aC->aC->au->Int->Bool->Bool->Bool->Bool->Option (Int×Int×aC×au×Int))×(au->Option (Int×Int×aC×au×Int))×(Int->Int->aC->aC->au->Int->Int->Bool->Bool->Bool->Bool->Option (Int×Int×aC×au×Int))×(Int->Int->aC->aC->au->Int->Bool->Bool->Bool->Bool->Option (Int×Int×aC×au×Int))×(Int->Int->aC->aC->au->Int->Bool->Bool->Bool->Bool->Option (Int×Int×aC×au×Int)):=
 Nat.rec (λ_ _ _ _ _ _ _ _ _ _=>none,λ_=>none,λ_ _ _ _ _ _ _ _ _ _ _=>none,λ_ _ _ _ _ _ _ _ _ _=>none,λ_ _ _ _ _ _ _ _ _ _=>none) λ_ qz=>(λt' jr kH nV lZ p p1 p2 p3 p4=>M.zk qz.2.2.2.2 t' jr kH nV lZ p p1 p2 p3 p4 some,λkids=>M.zi qz.1 kids some,λt' jr kH nV lZ k' p p1 p2 p3 p4=>M.Bq qz.2.2.2.2 qz.1 t' jr kH nV lZ k' p p1 p2 p3 p4 some,λt' jr kH nV lZ p p1 p2 p3 p4=>M.wC qz.2.2.1 t' jr kH nV lZ p p1 p2 p3 p4 some,λt' jr kH nV lZ p p1 p2 p3 p4=>M.fB qz.2.1 qz.2.2.1 qz.2.2.2.1 t' jr kH nV lZ p p1 p2 p3 p4 some)
def M.vC(n:Nat):Int->Int->aC->aC->au->Int->Bool->Bool->Bool->Bool->Option (Int×Int×aC×au×Int):=(M.kC n).1
def M.Dl(n:Nat):au->Option (Int×Int×aC×au×Int):=(M.kC n).2.1
def M.yw(n:Nat):Int->Int->aC->aC->au->Int->Int->Bool->Bool->Bool->Bool->Option (Int×Int×aC×au×Int):=(M.kC n).2.2.1
def M.A8(n:Nat):Int->Int->aC->aC->au->Int->Bool->Bool->Bool->Bool->Option (Int×Int×aC×au×Int):=(M.kC n).2.2.2.1
def M.zl(n:Nat):Int->Int->aC->aC->au->Int->Bool->Bool->Bool->Bool->Option (Int×Int×aC×au×Int):=(M.kC n).2.2.2.2
def M.aa9(n:Nat):M.vC (n+1)=λt' jr kH nV lZ p p1 p2 p3 p4=>M.zk (M.zl n) t' jr kH nV lZ p p1 p2 p3 p4 some:=rfl
def M.abb(n:Nat):M.Dl (n+1)=λkids=>M.zi (M.vC n) kids some:=rfl
def M.acE(n:Nat):M.yw (n+1)=λt' jr kH nV lZ k' p p1 p2 p3 p4=>M.Bq (M.zl n) (M.vC n) t' jr kH nV lZ k' p p1 p2 p3 p4 some:=rfl
def M.Y9(n:Nat):M.A8 (n+1)=λt' jr kH nV lZ p p1 p2 p3 p4=>M.wC (M.yw n) t' jr kH nV lZ p p1 p2 p3 p4 some:=rfl
def M.abd(n:Nat):M.zl (n+1)=λt' jr kH nV lZ p p1 p2 p3 p4=>M.fB (M.Dl n) (M.yw n) (M.A8 n) t' jr kH nV lZ p p1 p2 p3 p4 some:=rfl
def M.kM(t' jr:Int)(kH nV:aC)(lZ:au)(p:Int)(p1 p2 p3 p4:Bool):Option (Int×Int×aC×au×Int):=lim λn=>M.vC n t' jr kH nV lZ p p1 p2 p3 p4
def M.Ac(kids:au):Option (Int×Int×aC×au×Int):=lim λn=>M.Dl n kids
def M.zV(t' jr:Int)(kH nV:aC)(lZ:au)(k' p:Int)(p1 p2 p3 p4:Bool):Option (Int×Int×aC×au×Int):=lim λn=>M.yw n t' jr kH nV lZ k' p p1 p2 p3 p4
def M.yu(t' jr:Int)(kH nV:aC)(lZ:au)(p:Int)(p1 p2 p3 p4:Bool):Option (Int×Int×aC×au×Int):=lim λn=>M.A8 n t' jr kH nV lZ p p1 p2 p3 p4
def M.wU(t' jr:Int)(kH nV:aC)(lZ:au)(p:Int)(p1 p2 p3 p4:Bool):Option (Int×Int×aC×au×Int):=lim λn=>M.zl n t' jr kH nV lZ p p1 p2 p3 p4
def C.kC:∀n,(S.kM.ok X0 λx=>M.vC n x.1.1.1 x.1.1.2.1 x.1.1.2.2.1 x.1.1.2.2.2.1 x.1.1.2.2.2.2.1 x.1.2.1.1 x.1.2.1.2.1 x.1.2.1.2.2.1 x.1.2.1.2.2.2.1 x.1.2.1.2.2.2.2.1)∧(S.Ac.ok X0 λx=>M.Dl n x.1.1)∧(S.zV.ok X0 λx=>M.yw n x.1.1.1 x.1.1.2.1 x.1.1.2.2.1 x.1.1.2.2.2.1 x.1.1.2.2.2.2.1 x.1.2.1 x.1.2.2.1.1 x.1.2.2.1.2.1 x.1.2.2.1.2.2.1 x.1.2.2.1.2.2.2.1 x.1.2.2.1.2.2.2.2.1)∧(S.yu.ok X0 λx=>M.A8 n x.1.1.1 x.1.1.2.1 x.1.1.2.2.1 x.1.1.2.2.2.1 x.1.1.2.2.2.2.1 x.1.2.1.1 x.1.2.1.2.1 x.1.2.1.2.2.1 x.1.2.1.2.2.2.1 x.1.2.1.2.2.2.2.1)∧(S.wU.ok X0 λx=>M.zl n x.1.1.1 x.1.1.2.1 x.1.1.2.2.1 x.1.1.2.2.2.1 x.1.1.2.2.2.2.1 x.1.2.1.1 x.1.2.1.2.1 x.1.2.1.2.2.1 x.1.2.1.2.2.2.1 x.1.2.1.2.2.2.2.1)
 |0=>⟨gq.zero,gq.zero,gq.zero,gq.zero,gq.zero⟩
 |n+1=>have h:=C.kC n;⟨C.Y8 h.2.2.2.2,C.Y5 h.1,C.aa7 h.2.2.2.2 h.1,C.Xv h.2.2.1,C.Y6 h.2.1 h.2.2.1 h.2.2.2.1⟩
def C.kM:S.kM.ok X0 λx=>M.kM x.1.1.1 x.1.1.2.1 x.1.1.2.2.1 x.1.1.2.2.2.1 x.1.1.2.2.2.2.1 x.1.2.1.1 x.1.2.1.2.1 x.1.2.1.2.2.1 x.1.2.1.2.2.2.1 x.1.2.1.2.2.2.2.1:=gq.lim λn=>(C.kC n).1
def M.Za{n:Nat}{t' jr:Int}{kH nV:aC}{lZ:au}{p:Int}{p1 p2 p3 p4:Bool}{r:Int×Int×aC×au×Int}(h:M.vC n t' jr kH nV lZ p p1 p2 p3 p4=some r):M.kM t' jr kH nV lZ p p1 p2 p3 p4=some r:=
 gq.Hl (λn=>(C.kC n).1) (by intro a b h;simp[S.kM,sg] at h;first|exact h|simp[Prod.ext_iff,h]) (x:=(((t',jr,kH,nV,lZ,()),(p,p1,p2,p3,p4,()),()),())) h
def C.Ac:S.Ac.ok X0 λx=>M.Ac x.1.1:=gq.lim λn=>(C.kC n).2.1
def C.zV:S.zV.ok X0 λx=>M.zV x.1.1.1 x.1.1.2.1 x.1.1.2.2.1 x.1.1.2.2.2.1 x.1.1.2.2.2.2.1 x.1.2.1 x.1.2.2.1.1 x.1.2.2.1.2.1 x.1.2.2.1.2.2.1 x.1.2.2.1.2.2.2.1 x.1.2.2.1.2.2.2.2.1:=gq.lim λn=>(C.kC n).2.2.1
def C.yu:S.yu.ok X0 λx=>M.yu x.1.1.1 x.1.1.2.1 x.1.1.2.2.1 x.1.1.2.2.2.1 x.1.1.2.2.2.2.1 x.1.2.1.1 x.1.2.1.2.1 x.1.2.1.2.2.1 x.1.2.1.2.2.2.1 x.1.2.1.2.2.2.2.1:=gq.lim λn=>(C.kC n).2.2.2.1
def C.wU:S.wU.ok X0 λx=>M.wU x.1.1.1 x.1.1.2.1 x.1.1.2.2.1 x.1.1.2.2.2.1 x.1.1.2.2.2.2.1 x.1.2.1.1 x.1.2.1.2.1 x.1.2.1.2.2.1 x.1.2.1.2.2.2.1 x.1.2.1.2.2.2.2.1:=gq.lim λn=>(C.kC n).2.2.2.2
def M.oV{R:Type}(iH:Int->Int->aC->au->Int->au->Option (au))(s:(au×Int×Int×au×Int×Int×aC)⊕(au×Int×Int×au×Int×Int×aC×au))(kn:(au×Int×Int×au×Int×Int×aC)⊕(au×Int×Int×au×Int×Int×aC×au)->Option R)(ke:(au×Int×Int×au×Int×Int×aC)⊕(au×Int×Int×au×Int×Int×aC×au)->Option R):Option R:=match s with
 | .inl ((v16,v17,v18,x',mM,nY,zy))=>
 bif decide (v18<v17) then
 ((idx v16 v18).bind λVN=>
 ((eu .i64 VN 0).bind λaEn=>
 ((eu .i64 VN 1).bind λaEo=>
 ((cStr VN 2).bind λaEp=>
 ((LC 5 VN 3).bind λaoy=>
 ((eu .i64 VN 4).bind λaEq=>
 ((iH aEn aEo aEp aoy aEq x').bind λar2=>
 (kn (.inr ((v16,v17,i64.wrap (v18+1),ar2,mM,nY,zy,[[D.int .i64 (i64.wrap ((↑ar2.length:Int) - 1))]]))))))))))) else(ke (.inl ((v16,v17,v18,x',mM,nY,zy))))
 | .inr ((v16,v17,v18,x',mM,nY,zy,BO))=>
 bif decide (v18<v17) then
 ((idx v16 v18).bind λVO=>
 ((eu .i64 VO 0).bind λaEr=>
 ((eu .i64 VO 1).bind λaEs=>
 ((cStr VO 2).bind λaEt=>
 ((LC 5 VO 3).bind λaoz=>
 ((eu .i64 VO 4).bind λaEu=>
 ((iH aEr aEs aEt aoz aEu x').bind λar4=>
 (jA BO [[D.int .i64 (i64.wrap ((↑ar4.length:Int) - 1))]] 8 λza=>(kn (.inr ((v16,v17,i64.wrap (v18+1),ar4,mM,nY,zy,za)))))))))))) else(ke (.inr ((v16,v17,v18,x',mM,nY,zy,BO))))
def M.sH(iH:Int->Int->aC->au->Int->au->Option (au))(s:(au×Int×Int×au×Int×Int×aC)⊕(au×Int×Int×au×Int×Int×aC×au)):=M.oV iH s (λs=>some (Sum.inl s)) λt=>some (Sum.inr t)
def M.FT(iH:Int->Int->aC->au->Int->au->Option (au))(s:(au×Int×Int×au×Int×Int×aC)⊕(au×Int×Int×au×Int×Int×aC×au)):Option ((au×Int×Int×au×Int×Int×aC)⊕(au×Int×Int×au×Int×Int×aC×au)):=fF (M.sH iH) s
def F.FT{iH:Int->Int->aC->au->Int->au->Option (au)}(Nq:S.ni.ok X0 λx=>iH x.1.1.1 x.1.1.2.1 x.1.1.2.2.1 x.1.1.2.2.2.1 x.1.1.2.2.2.2.1 x.1.2.1):LE X0 89:=le 3 (pOr (Gz [eP 1 (pO 300000 0),eP 5 (pP 300001 0),eP 16 (pL false 5),eP 17 pI,eP 18 pI] [eP 300000 (cA false false 0 4),eP 300001 (cB 58 [pI,pI,pS,YT 1])]) (Gz [eP 1 (pO 300000 0),eP 5 (pP 300001 0),eP 16 (pL false 5),eP 17 pI,eP 18 pI] [eP 300000 (cA false false 0 4),eP 300001 (cB 58 [pI,pI,pS,pO 300002 0]),eP 300002 (cA false true 0 1)])) (σ:=(au×Int×Int×au×Int×Int×aC)⊕(au×Int×Int×au×Int×Int×aC×au)) (λx=>(match x with| .inl x=> .inl ((x.1.2.2.1,x.1.2.2.2.1,x.1.2.2.2.2.1,x.2.1,x.2.2.1.1,x.2.2.1.2.1,x.2.2.1.2.2.1))| .inr x=> .inr ((x.1.2.2.1,x.1.2.2.2.1,x.1.2.2.2.2.1,x.2.1,x.2.2.1.1,x.2.2.1.2.1,x.2.2.1.2.2.1,x.2.2.2.1)))) (λx s=>(match s with| .inl s=> .inl ((((),(),s.1,s.2.1,s.2.2.1,()),(s.2.2.2.1,(s.2.2.2.2.1,s.2.2.2.2.2.1,s.2.2.2.2.2.2,(),()),())))| .inr s=> .inr ((((),(),s.1,s.2.1,s.2.2.1,()),(s.2.2.2.1,(s.2.2.2.2.1,s.2.2.2.2.2.1,s.2.2.2.2.2.2.1,(),()),s.2.2.2.2.2.2.2,()))))) (λx=> .sum (.leaf (au×Int×Int×au×Int×Int×aC) (λt=>(Ex.exit 0,{tm:=[(1,V.own 300000 0),(5,V.ptr 300001 0),(16,V.d (D.sl false 5 t.1)),(17,V.d (D.int .i64 t.2.1)),(18,V.d (D.int .i64 t.2.2.1)),(19,V.d (D.bool false))],mem:=[(300000,Cell.arr false false 0 4 t.2.2.2.1),(300001,Cell.box 58 [V.d (D.int .i64 t.2.2.2.2.1),V.d (D.int .i64 t.2.2.2.2.2.1),V.d (D.str t.2.2.2.2.2.2),V.nil 1])]}))) (.leaf (au×Int×Int×au×Int×Int×aC×au) (λt=>(Ex.exit 0,{tm:=[(1,V.own 300000 0),(5,V.ptr 300001 0),(16,V.d (D.sl false 5 t.1)),(17,V.d (D.int .i64 t.2.1)),(18,V.d (D.int .i64 t.2.2.1)),(19,V.d (D.bool false))],mem:=[(300000,Cell.arr false false 0 4 t.2.2.2.1),(300001,Cell.box 58 [V.d (D.int .i64 t.2.2.2.2.1),V.d (D.int .i64 t.2.2.2.2.2.1),V.d (D.str t.2.2.2.2.2.2.1),V.own 300002 0]),(300002,Cell.arr false true 0 1 t.2.2.2.2.2.2.2)]})))) (λx=>M.oV iH) [fe Nq] [] (by rintro _ _ (⟨_,_,_,_,_,_,_⟩|⟨_,_,_,_,_,_,_,_⟩) _ _<;>simp only[jA,M.oV,nb]<;>rfl) (hE:=by intro _ _ s _;rcases s with s|s<;>kernel_rfl)
def M.Dn{R:Type}(iH:Int->Int->aC->au->Int->au->Option (au))(d d1:Int)(d2:aC)(d3:au)(d4:Int)(l:au)(k:au->Option R):Option R:=
 (M.FT iH (.inl ((d3,(↑d3.length:Int),0,l,d,d1,d2)))).bind λaEv=>
 nX aEv (λakn=>
 (jA akn.2.2.2.1 [[D.int .i64 akn.2.2.2.2.1,D.int .i64 akn.2.2.2.2.2.1,D.str akn.2.2.2.2.2.2,D.sl true 1 []]] 56 λza=>(k za))) λaEw=>
 letE aEw λadz=>
 (bif aA adz.2.2.2.2.2.2.2 then
 (jA adz.2.2.2.1 [[D.int .i64 adz.2.2.2.2.1,D.int .i64 adz.2.2.2.2.2.1,D.str adz.2.2.2.2.2.2.1,D.sl true 1 adz.2.2.2.2.2.2.2]] 56 λza=>(k za)) else none)
def M.jO:Nat->Int->Int->aC->au->Int->au->Option (au)
 |0=>λ_ _ _ _ _ _=>none
 |n+1=>λd d1 d2 d3 d4 l=>M.Dn (M.jO n) d d1 d2 d3 d4 l some
def M.ni(d d1:Int)(d2:aC)(d3:au)(d4:Int)(l:au):Option (au):=lim λn=>M.jO n d d1 d2 d3 d4 l
def C.Zb{iH:Int->Int->aC->au->Int->au->Option (au)}(Nq:S.ni.ok X0 λx=>iH x.1.1.1 x.1.1.2.1 x.1.1.2.2.1 x.1.1.2.2.2.1 x.1.1.2.2.2.2.1 x.1.2.1):S.ni.ok X0 λx=>M.Dn iH x.1.1.1 x.1.1.2.1 x.1.1.2.2.1 x.1.1.2.2.2.1 x.1.1.2.2.2.2.1 x.1.2.1 some:=fnS (λx=>M.Dn iH x.1.1.1 x.1.1.2.1 x.1.1.2.2.1 x.1.1.2.2.2.1 x.1.1.2.2.2.2.1 x.1.2.1) [] [F.FT Nq] (by intros;simp only[jA,M.Dn,nb]<;>rfl)
def C.jO:∀n,S.ni.ok X0 λx=>M.jO n x.1.1.1 x.1.1.2.1 x.1.1.2.2.1 x.1.1.2.2.2.1 x.1.1.2.2.2.2.1 x.1.2.1
 |0=>gq.zero
 |n+1=>C.Zb (C.jO n)
def C.ni:S.ni.ok X0 λx=>M.ni x.1.1.1 x.1.1.2.1 x.1.1.2.2.1 x.1.1.2.2.2.1 x.1.1.2.2.2.2.1 x.1.2.1:=gq.lim C.jO
def M.Zc{n:Nat}{d d1:Int}{d2:aC}{d3:au}{d4:Int}{l r:au}(h:M.jO n d d1 d2 d3 d4 l=some r):M.ni d d1 d2 d3 d4 l=some r:=
 gq.Hl C.jO (by intro a b h;simp[S.ni,sg] at h;first|exact h|simp[Prod.ext_iff,h]) (x:=(((d,d1,d2,d3,d4,()),l,()),())) h
def M.FU{R:Type}(d d1:Int)(d2:aC)(d3:au)(d4:Int)(k:au->Option R):Option R:=
 (M.ni d d1 d2 d3 d4 []).bind λaEx=>(k aEx)
def M.uI(d d1:Int)(d2:aC)(d3:au)(d4:Int):Option (au):=M.FU d d1 d2 d3 d4 some
def C.uI:S.uI.ok X0 λx=>M.uI x.1.1.1 x.1.1.2.1 x.1.1.2.2.1 x.1.1.2.2.2.1 x.1.1.2.2.2.2.1:=fnS (λx=>M.FU x.1.1.1 x.1.1.2.1 x.1.1.2.2.1 x.1.1.2.2.2.1 x.1.1.2.2.2.2.1) [fe C.ni] [] (by intros;simp only[M.FU,nb]<;>rfl)
def M.zn{R:Type}(a b:au)(s:Int)(kn:Int->Option R)(ke:(Unit)⊕(Int)->Option R):Option R:=match s with
 |i=>
 bif decide (i<(↑a.length:Int)) then
 ((idx a i).bind λaqJ=>
 ((eu .i64 aqJ 0).bind λaEy=>
 ((idx b i).bind λaqK=>
 ((eu .i64 aqK 0).bind λaEz=>(bif aEy !=aEz then(ke (.inl ())) else(kn (i64.wrap (i+1)))))))) else(ke (.inr i))
def M.Ee(a b:au)(s:Int):=M.zn a b s (λs=>some (Sum.inl s)) λt=>some (Sum.inr t)
def M.IE(a b:au)(s:Int):Option ((Unit)⊕(Int)):=fF (M.Ee a b) s
def F.IE:LE X0 90:=le 4 (Gz [eP 0 (pL false 1),eP 1 (pL false 1),eP 5 pI] []) (λx=>x.1.2.2.1) (λx s=>((x.1.1,x.1.2.1,s,()),())) (λx=> .sum (.leaf (Unit) (λt=>(Ex.ret,{tm:=[(4,V.d (D.bool false))],mem:=[]}))) (.leaf (Int) (λt=>(Ex.exit 0,{tm:=[(0,V.d (D.sl false 1 x.1.1)),(1,V.d (D.sl false 1 x.1.2.1)),(5,V.d (D.int .i64 t)),(14,V.d (D.bool false))],mem:=[]})))) (λx=>M.zn x.1.1 x.1.2.1) [] [] (by rintro _ _ _ _ _<;>simp only[M.zn,nb]<;>rfl)
def M.Kw{R:Type}(a b:au)(k:Bool->Option R):Option R:=
 bif(↑a.length:Int) !=(↑b.length:Int) then(k false) else
 ((M.IE a b 0).bind λaEA=>
 nX aEA (λaRi=>(k false)) λaEB=>
 letE aEB λaRj=>(k true))
def M.zW(a b:au):Option (Bool):=M.Kw a b some
def C.zW:S.zW.ok X0 λx=>M.zW x.1.1 x.1.2.1:=fnS (λx=>M.Kw x.1.1 x.1.2.1) [] [F.IE] (by intros;simp only[M.Kw,nb]<;>rfl)
def M.Ky{R:Type}(a a1:Int)(a2 a3:aC)(a4:au)(b b1:Int)(b2 b3:aC)(b4:au)(k:Bool->Option R):Option R:=
 bif a !=b then(k false) else
 (bif a1 !=b1 then(k false) else
 (bif !a2==b2 then(k false) else
 (bif !a3==b3 then(k false) else((M.zW a4 b4).bind λaEC=>(bif !aEC then(k false) else(k true))))))
def M.zX(a a1:Int)(a2 a3:aC)(a4:au)(b b1:Int)(b2 b3:aC)(b4:au):Option (Bool):=M.Ky a a1 a2 a3 a4 b b1 b2 b3 b4 some
def C.zX:S.zX.ok X0 λx=>M.zX x.1.1.1 x.1.1.2.1 x.1.1.2.2.1 x.1.1.2.2.2.1 x.1.1.2.2.2.2.1 x.1.2.1.1 x.1.2.1.2.1 x.1.2.1.2.2.1 x.1.2.1.2.2.2.1 x.1.2.1.2.2.2.2.1:=fnS (λx=>M.Ky x.1.1.1 x.1.1.2.1 x.1.1.2.2.1 x.1.1.2.2.2.1 x.1.1.2.2.2.2.1 x.1.2.1.1 x.1.2.1.2.1 x.1.2.1.2.2.1 x.1.2.1.2.2.2.1 x.1.2.1.2.2.2.2.1) [fe C.zW] [] (by intros;simp only[M.Ky,nb]<;>rfl)
def M.xO{R:Type}(a b:au)(s:Int)(kn:Int->Option R)(ke:(Unit)⊕(Int)->Option R):Option R:=match s with
 |i=>
 bif decide (i<(↑a.length:Int)) then
 ((idx a i).bind λaqL=>
 (rJ 1 aqL λaED aEE aEF aEG aoA=>
 ((idx b i).bind λaqM=>
 (rJ 1 aqM λaEH aEI aEJ aEK aoB=>
 ((M.zX aED aEE aEF aEG aoA aEH aEI aEJ aEK aoB).bind λaEL=>(bif !aEL then(ke (.inl ())) else(kn (i64.wrap (i+1))))))))) else(ke (.inr i))
def M.Cc(a b:au)(s:Int):=M.xO a b s (λs=>some (Sum.inl s)) λt=>some (Sum.inr t)
def M.FV(a b:au)(s:Int):Option ((Unit)⊕(Int)):=fF (M.Cc a b) s
def F.FV:LE X0 14:=le 4 (Gz [eP 0 (pL false 5),eP 1 (pL false 5),eP 5 pI] []) (λx=>x.1.2.2.1) (λx s=>((x.1.1,x.1.2.1,s,()),())) (λx=> .sum (.leaf (Unit) (λt=>(Ex.ret,{tm:=[(4,V.d (D.bool false))],mem:=[]}))) (.leaf (Int) (λt=>(Ex.exit 0,{tm:=[(0,V.d (D.sl false 5 x.1.1)),(1,V.d (D.sl false 5 x.1.2.1)),(5,V.d (D.int .i64 t)),(14,V.d (D.bool false))],mem:=[]})))) (λx=>M.xO x.1.1 x.1.2.1) [fe C.zX] [] (by rintro _ _ _ _ _<;>simp only[rJ,M.xO,nb]<;>rfl)
def M.IG{R:Type}(a b:au)(k:Bool->Option R):Option R:=
 bif(↑a.length:Int) !=(↑b.length:Int) then(k false) else
 ((M.FV a b 0).bind λaEM=>
 nX aEM (λaRk=>(k false)) λaEN=>
 letE aEN λaRl=>(k true))
def M.wV(a b:au):Option (Bool):=M.IG a b some
def C.wV:S.wV.ok X0 λx=>M.wV x.1.1 x.1.2.1:=fnS (λx=>M.IG x.1.1 x.1.2.1) [] [F.FV] (by intros;simp only[M.IG,nb]<;>rfl)
def M.Gm{R:Type}(s:Int×aC)(kn:Int×aC->Option R)(ke:Int×aC->Option R):Option R:=match s with
 |(k',out')=>
 bif decide (k'>0) then
 (bif([UInt8.ofNat (IntKind.u8.wrap (i64.wrap (48+k'.tmod 10))).toNat].length+out'.length).ble 9223372036854775807 then
 (kn ((i64.wrap (k'.tdiv 10),[UInt8.ofNat (IntKind.u8.wrap (i64.wrap (48+k'.tmod 10))).toNat]++out'))) else none) else(ke ((k',out')))
def M.UN(s:Int×aC):=M.Gm s (λs=>some (Sum.inl s)) λt=>some (Sum.inr t)
def M.JD(s:Int×aC):Option (Int×aC):=fF (M.UN) s
def F.JD:LE X0 40:=le 4 (Gz [eP 0 pI,eP 3 pS] []) (λx=>(x.1.1,x.1.2.1)) (λx s=>((s.1,s.2,()),())) (λx=> .leaf (Int×aC) (λt=>(Ex.exit 0,{tm:=[(0,V.d (D.int .i64 t.1)),(3,V.d (D.str t.2)),(7,V.d (D.bool false))],mem:=[]}))) (λx=>M.Gm) [] [] (by rintro _ _ ⟨_,_⟩ _ _<;>simp only[M.Gm,nb]<;>rfl)
def M.Le{R:Type}(k':Int)(k:aC->Option R):Option R:=
 bif decide (k'<=0) then(k [109,48]) else
 ((M.JD ((k',[]))).bind λar5=>
 (bif(1+ar5.2.length).ble 9223372036854775807 then(k ([109]++ar5.2)) else none))
def M.ES(k':Int):Option (aC):=M.Le k' some
def C.ES:S.ES.ok X0 λx=>M.ES x.1.1:=fnS (λx=>M.Le x.1.1) [] [F.JD] (by intros;simp only[M.Le,nb]<;>rfl)
abbrev S.Dp:gq:=sg 92 [pL false 5] [] (ρ:=Bool) λr=>([[D.bool r]],[])
abbrev S.xP:gq:=sg 44 [pL false 5,jy [pI,pB,pB,pB,pB]] [] (ρ:=au) λr=>([[D.sl true 4 r]],[])
abbrev S.xQ:gq:=sg 167 [jy [pI,pI,pS,pL false 1]] [] (ρ:=Bool) λr=>([[D.bool r]],[])
abbrev S.rW:gq:=sg 168 [pL false 4] [] (ρ:=au×Bool) λr=>([[D.sl true 1 r.1],[D.bool r.2]],[])
abbrev S.yx:gq:=sg 128 [pL false 4] [] (ρ:=Bool) λr=>([[D.bool r]],[])
abbrev S.uK:gq:=sg 129 [pL false 4] [] (ρ:=au) λr=>([[D.sl true 1 r]],[])
abbrev S.oG:gq:=sg 130 [pL true 1,pI] [] (ρ:=au) λr=>([[D.sl true 1 r]],[])
abbrev S.jl:gq:=sg 132 [pL true 3,jy [pI,pI,pS,pL false 1],pI,pB] [] (ρ:=au) λr=>([[D.sl true 3 r]],[])
abbrev S.uq:gq:=sg 131 [pL false 4,pL false 3,jy [pI,pI,pB],pI] [] (ρ:=Bool) λr=>([[D.bool r]],[])
abbrev S.rX:gq:=sg 91 [pL false 4,pI] [] (ρ:=aC×Bool) λr=>([[D.str r.1],[D.bool r.2]],[])
abbrev S.uw:gq:=sg 43 [pL false 4,pI] [] (ρ:=aC×Bool) λr=>([[D.str r.1],[D.bool r.2]],[])
abbrev S.rY:gq:=sg 18 [pL false 5,pI] [] (ρ:=aC×Bool) λr=>([[D.str r.1],[D.bool r.2]],[])
abbrev S.Dq:gq:=sg 95 [pL false 5] [] (ρ:=Bool) λr=>([[D.bool r]],[])
abbrev S.xR:gq:=sg 47 [pL false 5,jy [pI,pB,pB,pB,pB]] [] (ρ:=au) λr=>([[D.sl true 4 r]],[])
abbrev S.rZ:gq:=sg 169 [jy [pI,pI,pS,pL false 1]] [] (ρ:=Bool) λr=>([[D.bool r]],[])
abbrev S.mX:gq:=sg 170 [pL false 4] [] (ρ:=au×Bool) λr=>([[D.sl true 1 r.1],[D.bool r.2]],[])
abbrev S.yA:gq:=sg 133 [pL false 4] [] (ρ:=Bool) λr=>([[D.bool r]],[])
abbrev S.uM:gq:=sg 208 [pL false 4] [] (ρ:=Int) λr=>([[D.int .i64 r]],[])
abbrev S.tq:gq:=sg 173 [pL false 4,pI] [] (ρ:=Int×Int×aC×au×Int) λr=>([[D.int .i64 r.1,D.int .i64 r.2.1,D.str r.2.2.1,D.sl true 5 r.2.2.2.1,D.int .i64 r.2.2.2.2]],[])
abbrev S.Dt:gq:=sg 135 [pL false 4] [] (ρ:=Int×Int×aC×au×Int) λr=>([[D.int .i64 r.1,D.int .i64 r.2.1,D.str r.2.2.1,D.sl true 5 r.2.2.2.1,D.int .i64 r.2.2.2.2]],[])
abbrev S.strings_Repeat:gq:=sg 207 [pS,pI] [] (ρ:=aC) λr=>([[D.str r]],[])
abbrev S.kD:gq:=sg 171 [pP 100000 0,pI] [cB 121 [pL true 1,pI,pL true 7]] (ρ:=au×Int×au) λr=>([],[Cell.box 121 [V.d (D.sl true 1 r.1),V.d (D.int .i64 r.2.1),V.d (D.sl true 7 r.2.2)]])
abbrev S.iI:gq:=sg 172 [pP 100000 0,jy [pI,pI,pS,pL false 5,pI],pI,pB] [cB 121 [pL true 1,pI,pL true 7]] (ρ:=au×Int×au) λr=>([],[Cell.box 121 [V.d (D.sl true 1 r.1),V.d (D.int .i64 r.2.1),V.d (D.sl true 7 r.2.2)]])
abbrev S.lN:gq:=sg 137 [jy [pI,pI,pS,pL false 5,pI]] [] (ρ:=aC×Bool) λr=>([[D.str r.1],[D.bool r.2]],[])
abbrev S.lK:gq:=sg 138 [pR 0] [] (ρ:=Int) λr=>([[D.int .i64 r]],[])
abbrev S.oW:gq:=sg 136 [jy [pI,pI,pS,pL false 5,pI],pKp (pP 100000 0),pP 100001 0] [cB 121 [pL true 1,pI,pL true 7],cB 3 [pI]] (ρ:=Bool×au×Int×au×Int) λr=>([[D.bool r.1]],[Cell.box 121 [V.d (D.sl true 1 r.2.1),V.d (D.int .i64 r.2.2.1),V.d (D.sl true 7 r.2.2.2.1)],Cell.box 3 [V.d (D.int .i64 r.2.2.2.2)]])
abbrev S.tu:gq:=sg 134 [pP 100000 0,jy [pI,pI,pS,pL false 5,pI],aqc 136 [] [pKp (pP 100000 0),pP 100001 0]] [cB 121 [pL true 1,pI,pL true 7],cB 3 [pI]] (ρ:=au×Int×au×Int) λr=>([],[Cell.box 121 [V.d (D.sl true 1 r.1),V.d (D.int .i64 r.2.1),V.d (D.sl true 7 r.2.2.1)],Cell.box 3 [V.d (D.int .i64 r.2.2.2)]])
abbrev S.su:gq:=sg 94 [pL false 4,pI] [] (ρ:=aC×Bool) λr=>([[D.str r.1],[D.bool r.2]],[])
abbrev S.oZ:gq:=sg 46 [pL false 4,pI] [] (ρ:=aC×Bool) λr=>([[D.str r.1],[D.bool r.2]],[])
abbrev S.sD:gq:=sg 19 [pL false 5,pI] [] (ρ:=aC×Bool) λr=>([[D.str r.1],[D.bool r.2]],[])
abbrev S.lu:gq:=sg 4 [pL false 5,pI] [] (ρ:=Bool) λr=>([[D.bool r]],[])
def M.Kz{R:Type}(l:au)(k:Bool->Option R):Option R:=
 (M.zN l).bind λaEO=>
 (bif aEO then
 ((idx l (i64.wrap ((↑l.length:Int) - 1))).bind λaqN=>
 ((eu .i64 aqN 0).bind λaEP=>((M.gX aEP).bind λaEQ=>(k aEQ)))) else(k false))
def M.Dp(l:au):Option (Bool):=M.Kz l some
def C.Dp:S.Dp.ok X0 λx=>M.Dp x.1.1:=fnS (λx=>M.Kz x.1.1) [fe C.zN,fe C.gX] [] (by intros;simp only[M.Kz,nb]<;>rfl)
def M.II{R:Type}(l:au)(p:Int)(p1 p2 p3 p4:Bool)(k:au->Option R):Option R:=
 (M.Dp l).bind λaER=>
 (bif !aER then(k []) else
 ((M.qE p p1 p2 p3 p4).bind λaES=>
 (bif !aES then(k []) else
 ((M.l9 l false (i64.wrap ((↑l.length:Int) - 1)) p p1 p2 p3 p4).bind λaET=>(k aET)))))
def M.xP(l:au)(p:Int)(p1 p2 p3 p4:Bool):Option (au):=M.II l p p1 p2 p3 p4 some
def C.xP:S.xP.ok X0 λx=>M.xP x.1.1 x.1.2.1.1 x.1.2.1.2.1 x.1.2.1.2.2.1 x.1.2.1.2.2.2.1 x.1.2.1.2.2.2.2.1:=fnS (λx=>M.II x.1.1 x.1.2.1.1 x.1.2.1.2.1 x.1.2.1.2.2.1 x.1.2.1.2.2.2.1 x.1.2.1.2.2.2.2.1) [fe C.Dp,fe C.qE,fe C.l9] [] (by intros;unfold M.II;repeat' first|with_reducible apply ig|with_reducible apply Ho|with_reducible apply Hq|with_reducible apply Hr|with_reducible apply Ht|(intro _)|apply ig|rfl)
def M.IJ{R:Type}(n' gV:Int)(iU:aC)(iJ:au)(k:Bool->Option R):Option R:=
 bif n' !=1 then
 (bif !iU==[] then(k false) else
 (bif n' !=4 then
 (bif gV !=0 then(k false) else
 (bif n'==1 then
 ((M.lT iU).bind λaEU=>(bif aEU then(k ((↑iJ.length:Int)==0)) else(k false))) else
 (bif n'==2 then(k ((↑iJ.length:Int)==0)) else
 (bif n'==3 then(k ((↑iJ.length:Int)==0)) else
 (bif n'==4 then
 ((M.dh gV 0 40).bind λaEV=>(bif aEV then(k ((↑iJ.length:Int)==1)) else(k false))) else(bif n'==5 then(k ((↑iJ.length:Int)==1)) else(k (n'==6)))))))) else
 (bif n'==1 then
 ((M.lT iU).bind λaEW=>(bif aEW then(k ((↑iJ.length:Int)==0)) else(k false))) else
 (bif n'==2 then(k ((↑iJ.length:Int)==0)) else
 (bif n'==3 then(k ((↑iJ.length:Int)==0)) else
 (bif n'==4 then
 ((M.dh gV 0 40).bind λaEX=>(bif aEX then(k ((↑iJ.length:Int)==1)) else(k false))) else(bif n'==5 then(k ((↑iJ.length:Int)==1)) else(k (n'==6))))))))) else
 (bif n' !=4 then
 (bif gV !=0 then(k false) else
 (bif n'==1 then
 ((M.lT iU).bind λaEY=>(bif aEY then(k ((↑iJ.length:Int)==0)) else(k false))) else
 (bif n'==2 then(k ((↑iJ.length:Int)==0)) else
 (bif n'==3 then(k ((↑iJ.length:Int)==0)) else
 (bif n'==4 then
 ((M.dh gV 0 40).bind λaEZ=>(bif aEZ then(k ((↑iJ.length:Int)==1)) else(k false))) else(bif n'==5 then(k ((↑iJ.length:Int)==1)) else(k (n'==6)))))))) else
 (bif n'==1 then
 ((M.lT iU).bind λaE0=>(bif aE0 then(k ((↑iJ.length:Int)==0)) else(k false))) else
 (bif n'==2 then(k ((↑iJ.length:Int)==0)) else
 (bif n'==3 then(k ((↑iJ.length:Int)==0)) else
 (bif n'==4 then
 ((M.dh gV 0 40).bind λaE1=>(bif aE1 then(k ((↑iJ.length:Int)==1)) else(k false))) else(bif n'==5 then(k ((↑iJ.length:Int)==1)) else(k (n'==6))))))))
def M.xQ(n' gV:Int)(iU:aC)(iJ:au):Option (Bool):=M.IJ n' gV iU iJ some
def C.xQ:S.xQ.ok X0 λx=>M.xQ x.1.1.1 x.1.1.2.1 x.1.1.2.2.1 x.1.1.2.2.2.1:=fnS (λx=>M.IJ x.1.1.1 x.1.1.2.1 x.1.1.2.2.1 x.1.1.2.2.2.1) [fe C.lT,fe C.dh] [] (by intros;unfold M.IJ;repeat' first|with_reducible apply ig|with_reducible apply Ho|with_reducible apply Hq|with_reducible apply Hr|with_reducible apply Ht|(intro _)|apply ig|rfl)
def M.tY{R:Type}(l:au)(i:Int)(x':au)(s:Int×Int)(kn:Int×Int->Option R)(ke:(Unit)⊕(Int×Int)->Option R):Option R:=match s with
 |(at',k')=>
 bif decide (k'>=0) then
 ((idx l i).bind λaqO=>
 ((LC 1 aqO 3).bind λaoC=>
 ((idx aoC k').bind λaqP=>
 ((eu .i64 aqP 0).bind λaE2=>
 (bif aE2 !=i64.wrap (at' - 1) then(ke (.inl ())) else
 (bif at'==0 then(ke (.inl ())) else
 ((idx x' (i64.wrap (at' - 1))).bind λaIL=>
 ((x'[(i64.wrap (at' - 1)).toNat]?).bind λaqQ=>((eu .i64 aqQ 0).bind λaE3=>(kn ((aE3,i64.wrap (k' - 1))))))))))))) else(ke (.inr ((at',k'))))
def M.yJ(l:au)(i:Int)(x':au)(s:Int×Int):=M.tY l i x' s (λs=>some (Sum.inl s)) λt=>some (Sum.inr t)
def M.o7(l:au)(i:Int)(x':au)(s:Int×Int):Option ((Unit)⊕(Int×Int)):=fF (M.yJ l i x') s
def F.o7:LE X0 168:=le 7 (Gz [eP 0 (pL false 4),eP 4 (pO 300000 0),eP 5 pI,eP 6 pI,eP 7 pI] [eP 300000 (cA false true 0 1)]) (λx=>(x.1.2.2.2.1,x.1.2.2.2.2.1)) (λx s=>((x.1.1,(),x.1.2.2.1,s.1,s.2,()),(x.2.1,()))) (λx=> .sum (.leaf (Unit) (λt=>(Ex.ret,{tm:=[(2,V.own 300000 0),(3,V.d (D.bool false))],mem:=[(300000,Cell.arr false true 0 1 [])]}))) (.leaf (Int×Int) (λt=>(Ex.exit 2,{tm:=[(0,V.d (D.sl false 4 x.1.1)),(4,V.own 300000 0),(5,V.d (D.int .i64 x.1.2.2.1)),(6,V.d (D.int .i64 t.1)),(7,V.d (D.int .i64 t.2)),(24,V.d (D.bool false))],mem:=[(300000,Cell.arr false true 0 1 x.2.1)]})))) (λx=>M.tY x.1.1 x.1.2.2.1 x.2.1) [] [] (by rintro _ _ ⟨_,_⟩ _ _<;>simp only[M.tY,nb]<;>rfl)
def M.tZ{R:Type}(l:au)(s:Int×au)(kn:Int×au->Option R)(ke:(Unit)⊕(Int×au)->Option R):Option R:=match s with
 |(i,x')=>
 bif decide (i<(↑l.length:Int)) then
 ((idx l i).bind λaqR=>
 ((LC 1 aqR 3).bind λaoD=>
 ((M.o7 l i x' ((i,i64.wrap ((↑aoD.length:Int) - 1)))).bind λaE4=>
 nX aE4 (λaRm=>(ke (.inl ()))) λaE5=>
 letE aE5 λaE6=>
 (jA x' [[D.int .i64 aE6.1]] 8 λza=>(kn ((i64.wrap (i+1),za))))))) else(ke (.inr ((i,x'))))
def M.yK(l:au)(s:Int×au):=M.tZ l s (λs=>some (Sum.inl s)) λt=>some (Sum.inr t)
def M.o8(l:au)(s:Int×au):Option ((Unit)⊕(Int×au)):=fF (M.yK l) s
def F.o8:LE X0 168:=le 3 (Gz [eP 0 (pL false 4),eP 4 (pO 300000 0),eP 5 pI] [eP 300000 (cA false true 0 1)]) (λx=>(x.1.2.2.1,x.2.1)) (λx s=>((x.1.1,(),s.1,()),(s.2,()))) (λx=> .sum (.leaf (Unit) (λt=>(Ex.ret,{tm:=[(2,V.own 300000 0),(3,V.d (D.bool false))],mem:=[(300000,Cell.arr false true 0 1 [])]}))) (.leaf (Int×au) (λt=>(Ex.exit 0,{tm:=[(0,V.d (D.sl false 4 x.1.1)),(4,V.own 300000 0),(5,V.d (D.int .i64 t.1)),(12,V.d (D.bool false))],mem:=[(300000,Cell.arr false true 0 1 t.2)]})))) (λx=>M.tZ x.1.1) [] [F.o7] (by rintro _ _ ⟨_,_⟩ _ _<;>simp only[jA,M.tZ,nb]<;>rfl)
def M.Ef{R:Type}(l:au)(k:au×Bool->Option R):Option R:=
 (M.o8 l ((0,[]))).bind λaE7=>
 nX aE7 (λaRn=>(k (([],false)))) λaE8=>
 letE aE8 λar6=>(bif aA ar6.2 then(k ((ar6.2,true))) else none)
def M.rW(l:au):Option (au×Bool):=M.Ef l some
def C.rW:S.rW.ok X0 λx=>M.rW x.1.1:=fnS (λx=>M.Ef x.1.1) [] [F.o8] (by intros;simp only[M.Ef,nb]<;>rfl)
def M.Ba{R:Type}(l:au)(s:Int)(kn:Int->Option R)(ke:(Unit)⊕(Int)->Option R):Option R:=match s with
 |i=>
 bif decide (i<(↑l.length:Int)) then
 ((idx l i).bind λZy=>
 ((eu .i64 Zy 0).bind λaE9=>
 ((eu .i64 Zy 1).bind λaFa=>
 ((cStr Zy 2).bind λaFb=>
 ((LC 1 Zy 3).bind λaoE=>
 ((M.xQ aE9 aFa aFb aoE).bind λaFc=>(bif !aFc then(ke (.inl ())) else(kn (i64.wrap (i+1)))))))))) else(ke (.inr i))
def M.FW(l:au)(s:Int):=M.Ba l s (λs=>some (Sum.inl s)) λt=>some (Sum.inr t)
def M.KA(l:au)(s:Int):Option ((Unit)⊕(Int)):=fF (M.FW l) s
def F.KA:LE X0 128:=le 4 (Gz [eP 0 (pL false 4),eP 3 pI] []) (λx=>x.1.2.1) (λx s=>((x.1.1,s,()),())) (λx=> .sum (.leaf (Unit) (λt=>(Ex.ret,{tm:=[(2,V.d (D.bool false))],mem:=[]}))) (.leaf (Int) (λt=>(Ex.exit 0,{tm:=[(0,V.d (D.sl false 4 x.1.1)),(3,V.d (D.int .i64 t)),(13,V.d (D.bool false))],mem:=[]})))) (λx=>M.Ba x.1.1) [fe C.xQ] [] (by rintro _ _ _ _ _<;>simp only[M.Ba,nb]<;>rfl)
def M.IK{R:Type}(l:au)(k:Bool->Option R):Option R:=
 (M.dh ((↑l.length:Int)) 1 4000).bind λaFd=>
 (bif !aFd then(k false) else
 ((M.KA l 0).bind λaFe=>
 nX aFe (λaRo=>(k false)) λaFf=>
 letE aFf λaRp=>
 ((M.rW l).bind λaoF=>
 (bif aoF.2 then
 ((idx aoF.1 (i64.wrap ((↑l.length:Int) - 1))).bind λaIM=>
 ((aoF.1[(i64.wrap ((↑l.length:Int) - 1)).toNat]?).bind λaqS=>((eu .i64 aqS 0).bind λaFg=>(k (aFg==0))))) else(k false)))))
def M.yx(l:au):Option (Bool):=M.IK l some
def C.yx:S.yx.ok X0 λx=>M.yx x.1.1:=fnS (λx=>M.IK x.1.1) [fe C.dh,fe C.rW] [F.KA] (by intros;simp only[M.IK,nb]<;>rfl)
def M.vF{R:Type}(l:au)(i:Int)(x':au)(s:Bool×Int)(kn:Bool×Int->Option R)(ke:Bool×Int->Option R):Option R:=match s with
 |(is,k')=>
 (idx l i).bind λaqT=>
 ((LC 1 aqT 3).bind λaoG=>
 (bif decide (k'<(↑aoG.length:Int)) then
 (bif is then(kn ((true,i64.wrap (k'+1)))) else
 ((idx l i).bind λaqU=>
 ((LC 1 aqU 3).bind λaoH=>
 ((idx aoH k').bind λaqV=>
 ((eu .i64 aqV 0).bind λar7=>
 ((idx x' ar7).bind λaIN=>
 (x'[ar7.toNat]?.bind λaqW=>((Ji aqW 0).bind λaFh=>(kn ((aFh,i64.wrap (k'+1)))))))))))) else(ke ((is,k')))))
def M.Ap(l:au)(i:Int)(x':au)(s:Bool×Int):=M.vF l i x' s (λs=>some (Sum.inl s)) λt=>some (Sum.inr t)
def M.Eh(l:au)(i:Int)(x':au)(s:Bool×Int):Option (Bool×Int):=fF (M.Ap l i x') s
def F.Eh:LE X0 129:=le 7 (Gz [eP 0 (pL false 4),eP 3 (pO 300000 0),eP 4 pI,eP 5 pB,eP 6 pI] [eP 300000 (cA false true 0 1)]) (λx=>(x.1.2.2.2.1,x.1.2.2.2.2.1)) (λx s=>((x.1.1,(),x.1.2.2.1,s.1,s.2,()),(x.2.1,()))) (λx=> .leaf (Bool×Int) (λt=>(Ex.exit 2,{tm:=[(0,V.d (D.sl false 4 x.1.1)),(3,V.own 300000 0),(4,V.d (D.int .i64 x.1.2.2.1)),(5,V.d (D.bool t.1)),(6,V.d (D.int .i64 t.2)),(27,V.d (D.bool false))],mem:=[(300000,Cell.arr false true 0 1 x.2.1)]}))) (λx=>M.vF x.1.1 x.1.2.2.1 x.2.1) [] [] (by rintro _ _ ⟨_,_⟩ _ _<;>unfold M.vF<;>repeat' first|with_reducible apply ig|with_reducible apply Ho|with_reducible apply Hq|with_reducible apply Hr|with_reducible apply Ht|(intro _)|apply ig|rfl)
def M.vG{R:Type}(l:au)(s:Int×au)(kn:Int×au->Option R)(ke:Int×au->Option R):Option R:=match s with
 |(i,x')=>
 bif decide (i<(↑l.length:Int)) then
 ((idx l i).bind λaqX=>
 ((eu .i64 aqX 0).bind λaFi=>
 ((M.Eh l i x' ((aFi==3,0))).bind λaFj=>
 (jA x' [[D.bool aFj.1]] 1 λza=>(kn ((i64.wrap (i+1),za))))))) else(ke ((i,x')))
def M.vH(l:au)(s:Int×au):=M.vG l s (λs=>some (Sum.inl s)) λt=>some (Sum.inr t)
def M.Ei(l:au)(s:Int×au):Option (Int×au):=fF (M.vH l) s
def F.Ei:LE X0 129:=le 3 (Gz [eP 0 (pL false 4),eP 3 (pO 300000 0),eP 4 pI] [eP 300000 (cA false true 0 1)]) (λx=>(x.1.2.2.1,x.2.1)) (λx s=>((x.1.1,(),s.1,()),(s.2,()))) (λx=> .leaf (Int×au) (λt=>(Ex.exit 0,{tm:=[(0,V.d (D.sl false 4 x.1.1)),(3,V.own 300000 0),(4,V.d (D.int .i64 t.1)),(11,V.d (D.bool false))],mem:=[(300000,Cell.arr false true 0 1 t.2)]}))) (λx=>M.vG x.1.1) [] [F.Eh] (by rintro _ _ ⟨_,_⟩ _ _<;>simp only[jA,M.vG,nb]<;>rfl)
def M.FX{R:Type}(l:au)(k:au->Option R):Option R:=
 (M.Ei l ((0,[]))).bind λar8=>(bif aA ar8.2 then(k ar8.2) else none)
def M.uK(l:au):Option (au):=M.FX l some
def C.uK:S.uK.ok X0 λx=>M.uK x.1.1:=fnS (λx=>M.FX x.1.1) [] [F.Ei] (by intros;simp only[M.FX,nb]<;>rfl)
def M.vI{R:Type}(in':Int)(s:Int×au)(kn:Int×au->Option R)(ke:Int×au->Option R):Option R:=match s with
 |(k',x')=>
 bif decide (k'<in') then
 (bif((x'.length+1) * 1).ble 140737488355328 then
 (bif(x'.length+1).ble 140737488355328 then(kn ((i64.wrap (k'+1),x'++[[D.int IntKind.u8 32]]))) else none) else none) else(ke ((k',x')))
def M.Aq(in':Int)(s:Int×au):=M.vI in' s (λs=>some (Sum.inl s)) λt=>some (Sum.inr t)
def M.Ej(in':Int)(s:Int×au):Option (Int×au):=fF (M.Aq in') s
def F.Ej:LE X0 130:=le 3 (Gz [eP 0 (pO 300000 0),eP 1 pI,eP 5 pI] [eP 300000 (cA false true 0 1)]) (λx=>(x.1.2.2.1,x.2.1)) (λx s=>(((),x.1.2.1,s.1,()),(s.2,()))) (λx=> .leaf (Int×au) (λt=>(Ex.exit 0,{tm:=[(0,V.own 300000 0),(1,V.d (D.int .i64 x.1.2.1)),(5,V.d (D.int .i64 t.1)),(11,V.d (D.bool false))],mem:=[(300000,Cell.arr false true 0 1 t.2)]}))) (λx=>M.vI x.1.2.1) [] [] (by rintro _ _ ⟨_,_⟩ _ _<;>simp only[M.vI,nb]<;>rfl)
def M.FY{R:Type}(out':au)(in':Int)(k:au->Option R):Option R:=
 bif((out'.length+1) * 1).ble 140737488355328 then
 (bif(out'.length+1).ble 140737488355328 then
 ((M.Ej in' ((0,out'++[[D.int IntKind.u8 10]]))).bind λar9=>(bif aA ar9.2 then(k ar9.2) else none)) else none) else none
def M.oG(out':au)(in':Int):Option (au):=M.FY out' in' some
def C.oG:S.oG.ok X0 λx=>M.oG x.1.1 x.1.2.1:=fnS (λx=>M.FY x.1.1 x.1.2.1) [] [F.Ej] (by intros;simp only[M.FY,nb]<;>rfl)
def M.xU{R:Type}(in':Int)(flat:Bool)(mM nY:Int)(zy:aC)(BO:au)(s:Int×au)(kn:Int×au->Option R)(ke:Int×au->Option R):Option R:=match s with
 |(k',x')=>
 bif decide (k'>=0) then
 ((idx BO k').bind λaqY=>
 ((eu .i64 aqY 0).bind λaFk=>
 (jA x' [[D.int .i64 aFk,D.int .i64 in',D.bool flat]] 24 λza=>(kn ((i64.wrap (k' - 1),za)))))) else(ke ((k',x')))
def M.Ce(in':Int)(flat:Bool)(mM nY:Int)(zy:aC)(BO:au)(s:Int×au):=M.xU in' flat mM nY zy BO s (λs=>some (Sum.inl s)) λt=>some (Sum.inr t)
def M.FZ(in':Int)(flat:Bool)(mM nY:Int)(zy:aC)(BO:au)(s:Int×au):Option (Int×au):=fF (M.Ce in' flat mM nY zy BO) s
def F.FZ:LE X0 132:=le 2 (Gz [eP 0 (pO 300000 0),eP 2 pI,eP 3 pB,eP 5 (pP 300001 0),eP 9 pI] [eP 300000 (cA false true 0 3),eP 300001 (cB 58 [pI,pI,pS,pL false 1])]) (λx=>(x.1.2.2.2.2.1,x.2.1)) (λx s=>(((),x.1.2.1,x.1.2.2.1,(),s.1,()),(s.2,(x.2.2.1.1,x.2.2.1.2.1,x.2.2.1.2.2.1,x.2.2.1.2.2.2.1,()),()))) (λx=> .leaf (Int×au) (λt=>(Ex.exit 0,{tm:=[(0,V.own 300000 0),(2,V.d (D.int .i64 x.1.2.1)),(3,V.d (D.bool x.1.2.2.1)),(5,V.ptr 300001 0),(9,V.d (D.int .i64 t.1)),(15,V.d (D.bool false))],mem:=[(300000,Cell.arr false true 0 3 t.2),(300001,Cell.box 58 [V.d (D.int .i64 x.2.2.1.1),V.d (D.int .i64 x.2.2.1.2.1),V.d (D.str x.2.2.1.2.2.1),V.d (D.sl false 1 x.2.2.1.2.2.2.1)])]}))) (λx=>M.xU x.1.2.1 x.1.2.2.1 x.2.2.1.1 x.2.2.1.2.1 x.2.2.1.2.2.1 x.2.2.1.2.2.2.1) [] [] (by rintro _ _ ⟨_,_⟩ _ _<;>unfold M.xU<;>repeat' first|with_reducible apply ig|with_reducible apply Ho|with_reducible apply Hq|with_reducible apply Hr|with_reducible apply Ht|(intro _)|apply ig|rfl)
def M.IL{R:Type}(st:au)(n' gV:Int)(iU:aC)(iJ:au)(in':Int)(flat:Bool)(k:au->Option R):Option R:=
 (M.FZ in' flat n' gV iU iJ ((i64.wrap ((↑iJ.length:Int) - 1),st))).bind λasa=>(bif aA asa.2 then(k asa.2) else none)
def M.jl(st:au)(n' gV:Int)(iU:aC)(iJ:au)(in':Int)(flat:Bool):Option (au):=M.IL st n' gV iU iJ in' flat some
def C.jl:S.jl.ok X0 λx=>M.jl x.1.1 x.1.2.1.1 x.1.2.1.2.1 x.1.2.1.2.2.1 x.1.2.1.2.2.2.1 x.1.2.2.1 x.1.2.2.2.1:=fnS (λx=>M.IL x.1.1 x.1.2.1.1 x.1.2.1.2.1 x.1.2.1.2.2.1 x.1.2.1.2.2.2.1 x.1.2.2.1 x.1.2.2.2.1) [] [F.FZ] (by intros;unfold M.IL;repeat' first|with_reducible apply ig|with_reducible apply Ho|with_reducible apply Hq|with_reducible apply Hr|with_reducible apply Ht|(intro _)|apply ig|rfl)
def M.lF{R:Type}(l rest:au)(s:Int×Int×au)(kn:Int×Int×au->Option R)(ke:(Unit)⊕(Int×Int×au)->Option R):Option R:=match s with
 |(room,at',x')=>
 bif decide (room>=0) then
 (bif(↑x'.length:Int)==0 then
 (bif at'==0 then(ke (.inl ())) else
 ((idx rest (i64.wrap (at' - 1))).bind λaeO=>
 ((eu .i64 aeO 0).bind λaFl=>
 ((eu .i64 aeO 1).bind λaFm=>
 ((Ji aeO 2).bind λaFo=>
 (jA x' [[D.int .i64 aFl,D.int .i64 aFm,D.bool aFo]] 24 λza=>((idx za (i64.wrap ((↑za.length:Int) - 1))).bind λaIO=>
 ((za[(i64.wrap ((↑za.length:Int) - 1)).toNat]?).bind λaeP=>
 ((eu .i64 aeP 0).bind λaFp=>
 ((eu .i64 aeP 1).bind λaFq=>
 ((Ji aeP 2).bind λasb=>
 (bif decide (0<=i64.wrap ((↑za.length:Int) - 1)) && decide (i64.wrap ((↑za.length:Int) - 1)<=(↑za.length:Int)) then
 ((idx l aFp).bind λZz=>
 ((eu .i64 Zz 0).bind λako=>
 ((eu .i64 Zz 1).bind λaFr=>
 ((cStr Zz 2).bind λasc=>
 ((LC 1 Zz 3).bind λaoI=>
 (bif ako==1 then
 (kn ((i64.wrap (room - (↑asc.length:Int)),i64.wrap (at' - 1),List.take (i64.wrap ((↑za.length:Int) - 1)).toNat za))) else
 (bif ako==2 then
 (bif !asb then(ke (.inl ())) else
 (kn ((i64.wrap (room - 1),i64.wrap (at' - 1),List.take (i64.wrap ((↑za.length:Int) - 1)).toNat za)))) else
 (bif ako==3 then(ke (.inl ())) else
 (bif aA (List.take (i64.wrap ((↑za.length:Int) - 1)).toNat za) then
 ((M.jl (List.take (i64.wrap ((↑za.length:Int) - 1)).toNat za) ako aFr asc aoI aFq asb).bind λaFs=>(kn ((room,i64.wrap (at' - 1),aFs)))) else none))))))))) else none)))))))))))) else
 ((idx x' (i64.wrap ((↑x'.length:Int) - 1))).bind λaIP=>
 ((x'[(i64.wrap ((↑x'.length:Int) - 1)).toNat]?).bind λaeQ=>
 ((eu .i64 aeQ 0).bind λaFt=>
 ((eu .i64 aeQ 1).bind λaFu=>
 ((Ji aeQ 2).bind λase=>
 (bif decide (0<=i64.wrap ((↑x'.length:Int) - 1)) && decide (i64.wrap ((↑x'.length:Int) - 1)<=(↑x'.length:Int)) then
 ((idx l aFt).bind λZA=>
 ((eu .i64 ZA 0).bind λakp=>
 ((eu .i64 ZA 1).bind λaFv=>
 ((cStr ZA 2).bind λasf=>
 ((LC 1 ZA 3).bind λaoJ=>
 (bif akp==1 then
 (kn ((i64.wrap (room - (↑asf.length:Int)),at',List.take (i64.wrap ((↑x'.length:Int) - 1)).toNat x'))) else
 (bif akp==2 then
 (bif !ase then(ke (.inl ())) else
 (kn ((i64.wrap (room - 1),at',List.take (i64.wrap ((↑x'.length:Int) - 1)).toNat x')))) else
 (bif akp==3 then(ke (.inl ())) else
 (bif aA (List.take (i64.wrap ((↑x'.length:Int) - 1)).toNat x') then
 ((M.jl (List.take (i64.wrap ((↑x'.length:Int) - 1)).toNat x') akp aFv asf aoJ aFu ase).bind λaFw=>(kn ((room,at',aFw)))) else none))))))))) else none))))))) else(ke (.inr ((room,at',x'))))
def M.fO(l rest:au)(s:Int×Int×au):=M.lF l rest s (λs=>some (Sum.inl s)) λt=>some (Sum.inr t)
def M.F5(l rest:au)(s:Int×Int×au):Option ((Unit)⊕(Int×Int×au)):=fF (M.fO l rest) s
def F.F5:LE X0 131:=le 3 (Gz [eP 0 (pL false 4),eP 1 (pL false 3),eP 3 pI,eP 9 (pO 300000 0),eP 10 pI] [eP 300000 (cA false true 0 3)]) (λx=>(x.1.2.2.1,x.1.2.2.2.2.1,x.2.1)) (λx s=>((x.1.1,x.1.2.1,s.1,(),s.2.1,()),(s.2.2,()))) (λx=> .sum (.leaf (Unit) (λt=>(Ex.ret,{tm:=[(8,V.d (D.bool true))],mem:=[]}))) (.leaf (Int×Int×au) (λt=>(Ex.exit 0,{tm:=[(0,V.d (D.sl false 4 x.1.1)),(1,V.d (D.sl false 3 x.1.2.1)),(3,V.d (D.int .i64 t.1)),(9,V.own 300000 0),(10,V.d (D.int .i64 t.2.1)),(18,V.d (D.bool false))],mem:=[(300000,Cell.arr false true 0 3 t.2.2)]})))) (λx=>M.lF x.1.1 x.1.2.1) [fe C.jl] [] (by rintro _ _ ⟨_,_,_⟩ _ _<;>simp only[jA,M.lF,nb]<;>rfl)
def M.IQ{R:Type}(l rest:au)(top auY:Int)(auZ:Bool)(room:Int)(k:Bool->Option R):Option R:=
 (M.F5 l rest ((room,(↑rest.length:Int),[[D.int .i64 top,D.int .i64 auY,D.bool auZ]]))).bind λaFx=>
 nX aFx (λaRq=>(k true)) λaFy=>
 letE aFy λaRr=>(k false)
def M.uq(l rest:au)(top auY:Int)(auZ:Bool)(room:Int):Option (Bool):=M.IQ l rest top auY auZ room some
def C.uq:S.uq.ok X0 λx=>M.uq x.1.1 x.1.2.1 x.1.2.2.1.1 x.1.2.2.1.2.1 x.1.2.2.1.2.2.1 x.1.2.2.2.1:=fnS (λx=>M.IQ x.1.1 x.1.2.1 x.1.2.2.1.1 x.1.2.2.1.2.1 x.1.2.2.1.2.2.1 x.1.2.2.2.1) [] [F.F5] (by intros;unfold M.IQ;repeat' first|with_reducible apply ig|with_reducible apply Ho|with_reducible apply Hq|with_reducible apply Hr|with_reducible apply Ht|(intro _)|apply ig|rfl)
end
end Go.Proofs.YtbpldgeajbfgnaaGreatDoor
