import Derived.Test.YtbpldgeajbfgnaaGreatDoorPForms2
set_option linter.defProp false
namespace Go.Proofs.YtbpldgeajbfgnaaGreatDoor
open Go Go.Vm
open Go.IntKind (i64)
set_option linter.unusedVariables false
set_option linter.unusedSimpArgs false
noncomputable section
def M.iQ{R:Type}(gI:Int->Int->aC->aC->au->Int->Int->Int->Bool->Bool->Bool->Bool->au->au->Bool->Option (au×au×Bool))(nH:Int->Int->aC->aC->au->Int->Bool->Bool->Bool->Bool->au->au->Bool->Option (au×au×Bool))(t' gW:Int)(iG jA:aC)(iC:au)(p:Int)(p1 p2 p3 p4:Bool)(c c1:au)(c2:Bool)(k:au×au×Bool->Option R):Option R:=
 bif t'==1 then
 (bif aA c then
 (bif aA c1 then
 ((M.bZ ([[D.int .i64 6,D.str iG,D.int .i64 0]]) c c1 c2).bind λahm=>
 (jc ahm.2.1 [[D.int .i64 (↑c.length:Int),D.int .i64 (↑ahm.1.length:Int)]] 16 λza=>(bif aA ahm.1 then
 (bif aA za then
 (k ((ahm.1,za,ahm.2.2))) else none) else none))) else none) else none) else
 (bif t'==2 then
 (bif aA c then
 (bif aA c1 then
 ((M.bZ ([[D.int .i64 3,D.str iG,D.int .i64 0]]) c c1 c2).bind λahn=>
 (jc ahn.2.1 [[D.int .i64 (↑c.length:Int),D.int .i64 (↑ahn.1.length:Int)]] 16 λza=>(bif aA ahn.1 then
 (bif aA za then
 (k ((ahn.1,za,ahn.2.2))) else none) else none))) else none) else none) else
 (bif t'==3 then
 (bif aA c then
 (bif aA c1 then
 ((M.bZ ([[D.int .i64 4,D.str iG,D.int .i64 0]]) c c1 c2).bind λaho=>
 (jc aho.2.1 [[D.int .i64 (↑c.length:Int),D.int .i64 (↑aho.1.length:Int)]] 16 λza=>(bif aA aho.1 then
 (bif aA za then
 (k ((aho.1,za,aho.2.2))) else none) else none))) else none) else none) else
 (bif t'==4 then
 (bif aA c then
 (bif aA c1 then
 ((M.bZ ([[D.int .i64 5,D.str iG,D.int .i64 0]]) c c1 c2).bind λahp=>
 (jc ahp.2.1 [[D.int .i64 (↑c.length:Int),D.int .i64 (↑ahp.1.length:Int)]] 16 λza=>(bif aA ahp.1 then
 (bif aA za then
 (k ((ahp.1,za,ahp.2.2))) else none) else none))) else none) else none) else
 (bif t'==5 then
 (bif aA c then
 (bif aA c1 then
 ((M.bZ ([[D.int .i64 6,D.str iG,D.int .i64 0]]) c c1 c2).bind λahq=>
 (bif aA ahq.1 then
 (bif aA ahq.2.1 then
 ((gI t' gW iG jA iC 34 35 p p1 p2 p3 p4 ahq.1 ahq.2.1 ahq.2.2).bind λahr=>
 (jc ahr.2.1 [[D.int .i64 (↑c.length:Int),D.int .i64 (↑ahr.1.length:Int)]] 16 λza=>(bif aA ahr.1 then
 (bif aA za then
 (k ((ahr.1,za,ahr.2.2))) else none) else none))) else none) else none)) else none) else none) else
 (bif t'==7 then
 (bif aA c then
 (bif aA c1 then
 ((M.bZ ([[D.int .i64 7,D.str iG,D.int .i64 0]]) c c1 c2).bind λahs=>
 (bif aA ahs.1 then
 (bif aA ahs.2.1 then
 ((gI t' gW iG jA iC 32 33 p p1 p2 p3 p4 ahs.1 ahs.2.1 ahs.2.2).bind λaht=>
 (jc aht.2.1 [[D.int .i64 (↑c.length:Int),D.int .i64 (↑aht.1.length:Int)]] 16 λza=>(bif aA aht.1 then
 (bif aA za then
 (k ((aht.1,za,aht.2.2))) else none) else none))) else none) else none)) else none) else none) else
 (bif t'==8 then
 (bif aA c then
 (bif aA c1 then
 ((M.bZ ([[D.int .i64 8,D.str iG,D.int .i64 0]]) c c1 c2).bind λahu=>
 (bif aA ahu.1 then
 (bif aA ahu.2.1 then
 ((gI t' gW iG jA iC 32 33 p p1 p2 p3 p4 ahu.1 ahu.2.1 ahu.2.2).bind λahv=>
 (jc ahv.2.1 [[D.int .i64 (↑c.length:Int),D.int .i64 (↑ahv.1.length:Int)]] 16 λza=>(bif aA ahv.1 then
 (bif aA za then
 (k ((ahv.1,za,ahv.2.2))) else none) else none))) else none) else none)) else none) else none) else
 (bif aA c then
 (bif aA c1 then
 ((nH t' gW iG jA iC p p1 p2 p3 p4 c c1 c2).bind λahw=>
 (jc ahw.2.1 [[D.int .i64 (↑c.length:Int),D.int .i64 (↑ahw.1.length:Int)]] 16 λza=>(bif aA ahw.1 then
 (bif aA za then
 (k ((ahw.1,za,ahw.2.2))) else none) else none))) else none) else none)))))))
def C.SN{gI:Int->Int->aC->aC->au->Int->Int->Int->Bool->Bool->Bool->Bool->au->au->Bool->Option (au×au×Bool)}{nH:Int->Int->aC->aC->au->Int->Bool->Bool->Bool->Bool->au->au->Bool->Option (au×au×Bool)}(Gv:S.nJ.ok X0 λx=>gI x.1.2.1.1 x.1.2.1.2.1 x.1.2.1.2.2.1 x.1.2.1.2.2.2.1 x.1.2.1.2.2.2.2.1 x.1.2.2.1 x.1.2.2.2.1 x.1.2.2.2.2.1.1 x.1.2.2.2.2.1.2.1 x.1.2.2.2.2.1.2.2.1 x.1.2.2.2.2.1.2.2.2.1 x.1.2.2.2.2.1.2.2.2.2.1 x.2.1.1 x.2.1.2.1 x.2.1.2.2.1)(Qg:S.mF.ok X0 λx=>nH x.1.2.1.1 x.1.2.1.2.1 x.1.2.1.2.2.1 x.1.2.1.2.2.2.1 x.1.2.1.2.2.2.2.1 x.1.2.2.1.1 x.1.2.2.1.2.1 x.1.2.2.1.2.2.1 x.1.2.2.1.2.2.2.1 x.1.2.2.1.2.2.2.2.1 x.2.1.1 x.2.1.2.1 x.2.1.2.2.1):S.nK.ok X0 λx=>M.iQ gI nH x.1.2.1.1 x.1.2.1.2.1 x.1.2.1.2.2.1 x.1.2.1.2.2.2.1 x.1.2.1.2.2.2.2.1 x.1.2.2.1.1 x.1.2.2.1.2.1 x.1.2.2.1.2.2.1 x.1.2.2.1.2.2.2.1 x.1.2.2.1.2.2.2.2.1 x.2.1.1 x.2.1.2.1 x.2.1.2.2.1 some:=fnS (λx=>M.iQ gI nH x.1.2.1.1 x.1.2.1.2.1 x.1.2.1.2.2.1 x.1.2.1.2.2.2.1 x.1.2.1.2.2.2.2.1 x.1.2.2.1.1 x.1.2.2.1.2.1 x.1.2.2.1.2.2.1 x.1.2.2.1.2.2.2.1 x.1.2.2.1.2.2.2.2.1 x.2.1.1 x.2.1.2.1 x.2.1.2.2.1) [fe C.bZ,fe Gv,fe Qg] [] (by intros;simp only[M.iQ,jc];repeat' first|with_reducible apply gZ|with_reducible apply GV|with_reducible apply GX|with_reducible apply GY|with_reducible apply GZ|(intro _)|apply gZ|rfl)
def M.qE{R:Type}(fC:Int->Int->aC->aC->au->Int->Bool->Bool->Bool->Bool->au->au->Bool->Option (au×au×Bool))(t' gW:Int)(iG jA:aC)(iC:au)(p:Int)(p1 p2 p3 p4:Bool)(c c1:au)(c2:Bool)(k:au×au×Bool->Option R):Option R:=
 (M.jS t' gW iG jA iC).bind λSQ=>
 ((M.Di SQ.1 SQ.2.1 SQ.2.2.1 SQ.2.2.2.1 SQ.2.2.2.2 p p1 p2 p3 p4).bind λaFb=>
 (bif c2 then
 ((M.nC SQ.1 SQ.2.1 SQ.2.2.1 SQ.2.2.2.1 SQ.2.2.2.2).bind λaFc=>
 (bif aFc !=15 then
 ((M.jr 32).bind λaoS=>
 (bif aA c then
 (bif aA c1 then
 ((M.bZ ([[D.int .i64 aoS.1,D.str aoS.2.1,D.int .i64 aoS.2.2]]) c c1 c2).bind λahx=>
 (M.qN.bind λahy=>
 (bif aA ahx.1 then
 (bif aA ahx.2.1 then
 ((fC t' gW iG jA iC ahy.1 ahy.2.1 ahy.2.2.1 ahy.2.2.2.1 ahy.2.2.2.2 ahx.1 ahx.2.1 ahx.2.2).bind λahz=>
 ((M.jr 33).bind λaoT=>
 (bif aA ahz.1 then
 (bif aA ahz.2.1 then
 ((M.bZ ([[D.int .i64 aoT.1,D.str aoT.2.1,D.int .i64 aoT.2.2]]) ahz.1 ahz.2.1 ahz.2.2).bind λahA=>
 (bif aA ahA.1 then(bif aA ahA.2.1 then(k ((ahA.1,ahA.2.1,ahA.2.2))) else none) else none)) else none) else none))) else none) else none))) else none) else none)) else
 (bif !SQ.1==4 then
 (bif aA c then
 (bif aA c1 then
 ((fC t' gW iG jA iC p p1 p2 p3 p4 c c1 c2).bind λahB=>
 (bif aA ahB.1 then(bif aA ahB.2.1 then(k ((ahB.1,ahB.2.1,ahB.2.2))) else none) else none)) else none) else none) else
 ((M.jr 32).bind λaoU=>
 (bif aA c then
 (bif aA c1 then
 ((M.bZ ([[D.int .i64 aoU.1,D.str aoU.2.1,D.int .i64 aoU.2.2]]) c c1 c2).bind λahC=>
 (M.qN.bind λahD=>
 (bif aA ahC.1 then
 (bif aA ahC.2.1 then
 ((fC t' gW iG jA iC ahD.1 ahD.2.1 ahD.2.2.1 ahD.2.2.2.1 ahD.2.2.2.2 ahC.1 ahC.2.1 ahC.2.2).bind λahE=>
 ((M.jr 33).bind λaoV=>
 (bif aA ahE.1 then
 (bif aA ahE.2.1 then
 ((M.bZ ([[D.int .i64 aoV.1,D.str aoV.2.1,D.int .i64 aoV.2.2]]) ahE.1 ahE.2.1 ahE.2.2).bind λahF=>
 (bif aA ahF.1 then(bif aA ahF.2.1 then(k ((ahF.1,ahF.2.1,ahF.2.2))) else none) else none)) else none) else none))) else none) else none))) else none) else none))))) else
 (bif !!aFb then
 (bif aA c then
 (bif aA c1 then
 ((fC t' gW iG jA iC p p1 p2 p3 p4 c c1 c2).bind λahG=>
 (bif aA ahG.1 then(bif aA ahG.2.1 then(k ((ahG.1,ahG.2.1,ahG.2.2))) else none) else none)) else none) else none) else
 ((M.jr 32).bind λaoW=>
 (bif aA c then
 (bif aA c1 then
 ((M.bZ ([[D.int .i64 aoW.1,D.str aoW.2.1,D.int .i64 aoW.2.2]]) c c1 c2).bind λahH=>
 (M.qN.bind λahI=>
 (bif aA ahH.1 then
 (bif aA ahH.2.1 then
 ((fC t' gW iG jA iC ahI.1 ahI.2.1 ahI.2.2.1 ahI.2.2.2.1 ahI.2.2.2.2 ahH.1 ahH.2.1 ahH.2.2).bind λahJ=>
 ((M.jr 33).bind λaoX=>
 (bif aA ahJ.1 then
 (bif aA ahJ.2.1 then
 ((M.bZ ([[D.int .i64 aoX.1,D.str aoX.2.1,D.int .i64 aoX.2.2]]) ahJ.1 ahJ.2.1 ahJ.2.2).bind λahK=>
 (bif aA ahK.1 then(bif aA ahK.2.1 then(k ((ahK.1,ahK.2.1,ahK.2.2))) else none) else none)) else none) else none))) else none) else none))) else none) else none)))))
def C.SV{fC:Int->Int->aC->aC->au->Int->Bool->Bool->Bool->Bool->au->au->Bool->Option (au×au×Bool)}(Gw:S.nK.ok X0 λx=>fC x.1.2.1.1 x.1.2.1.2.1 x.1.2.1.2.2.1 x.1.2.1.2.2.2.1 x.1.2.1.2.2.2.2.1 x.1.2.2.1.1 x.1.2.2.1.2.1 x.1.2.2.1.2.2.1 x.1.2.2.1.2.2.2.1 x.1.2.2.1.2.2.2.2.1 x.2.1.1 x.2.1.2.1 x.2.1.2.2.1):S.pX.ok X0 λx=>M.qE fC x.1.2.1.1 x.1.2.1.2.1 x.1.2.1.2.2.1 x.1.2.1.2.2.2.1 x.1.2.1.2.2.2.2.1 x.1.2.2.1.1 x.1.2.2.1.2.1 x.1.2.2.1.2.2.1 x.1.2.2.1.2.2.2.1 x.1.2.2.1.2.2.2.2.1 x.2.1.1 x.2.1.2.1 x.2.1.2.2.1 some:=fnS (λx=>M.qE fC x.1.2.1.1 x.1.2.1.2.1 x.1.2.1.2.2.1 x.1.2.1.2.2.2.1 x.1.2.1.2.2.2.2.1 x.1.2.2.1.1 x.1.2.2.1.2.1 x.1.2.2.1.2.2.1 x.1.2.2.1.2.2.2.1 x.1.2.2.1.2.2.2.2.1 x.2.1.1 x.2.1.2.1 x.2.1.2.2.1) [fe C.jS,fe C.Di,fe C.nC,fe C.jr,fe C.bZ,fe C.qN,fe Gw] [] (by intros;unfold M.qE;repeat' first|with_reducible apply gZ|with_reducible apply GV|with_reducible apply GX|with_reducible apply GY|with_reducible apply GZ|(intro _)|apply gZ|rfl)
def M.rD{R:Type}(fC:Int->Int->aC->aC->au->Int->Bool->Bool->Bool->Bool->au->au->Bool->Option (au×au×Bool))(qO:Int->Int->aC->aC->au->Int->Bool->Bool->Bool->Bool->au->au->Bool->Option (au×au×Bool))(t' gW:Int)(iG jA:aC)(iC:au)(k' p:Int)(p1 p2 p3 p4:Bool)(c c1:au)(c2:Bool)(k:au×au×Bool->Option R):Option R:=
 (M.jS t' gW iG jA iC).bind λUK=>
 ((idx iC k').bind λarx=>
 (iK 5 arx λas3 as4 as5 as6 ahL=>
 ((M.vg UK.1 UK.2.1 UK.2.2.1 UK.2.2.2.1 UK.2.2.2.2 k' p p1 p2 p3 p4).bind λUL=>
 ((M.o9 UK.1 UK.2.1 UK.2.2.1 UK.2.2.2.1 UK.2.2.2.2 k').bind λaFd=>
 (bif aFd then
 (bif aA c then
 (bif aA c1 then
 ((fC as3 as4 as5 as6 ahL UL.1 UL.2.1 UL.2.2.1 UL.2.2.2.1 UL.2.2.2.2 c c1 c2).bind λahM=>
 (bif aA ahM.1 then(bif aA ahM.2.1 then(k ((ahM.1,ahM.2.1,ahM.2.2))) else none) else none)) else none) else none) else
 (bif aA c then
 (bif aA c1 then
 ((qO as3 as4 as5 as6 ahL UL.1 UL.2.1 UL.2.2.1 UL.2.2.2.1 UL.2.2.2.2 c c1 c2).bind λahN=>
 (bif aA ahN.1 then(bif aA ahN.2.1 then(k ((ahN.1,ahN.2.1,ahN.2.2))) else none) else none)) else none) else none))))))
def C.Uh{fC:Int->Int->aC->aC->au->Int->Bool->Bool->Bool->Bool->au->au->Bool->Option (au×au×Bool)}{qO:Int->Int->aC->aC->au->Int->Bool->Bool->Bool->Bool->au->au->Bool->Option (au×au×Bool)}(Gw:S.nK.ok X0 λx=>fC x.1.2.1.1 x.1.2.1.2.1 x.1.2.1.2.2.1 x.1.2.1.2.2.2.1 x.1.2.1.2.2.2.2.1 x.1.2.2.1.1 x.1.2.2.1.2.1 x.1.2.2.1.2.2.1 x.1.2.2.1.2.2.2.1 x.1.2.2.1.2.2.2.2.1 x.2.1.1 x.2.1.2.1 x.2.1.2.2.1)(Ui:S.pX.ok X0 λx=>qO x.1.2.1.1 x.1.2.1.2.1 x.1.2.1.2.2.1 x.1.2.1.2.2.2.1 x.1.2.1.2.2.2.2.1 x.1.2.2.1.1 x.1.2.2.1.2.1 x.1.2.2.1.2.2.1 x.1.2.2.1.2.2.2.1 x.1.2.2.1.2.2.2.2.1 x.2.1.1 x.2.1.2.1 x.2.1.2.2.1):S.jM.ok X0 λx=>M.rD fC qO x.1.2.1.1 x.1.2.1.2.1 x.1.2.1.2.2.1 x.1.2.1.2.2.2.1 x.1.2.1.2.2.2.2.1 x.1.2.2.1 x.1.2.2.2.1.1 x.1.2.2.2.1.2.1 x.1.2.2.2.1.2.2.1 x.1.2.2.2.1.2.2.2.1 x.1.2.2.2.1.2.2.2.2.1 x.2.1.1 x.2.1.2.1 x.2.1.2.2.1 some:=fnS (λx=>M.rD fC qO x.1.2.1.1 x.1.2.1.2.1 x.1.2.1.2.2.1 x.1.2.1.2.2.2.1 x.1.2.1.2.2.2.2.1 x.1.2.2.1 x.1.2.2.2.1.1 x.1.2.2.2.1.2.1 x.1.2.2.2.1.2.2.1 x.1.2.2.2.1.2.2.2.1 x.1.2.2.2.1.2.2.2.2.1 x.2.1.1 x.2.1.2.1 x.2.1.2.2.1) [fe C.jS,fe C.vg,fe C.o9,fe Gw,fe Ui] [] (by intros;simp only[M.rD,iK];repeat' first|with_reducible apply gZ|with_reducible apply GV|with_reducible apply GX|with_reducible apply GY|with_reducible apply GZ|(intro _)|apply gZ|rfl)
def M.jk:Nat->(Int->Int->aC->aC->au->Int->Int->Bool->Bool->Bool->Bool->au->au->Bool->Option (au×au×Bool))×(Int->Int->aC->aC->au->Int->Int->Int->Bool->Bool->Bool->Bool->au->au->Bool->Option (au×au×Bool))×(Int->Int->aC->aC->au->Int->Bool->Bool->Bool->Bool->au->au->Bool->Option (au×au×Bool))×(Int->Int->aC->aC->au->Int->Bool->Bool->Bool->Bool->au->au->Bool->Option (au×au×Bool))×(Int->Int->aC->aC->au->Int->Bool->Bool->Bool->Bool->au->au->Bool->Option (au×au×Bool)):=
 Nat.rec (λ_ _ _ _ _ _ _ _ _ _ _ _ _ _=>none,λ_ _ _ _ _ _ _ _ _ _ _ _ _ _ _=>none,λ_ _ _ _ _ _ _ _ _ _ _ _ _=>none,λ_ _ _ _ _ _ _ _ _ _ _ _ _=>none,λ_ _ _ _ _ _ _ _ _ _ _ _ _=>none) λ_ qz=>(λt' gW iG jA iC k' p p1 p2 p3 p4 c c1 c2=>M.rD qz.2.2.2.1 qz.2.2.2.2 t' gW iG jA iC k' p p1 p2 p3 p4 c c1 c2 some,λt' gW iG jA iC open' shut p p1 p2 p3 p4 c c1 c2=>M.qC qz.1 t' gW iG jA iC open' shut p p1 p2 p3 p4 c c1 c2 some,λt' gW iG jA iC p p1 p2 p3 p4 c c1 c2=>M.eu qz.1 qz.2.1 t' gW iG jA iC p p1 p2 p3 p4 c c1 c2 some,λt' gW iG jA iC p p1 p2 p3 p4 c c1 c2=>M.iQ qz.2.1 qz.2.2.1 t' gW iG jA iC p p1 p2 p3 p4 c c1 c2 some,λt' gW iG jA iC p p1 p2 p3 p4 c c1 c2=>M.qE qz.2.2.2.1 t' gW iG jA iC p p1 p2 p3 p4 c c1 c2 some)
def M.kT(n:Nat):Int->Int->aC->aC->au->Int->Int->Bool->Bool->Bool->Bool->au->au->Bool->Option (au×au×Bool):=(M.jk n).1
def M.qF(n:Nat):Int->Int->aC->aC->au->Int->Int->Int->Bool->Bool->Bool->Bool->au->au->Bool->Option (au×au×Bool):=(M.jk n).2.1
def M.oO(n:Nat):Int->Int->aC->aC->au->Int->Bool->Bool->Bool->Bool->au->au->Bool->Option (au×au×Bool):=(M.jk n).2.2.1
def M.qG(n:Nat):Int->Int->aC->aC->au->Int->Bool->Bool->Bool->Bool->au->au->Bool->Option (au×au×Bool):=(M.jk n).2.2.2.1
def M.uG(n:Nat):Int->Int->aC->aC->au->Int->Bool->Bool->Bool->Bool->au->au->Bool->Option (au×au×Bool):=(M.jk n).2.2.2.2
def M.VK(n:Nat):M.kT (n+1)=λt' gW iG jA iC k' p p1 p2 p3 p4 c c1 c2=>M.rD (M.qG n) (M.uG n) t' gW iG jA iC k' p p1 p2 p3 p4 c c1 c2 some:=rfl
def M.Uj(n:Nat):M.qF (n+1)=λt' gW iG jA iC open' shut p p1 p2 p3 p4 c c1 c2=>M.qC (M.kT n) t' gW iG jA iC open' shut p p1 p2 p3 p4 c c1 c2 some:=rfl
def M.Qh(n:Nat):M.oO (n+1)=λt' gW iG jA iC p p1 p2 p3 p4 c c1 c2=>M.eu (M.kT n) (M.qF n) t' gW iG jA iC p p1 p2 p3 p4 c c1 c2 some:=rfl
def M.Uk(n:Nat):M.qG (n+1)=λt' gW iG jA iC p p1 p2 p3 p4 c c1 c2=>M.iQ (M.qF n) (M.oO n) t' gW iG jA iC p p1 p2 p3 p4 c c1 c2 some:=rfl
def M.Ul(n:Nat):M.uG (n+1)=λt' gW iG jA iC p p1 p2 p3 p4 c c1 c2=>M.qE (M.qG n) t' gW iG jA iC p p1 p2 p3 p4 c c1 c2 some:=rfl
def M.jM(t' gW:Int)(iG jA:aC)(iC:au)(k' p:Int)(p1 p2 p3 p4:Bool)(c c1:au)(c2:Bool):Option (au×au×Bool):=lim λn=>M.kT n t' gW iG jA iC k' p p1 p2 p3 p4 c c1 c2
def M.nJ(t' gW:Int)(iG jA:aC)(iC:au)(open' shut p:Int)(p1 p2 p3 p4:Bool)(c c1:au)(c2:Bool):Option (au×au×Bool):=lim λn=>M.qF n t' gW iG jA iC open' shut p p1 p2 p3 p4 c c1 c2
def M.mF(t' gW:Int)(iG jA:aC)(iC:au)(p:Int)(p1 p2 p3 p4:Bool)(c c1:au)(c2:Bool):Option (au×au×Bool):=lim λn=>M.oO n t' gW iG jA iC p p1 p2 p3 p4 c c1 c2
def M.nK(t' gW:Int)(iG jA:aC)(iC:au)(p:Int)(p1 p2 p3 p4:Bool)(c c1:au)(c2:Bool):Option (au×au×Bool):=lim λn=>M.qG n t' gW iG jA iC p p1 p2 p3 p4 c c1 c2
def M.pX(t' gW:Int)(iG jA:aC)(iC:au)(p:Int)(p1 p2 p3 p4:Bool)(c c1:au)(c2:Bool):Option (au×au×Bool):=lim λn=>M.uG n t' gW iG jA iC p p1 p2 p3 p4 c c1 c2
def C.jk:∀n,(S.jM.ok X0 λx=>M.kT n x.1.2.1.1 x.1.2.1.2.1 x.1.2.1.2.2.1 x.1.2.1.2.2.2.1 x.1.2.1.2.2.2.2.1 x.1.2.2.1 x.1.2.2.2.1.1 x.1.2.2.2.1.2.1 x.1.2.2.2.1.2.2.1 x.1.2.2.2.1.2.2.2.1 x.1.2.2.2.1.2.2.2.2.1 x.2.1.1 x.2.1.2.1 x.2.1.2.2.1)∧(S.nJ.ok X0 λx=>M.qF n x.1.2.1.1 x.1.2.1.2.1 x.1.2.1.2.2.1 x.1.2.1.2.2.2.1 x.1.2.1.2.2.2.2.1 x.1.2.2.1 x.1.2.2.2.1 x.1.2.2.2.2.1.1 x.1.2.2.2.2.1.2.1 x.1.2.2.2.2.1.2.2.1 x.1.2.2.2.2.1.2.2.2.1 x.1.2.2.2.2.1.2.2.2.2.1 x.2.1.1 x.2.1.2.1 x.2.1.2.2.1)∧(S.mF.ok X0 λx=>M.oO n x.1.2.1.1 x.1.2.1.2.1 x.1.2.1.2.2.1 x.1.2.1.2.2.2.1 x.1.2.1.2.2.2.2.1 x.1.2.2.1.1 x.1.2.2.1.2.1 x.1.2.2.1.2.2.1 x.1.2.2.1.2.2.2.1 x.1.2.2.1.2.2.2.2.1 x.2.1.1 x.2.1.2.1 x.2.1.2.2.1)∧(S.nK.ok X0 λx=>M.qG n x.1.2.1.1 x.1.2.1.2.1 x.1.2.1.2.2.1 x.1.2.1.2.2.2.1 x.1.2.1.2.2.2.2.1 x.1.2.2.1.1 x.1.2.2.1.2.1 x.1.2.2.1.2.2.1 x.1.2.2.1.2.2.2.1 x.1.2.2.1.2.2.2.2.1 x.2.1.1 x.2.1.2.1 x.2.1.2.2.1)∧(S.pX.ok X0 λx=>M.uG n x.1.2.1.1 x.1.2.1.2.1 x.1.2.1.2.2.1 x.1.2.1.2.2.2.1 x.1.2.1.2.2.2.2.1 x.1.2.2.1.1 x.1.2.2.1.2.1 x.1.2.2.1.2.2.1 x.1.2.2.1.2.2.2.1 x.1.2.2.1.2.2.2.2.1 x.2.1.1 x.2.1.2.1 x.2.1.2.2.1)
 |0=>⟨fK.zero,fK.zero,fK.zero,fK.zero,fK.zero⟩
 |n+1=>have h:=C.jk n;⟨C.Uh h.2.2.2.1 h.2.2.2.2,C.SL h.1,C.Pv h.1 h.2.1,C.SN h.2.1 h.2.2.1,C.SV h.2.2.2.1⟩
def C.jM:S.jM.ok X0 λx=>M.jM x.1.2.1.1 x.1.2.1.2.1 x.1.2.1.2.2.1 x.1.2.1.2.2.2.1 x.1.2.1.2.2.2.2.1 x.1.2.2.1 x.1.2.2.2.1.1 x.1.2.2.2.1.2.1 x.1.2.2.2.1.2.2.1 x.1.2.2.2.1.2.2.2.1 x.1.2.2.2.1.2.2.2.2.1 x.2.1.1 x.2.1.2.1 x.2.1.2.2.1:=fK.lim λn=>(C.jk n).1
def M.Um{n:Nat}{t' gW:Int}{iG jA:aC}{iC:au}{k' p:Int}{p1 p2 p3 p4:Bool}{c c1:au}{c2:Bool}{r:au×au×Bool}(h:M.kT n t' gW iG jA iC k' p p1 p2 p3 p4 c c1 c2=some r):M.jM t' gW iG jA iC k' p p1 p2 p3 p4 c c1 c2=some r:=
 fK.Em (λn=>(C.jk n).1) (by intro a b h;simp[S.jM,sg] at h;first|exact h|simp[Prod.ext_iff,h]) (x:=(((),(t',gW,iG,jA,iC,()),k',(p,p1,p2,p3,p4,()),()),((c,c1,c2,()),()))) h
def C.nJ:S.nJ.ok X0 λx=>M.nJ x.1.2.1.1 x.1.2.1.2.1 x.1.2.1.2.2.1 x.1.2.1.2.2.2.1 x.1.2.1.2.2.2.2.1 x.1.2.2.1 x.1.2.2.2.1 x.1.2.2.2.2.1.1 x.1.2.2.2.2.1.2.1 x.1.2.2.2.2.1.2.2.1 x.1.2.2.2.2.1.2.2.2.1 x.1.2.2.2.2.1.2.2.2.2.1 x.2.1.1 x.2.1.2.1 x.2.1.2.2.1:=fK.lim λn=>(C.jk n).2.1
def C.mF:S.mF.ok X0 λx=>M.mF x.1.2.1.1 x.1.2.1.2.1 x.1.2.1.2.2.1 x.1.2.1.2.2.2.1 x.1.2.1.2.2.2.2.1 x.1.2.2.1.1 x.1.2.2.1.2.1 x.1.2.2.1.2.2.1 x.1.2.2.1.2.2.2.1 x.1.2.2.1.2.2.2.2.1 x.2.1.1 x.2.1.2.1 x.2.1.2.2.1:=fK.lim λn=>(C.jk n).2.2.1
def C.nK:S.nK.ok X0 λx=>M.nK x.1.2.1.1 x.1.2.1.2.1 x.1.2.1.2.2.1 x.1.2.1.2.2.2.1 x.1.2.1.2.2.2.2.1 x.1.2.2.1.1 x.1.2.2.1.2.1 x.1.2.2.1.2.2.1 x.1.2.2.1.2.2.2.1 x.1.2.2.1.2.2.2.2.1 x.2.1.1 x.2.1.2.1 x.2.1.2.2.1:=fK.lim λn=>(C.jk n).2.2.2.1
def C.pX:S.pX.ok X0 λx=>M.pX x.1.2.1.1 x.1.2.1.2.1 x.1.2.1.2.2.1 x.1.2.1.2.2.2.1 x.1.2.1.2.2.2.2.1 x.1.2.2.1.1 x.1.2.2.1.2.1 x.1.2.2.1.2.2.1 x.1.2.2.1.2.2.2.1 x.1.2.2.1.2.2.2.2.1 x.2.1.1 x.2.1.2.1 x.2.1.2.2.1:=fK.lim λn=>(C.jk n).2.2.2.2
def M.mP{R:Type}(s' Xb:aC)(k:Bool->Option R):Option R:=
 bif decide ((↑s'.length:Int)>=(↑Xb.length:Int)) then((cut s' 0 (↑Xb.length:Int)).bind λaFe=>(k (aFe==Xb))) else(k false)
def M.ji(s' Xb:aC):Option (Bool):=M.mP s' Xb some
def C.ji:S.ji.ok X0 λx=>M.ji x.1.1 x.1.2.1:=fnS (λx=>M.mP x.1.1 x.1.2.1) [] [] (by intros;simp only[M.mP,nb]<;>rfl)
def M.zy{R:Type}(s' Xb:aC)(k:Bool->Option R):Option R:=
 (M.ji s' Xb).bind λaFf=>(k aFf)
def M.strings_HasPrefix(s' Xb:aC):Option (Bool):=M.zy s' Xb some
def C.strings_HasPrefix:S.strings_HasPrefix.ok X0 λx=>M.strings_HasPrefix x.1.1 x.1.2.1:=fnS (λx=>M.zy x.1.1 x.1.2.1) [fe C.ji] [] (by intros;simp only[M.zy,nb]<;>rfl)
def M.JZ{R:Type}(s':aC)(at':Int)(v16 aoY v162 aoZ v164 ao0 ao1 v167 v168 ao2 ahO ahP ahQ ahR ahS ahT ahU ahV ahW ahX ahY ahZ ah0 ah1 ah2 ah3 ah4 ah5 ah6 ah7 ah8 ah9 aia aib aic aie aif aii aij:aC)(s:Int×Int×Int)(kn:Int×Int×Int->Option R)(ke:Int×Int×Int->Option R):Option R:=match s with
 |(kind,most,v17)=>
 bif decide (v17<39) then
 (bif decide (0<=v17) && decide (v17<39) then
 ((cStr [D.str v16,D.str aoY,D.str v162,D.str aoZ,D.str v164,D.str ao0,D.str ao1,D.str v167,D.str v168,D.str ao2,D.str ahO,D.str ahP,D.str ahQ,D.str ahR,D.str ahS,D.str ahT,D.str ahU,D.str ahV,D.str ahW,D.str ahX,D.str ahY,D.str ahZ,D.str ah0,D.str ah1,D.str ah2,D.str ah3,D.str ah4,D.str ah5,D.str ah6,D.str ah7,D.str ah8,D.str ah9,D.str aia,D.str aib,D.str aic,D.str aie,D.str aif,D.str aii,D.str aij] v17.toNat).bind λao3=>
 (bif decide ((↑ao3.length:Int)>most) then
 ((cut s' at' (↑s'.length:Int)).bind λaFg=>
 ((M.strings_HasPrefix aFg ao3).bind λaFh=>
 (bif aFh then(kn ((i64.wrap (30+v17),(↑ao3.length:Int),i64.wrap (v17+1)))) else(kn ((kind,most,i64.wrap (v17+1))))))) else(kn ((kind,most,i64.wrap (v17+1)))))) else none) else(ke ((kind,most,v17)))
def M.SX(s':aC)(at':Int)(v16 aoY v162 aoZ v164 ao0 ao1 v167 v168 ao2 ahO ahP ahQ ahR ahS ahT ahU ahV ahW ahX ahY ahZ ah0 ah1 ah2 ah3 ah4 ah5 ah6 ah7 ah8 ah9 aia aib aic aie aif aii aij:aC)(s:Int×Int×Int):=M.JZ s' at' v16 aoY v162 aoZ v164 ao0 ao1 v167 v168 ao2 ahO ahP ahQ ahR ahS ahT ahU ahV ahW ahX ahY ahZ ah0 ah1 ah2 ah3 ah4 ah5 ah6 ah7 ah8 ah9 aia aib aic aie aif aii aij s (λs=>some (Sum.inl s)) λt=>some (Sum.inr t)
def M.NR(s':aC)(at':Int)(v16 aoY v162 aoZ v164 ao0 ao1 v167 v168 ao2 ahO ahP ahQ ahR ahS ahT ahU ahV ahW ahX ahY ahZ ah0 ah1 ah2 ah3 ah4 ah5 ah6 ah7 ah8 ah9 aia aib aic aie aif aii aij:aC)(s:Int×Int×Int):Option (Int×Int×Int):=iT (M.SX s' at' v16 aoY v162 aoZ v164 ao0 ao1 v167 v168 ao2 ahO ahP ahQ ahR ahS ahT ahU ahV ahW ahX ahY ahZ ah0 ah1 ah2 ah3 ah4 ah5 ah6 ah7 ah8 ah9 aia aib aic aie aif aii aij) s
def F.NR:LE X0 242:=le 5 (KF [fM 0 pS,fM 1 pI,fM 6 pI,fM 7 pI,fM 16 (je [pS,pS,pS,pS,pS,pS,pS,pS,pS,pS,pS,pS,pS,pS,pS,pS,pS,pS,pS,pS,pS,pS,pS,pS,pS,pS,pS,pS,pS,pS,pS,pS,pS,pS,pS,pS,pS,pS,pS]),fM 17 pI] []) (λx=>(x.1.2.2.1,x.1.2.2.2.1,x.1.2.2.2.2.2.1)) (λx s=>((x.1.1,x.1.2.1,s.1,s.2.1,(x.1.2.2.2.2.1.1,x.1.2.2.2.2.1.2.1,x.1.2.2.2.2.1.2.2.1,x.1.2.2.2.2.1.2.2.2.1,x.1.2.2.2.2.1.2.2.2.2.1,x.1.2.2.2.2.1.2.2.2.2.2.1,x.1.2.2.2.2.1.2.2.2.2.2.2.1,x.1.2.2.2.2.1.2.2.2.2.2.2.2.1,x.1.2.2.2.2.1.2.2.2.2.2.2.2.2.1,x.1.2.2.2.2.1.2.2.2.2.2.2.2.2.2.1,x.1.2.2.2.2.1.2.2.2.2.2.2.2.2.2.2.1,x.1.2.2.2.2.1.2.2.2.2.2.2.2.2.2.2.2.1,x.1.2.2.2.2.1.2.2.2.2.2.2.2.2.2.2.2.2.1,x.1.2.2.2.2.1.2.2.2.2.2.2.2.2.2.2.2.2.2.1,x.1.2.2.2.2.1.2.2.2.2.2.2.2.2.2.2.2.2.2.2.1,x.1.2.2.2.2.1.2.2.2.2.2.2.2.2.2.2.2.2.2.2.2.1,x.1.2.2.2.2.1.2.2.2.2.2.2.2.2.2.2.2.2.2.2.2.2.1,x.1.2.2.2.2.1.2.2.2.2.2.2.2.2.2.2.2.2.2.2.2.2.2.1,x.1.2.2.2.2.1.2.2.2.2.2.2.2.2.2.2.2.2.2.2.2.2.2.2.1,x.1.2.2.2.2.1.2.2.2.2.2.2.2.2.2.2.2.2.2.2.2.2.2.2.2.1,x.1.2.2.2.2.1.2.2.2.2.2.2.2.2.2.2.2.2.2.2.2.2.2.2.2.2.1,x.1.2.2.2.2.1.2.2.2.2.2.2.2.2.2.2.2.2.2.2.2.2.2.2.2.2.2.1,x.1.2.2.2.2.1.2.2.2.2.2.2.2.2.2.2.2.2.2.2.2.2.2.2.2.2.2.2.1,x.1.2.2.2.2.1.2.2.2.2.2.2.2.2.2.2.2.2.2.2.2.2.2.2.2.2.2.2.2.1,x.1.2.2.2.2.1.2.2.2.2.2.2.2.2.2.2.2.2.2.2.2.2.2.2.2.2.2.2.2.2.1,x.1.2.2.2.2.1.2.2.2.2.2.2.2.2.2.2.2.2.2.2.2.2.2.2.2.2.2.2.2.2.2.1,x.1.2.2.2.2.1.2.2.2.2.2.2.2.2.2.2.2.2.2.2.2.2.2.2.2.2.2.2.2.2.2.2.1,x.1.2.2.2.2.1.2.2.2.2.2.2.2.2.2.2.2.2.2.2.2.2.2.2.2.2.2.2.2.2.2.2.2.1,x.1.2.2.2.2.1.2.2.2.2.2.2.2.2.2.2.2.2.2.2.2.2.2.2.2.2.2.2.2.2.2.2.2.2.1,x.1.2.2.2.2.1.2.2.2.2.2.2.2.2.2.2.2.2.2.2.2.2.2.2.2.2.2.2.2.2.2.2.2.2.2.1,x.1.2.2.2.2.1.2.2.2.2.2.2.2.2.2.2.2.2.2.2.2.2.2.2.2.2.2.2.2.2.2.2.2.2.2.2.1,x.1.2.2.2.2.1.2.2.2.2.2.2.2.2.2.2.2.2.2.2.2.2.2.2.2.2.2.2.2.2.2.2.2.2.2.2.2.1,x.1.2.2.2.2.1.2.2.2.2.2.2.2.2.2.2.2.2.2.2.2.2.2.2.2.2.2.2.2.2.2.2.2.2.2.2.2.2.1,x.1.2.2.2.2.1.2.2.2.2.2.2.2.2.2.2.2.2.2.2.2.2.2.2.2.2.2.2.2.2.2.2.2.2.2.2.2.2.2.1,x.1.2.2.2.2.1.2.2.2.2.2.2.2.2.2.2.2.2.2.2.2.2.2.2.2.2.2.2.2.2.2.2.2.2.2.2.2.2.2.2.1,x.1.2.2.2.2.1.2.2.2.2.2.2.2.2.2.2.2.2.2.2.2.2.2.2.2.2.2.2.2.2.2.2.2.2.2.2.2.2.2.2.2.1,x.1.2.2.2.2.1.2.2.2.2.2.2.2.2.2.2.2.2.2.2.2.2.2.2.2.2.2.2.2.2.2.2.2.2.2.2.2.2.2.2.2.2.1,x.1.2.2.2.2.1.2.2.2.2.2.2.2.2.2.2.2.2.2.2.2.2.2.2.2.2.2.2.2.2.2.2.2.2.2.2.2.2.2.2.2.2.2.1,x.1.2.2.2.2.1.2.2.2.2.2.2.2.2.2.2.2.2.2.2.2.2.2.2.2.2.2.2.2.2.2.2.2.2.2.2.2.2.2.2.2.2.2.2.1,()),s.2.2,()),())) (λx=> .leaf (Int×Int×Int) (λt=>(Ex.exit 0,{tm:=[(0,V.d (D.str x.1.1)),(1,V.d (D.int .i64 x.1.2.1)),(6,V.d (D.int .i64 t.1)),(7,V.d (D.int .i64 t.2.1)),(16,V.agg [V.d (D.str x.1.2.2.2.2.1.1),V.d (D.str x.1.2.2.2.2.1.2.1),V.d (D.str x.1.2.2.2.2.1.2.2.1),V.d (D.str x.1.2.2.2.2.1.2.2.2.1),V.d (D.str x.1.2.2.2.2.1.2.2.2.2.1),V.d (D.str x.1.2.2.2.2.1.2.2.2.2.2.1),V.d (D.str x.1.2.2.2.2.1.2.2.2.2.2.2.1),V.d (D.str x.1.2.2.2.2.1.2.2.2.2.2.2.2.1),V.d (D.str x.1.2.2.2.2.1.2.2.2.2.2.2.2.2.1),V.d (D.str x.1.2.2.2.2.1.2.2.2.2.2.2.2.2.2.1),V.d (D.str x.1.2.2.2.2.1.2.2.2.2.2.2.2.2.2.2.1),V.d (D.str x.1.2.2.2.2.1.2.2.2.2.2.2.2.2.2.2.2.1),V.d (D.str x.1.2.2.2.2.1.2.2.2.2.2.2.2.2.2.2.2.2.1),V.d (D.str x.1.2.2.2.2.1.2.2.2.2.2.2.2.2.2.2.2.2.2.1),V.d (D.str x.1.2.2.2.2.1.2.2.2.2.2.2.2.2.2.2.2.2.2.2.1),V.d (D.str x.1.2.2.2.2.1.2.2.2.2.2.2.2.2.2.2.2.2.2.2.2.1),V.d (D.str x.1.2.2.2.2.1.2.2.2.2.2.2.2.2.2.2.2.2.2.2.2.2.1),V.d (D.str x.1.2.2.2.2.1.2.2.2.2.2.2.2.2.2.2.2.2.2.2.2.2.2.1),V.d (D.str x.1.2.2.2.2.1.2.2.2.2.2.2.2.2.2.2.2.2.2.2.2.2.2.2.1),V.d (D.str x.1.2.2.2.2.1.2.2.2.2.2.2.2.2.2.2.2.2.2.2.2.2.2.2.2.1),V.d (D.str x.1.2.2.2.2.1.2.2.2.2.2.2.2.2.2.2.2.2.2.2.2.2.2.2.2.2.1),V.d (D.str x.1.2.2.2.2.1.2.2.2.2.2.2.2.2.2.2.2.2.2.2.2.2.2.2.2.2.2.1),V.d (D.str x.1.2.2.2.2.1.2.2.2.2.2.2.2.2.2.2.2.2.2.2.2.2.2.2.2.2.2.2.1),V.d (D.str x.1.2.2.2.2.1.2.2.2.2.2.2.2.2.2.2.2.2.2.2.2.2.2.2.2.2.2.2.2.1),V.d (D.str x.1.2.2.2.2.1.2.2.2.2.2.2.2.2.2.2.2.2.2.2.2.2.2.2.2.2.2.2.2.2.1),V.d (D.str x.1.2.2.2.2.1.2.2.2.2.2.2.2.2.2.2.2.2.2.2.2.2.2.2.2.2.2.2.2.2.2.1),V.d (D.str x.1.2.2.2.2.1.2.2.2.2.2.2.2.2.2.2.2.2.2.2.2.2.2.2.2.2.2.2.2.2.2.2.1),V.d (D.str x.1.2.2.2.2.1.2.2.2.2.2.2.2.2.2.2.2.2.2.2.2.2.2.2.2.2.2.2.2.2.2.2.2.1),V.d (D.str x.1.2.2.2.2.1.2.2.2.2.2.2.2.2.2.2.2.2.2.2.2.2.2.2.2.2.2.2.2.2.2.2.2.2.1),V.d (D.str x.1.2.2.2.2.1.2.2.2.2.2.2.2.2.2.2.2.2.2.2.2.2.2.2.2.2.2.2.2.2.2.2.2.2.2.1),V.d (D.str x.1.2.2.2.2.1.2.2.2.2.2.2.2.2.2.2.2.2.2.2.2.2.2.2.2.2.2.2.2.2.2.2.2.2.2.2.1),V.d (D.str x.1.2.2.2.2.1.2.2.2.2.2.2.2.2.2.2.2.2.2.2.2.2.2.2.2.2.2.2.2.2.2.2.2.2.2.2.2.1),V.d (D.str x.1.2.2.2.2.1.2.2.2.2.2.2.2.2.2.2.2.2.2.2.2.2.2.2.2.2.2.2.2.2.2.2.2.2.2.2.2.2.1),V.d (D.str x.1.2.2.2.2.1.2.2.2.2.2.2.2.2.2.2.2.2.2.2.2.2.2.2.2.2.2.2.2.2.2.2.2.2.2.2.2.2.2.1),V.d (D.str x.1.2.2.2.2.1.2.2.2.2.2.2.2.2.2.2.2.2.2.2.2.2.2.2.2.2.2.2.2.2.2.2.2.2.2.2.2.2.2.2.1),V.d (D.str x.1.2.2.2.2.1.2.2.2.2.2.2.2.2.2.2.2.2.2.2.2.2.2.2.2.2.2.2.2.2.2.2.2.2.2.2.2.2.2.2.2.1),V.d (D.str x.1.2.2.2.2.1.2.2.2.2.2.2.2.2.2.2.2.2.2.2.2.2.2.2.2.2.2.2.2.2.2.2.2.2.2.2.2.2.2.2.2.2.1),V.d (D.str x.1.2.2.2.2.1.2.2.2.2.2.2.2.2.2.2.2.2.2.2.2.2.2.2.2.2.2.2.2.2.2.2.2.2.2.2.2.2.2.2.2.2.2.1),V.d (D.str x.1.2.2.2.2.1.2.2.2.2.2.2.2.2.2.2.2.2.2.2.2.2.2.2.2.2.2.2.2.2.2.2.2.2.2.2.2.2.2.2.2.2.2.2.1)]),(17,V.d (D.int .i64 t.2.2)),(18,V.d (D.bool false))],mem:=[]}))) (λx=>M.JZ x.1.1 x.1.2.1 x.1.2.2.2.2.1.1 x.1.2.2.2.2.1.2.1 x.1.2.2.2.2.1.2.2.1 x.1.2.2.2.2.1.2.2.2.1 x.1.2.2.2.2.1.2.2.2.2.1 x.1.2.2.2.2.1.2.2.2.2.2.1 x.1.2.2.2.2.1.2.2.2.2.2.2.1 x.1.2.2.2.2.1.2.2.2.2.2.2.2.1 x.1.2.2.2.2.1.2.2.2.2.2.2.2.2.1 x.1.2.2.2.2.1.2.2.2.2.2.2.2.2.2.1 x.1.2.2.2.2.1.2.2.2.2.2.2.2.2.2.2.1 x.1.2.2.2.2.1.2.2.2.2.2.2.2.2.2.2.2.1 x.1.2.2.2.2.1.2.2.2.2.2.2.2.2.2.2.2.2.1 x.1.2.2.2.2.1.2.2.2.2.2.2.2.2.2.2.2.2.2.1 x.1.2.2.2.2.1.2.2.2.2.2.2.2.2.2.2.2.2.2.2.1 x.1.2.2.2.2.1.2.2.2.2.2.2.2.2.2.2.2.2.2.2.2.1 x.1.2.2.2.2.1.2.2.2.2.2.2.2.2.2.2.2.2.2.2.2.2.1 x.1.2.2.2.2.1.2.2.2.2.2.2.2.2.2.2.2.2.2.2.2.2.2.1 x.1.2.2.2.2.1.2.2.2.2.2.2.2.2.2.2.2.2.2.2.2.2.2.2.1 x.1.2.2.2.2.1.2.2.2.2.2.2.2.2.2.2.2.2.2.2.2.2.2.2.2.1 x.1.2.2.2.2.1.2.2.2.2.2.2.2.2.2.2.2.2.2.2.2.2.2.2.2.2.1 x.1.2.2.2.2.1.2.2.2.2.2.2.2.2.2.2.2.2.2.2.2.2.2.2.2.2.2.1 x.1.2.2.2.2.1.2.2.2.2.2.2.2.2.2.2.2.2.2.2.2.2.2.2.2.2.2.2.1 x.1.2.2.2.2.1.2.2.2.2.2.2.2.2.2.2.2.2.2.2.2.2.2.2.2.2.2.2.2.1 x.1.2.2.2.2.1.2.2.2.2.2.2.2.2.2.2.2.2.2.2.2.2.2.2.2.2.2.2.2.2.1 x.1.2.2.2.2.1.2.2.2.2.2.2.2.2.2.2.2.2.2.2.2.2.2.2.2.2.2.2.2.2.2.1 x.1.2.2.2.2.1.2.2.2.2.2.2.2.2.2.2.2.2.2.2.2.2.2.2.2.2.2.2.2.2.2.2.1 x.1.2.2.2.2.1.2.2.2.2.2.2.2.2.2.2.2.2.2.2.2.2.2.2.2.2.2.2.2.2.2.2.2.1 x.1.2.2.2.2.1.2.2.2.2.2.2.2.2.2.2.2.2.2.2.2.2.2.2.2.2.2.2.2.2.2.2.2.2.1 x.1.2.2.2.2.1.2.2.2.2.2.2.2.2.2.2.2.2.2.2.2.2.2.2.2.2.2.2.2.2.2.2.2.2.2.1 x.1.2.2.2.2.1.2.2.2.2.2.2.2.2.2.2.2.2.2.2.2.2.2.2.2.2.2.2.2.2.2.2.2.2.2.2.1 x.1.2.2.2.2.1.2.2.2.2.2.2.2.2.2.2.2.2.2.2.2.2.2.2.2.2.2.2.2.2.2.2.2.2.2.2.2.1 x.1.2.2.2.2.1.2.2.2.2.2.2.2.2.2.2.2.2.2.2.2.2.2.2.2.2.2.2.2.2.2.2.2.2.2.2.2.2.1 x.1.2.2.2.2.1.2.2.2.2.2.2.2.2.2.2.2.2.2.2.2.2.2.2.2.2.2.2.2.2.2.2.2.2.2.2.2.2.2.1 x.1.2.2.2.2.1.2.2.2.2.2.2.2.2.2.2.2.2.2.2.2.2.2.2.2.2.2.2.2.2.2.2.2.2.2.2.2.2.2.2.1 x.1.2.2.2.2.1.2.2.2.2.2.2.2.2.2.2.2.2.2.2.2.2.2.2.2.2.2.2.2.2.2.2.2.2.2.2.2.2.2.2.2.1 x.1.2.2.2.2.1.2.2.2.2.2.2.2.2.2.2.2.2.2.2.2.2.2.2.2.2.2.2.2.2.2.2.2.2.2.2.2.2.2.2.2.2.1 x.1.2.2.2.2.1.2.2.2.2.2.2.2.2.2.2.2.2.2.2.2.2.2.2.2.2.2.2.2.2.2.2.2.2.2.2.2.2.2.2.2.2.2.1 x.1.2.2.2.2.1.2.2.2.2.2.2.2.2.2.2.2.2.2.2.2.2.2.2.2.2.2.2.2.2.2.2.2.2.2.2.2.2.2.2.2.2.2.2.1) [fe C.strings_HasPrefix] [] (by rintro _ _ ⟨_,_,_⟩ _ _<;>simp only[M.JZ,nb]<;>rfl)
def M.O7{R:Type}(s':aC)(at':Int)(k:Int×Int->Option R):Option R:=
 (M.dX at' 0 (i64.wrap ((↑s'.length:Int) - 1))).bind λaFi=>
 (bif !aFi then(k ((0,0))) else
 ((M.NR s' at' [123] [125] [40] [41] [91] [93] [44] [59] [43,61] [45,61] [42,61] [47,61] [37,61] [94,61] [124,124] [38,38] [33,126] [61,61] [60,61] [62,61] [33,61] [43,43] [45,45] [62,62] [61] [43] [45] [42] [47] [37] [94] [33] [62] [60] [124] [63] [58] [126] [36] ((0,0,0))).bind λas7=>(k ((as7.1,as7.2.1)))))
def M.qX(s':aC)(at':Int):Option (Int×Int):=M.O7 s' at' some
def C.qX:S.qX.ok X0 λx=>M.qX x.1.1 x.1.2.1:=fnS (λx=>M.O7 x.1.1 x.1.2.1) [fe C.dX] [F.NR] (by intros;simp only[M.O7,nb]<;>rfl)
def M.Il{R:Type}(a:Int)(a1:aC)(a2 b:Int)(b1:aC)(b2:Int)(k:Bool->Option R):Option R:=
 bif a1==[] then(k false) else
 (bif b1==[] then(k false) else
 (bif a==2 then(k false) else
 (bif a==1 then(k false) else
 (bif b==1 then(k false) else
 ((idx a1 (i64.wrap ((↑a1.length:Int) - 1))).bind λaFj=>
 ((idx b1 0).bind λaik=>
 ((M.kD (i64.wrap (↑aFj.toNat:Int))).bind λaFk=>
 (bif aFk then
 ((M.kD (i64.wrap (↑aik.toNat:Int))).bind λaFl=>
 (bif aFl then(k true) else
 (bif a==3 then
 ((M.kD (i64.wrap (↑aik.toNat:Int))).bind λaFm=>
 (bif aFm then(k true) else
 (bif i64.wrap (↑aik.toNat:Int)==46 then(k true) else
 (bif a==6 then
 (bif b==32 then(k true) else
 ((M.iU a).bind λaFo=>
 (bif !aFo then(k false) else
 (bif(a1.length+b1.length).ble 9223372036854775807 then
 ((M.qX (a1++b1) 0).bind λaFp=>(k (decide (aFp.2>(↑a1.length:Int))))) else none)))) else
 ((M.iU a).bind λaFq=>
 (bif !aFq then(k false) else
 (bif(a1.length+b1.length).ble 9223372036854775807 then
 ((M.qX (a1++b1) 0).bind λaFr=>(k (decide (aFr.2>(↑a1.length:Int))))) else none))))))) else
 (bif a==6 then
 (bif b==32 then(k true) else
 ((M.iU a).bind λaFs=>
 (bif !aFs then(k false) else
 (bif(a1.length+b1.length).ble 9223372036854775807 then
 ((M.qX (a1++b1) 0).bind λaFt=>(k (decide (aFt.2>(↑a1.length:Int))))) else none)))) else
 ((M.iU a).bind λaFu=>
 (bif !aFu then(k false) else
 (bif(a1.length+b1.length).ble 9223372036854775807 then
 ((M.qX (a1++b1) 0).bind λaFv=>(k (decide (aFv.2>(↑a1.length:Int))))) else none))))))) else
 (bif a==3 then
 ((M.kD (i64.wrap (↑aik.toNat:Int))).bind λaFw=>
 (bif aFw then(k true) else
 (bif i64.wrap (↑aik.toNat:Int)==46 then(k true) else
 (bif a==6 then
 (bif b==32 then(k true) else
 ((M.iU a).bind λaFx=>
 (bif !aFx then(k false) else
 (bif(a1.length+b1.length).ble 9223372036854775807 then
 ((M.qX (a1++b1) 0).bind λaFy=>(k (decide (aFy.2>(↑a1.length:Int))))) else none)))) else
 ((M.iU a).bind λaFz=>
 (bif !aFz then(k false) else
 (bif(a1.length+b1.length).ble 9223372036854775807 then
 ((M.qX (a1++b1) 0).bind λaFA=>(k (decide (aFA.2>(↑a1.length:Int))))) else none))))))) else
 (bif a==6 then
 (bif b==32 then(k true) else
 ((M.iU a).bind λaFB=>
 (bif !aFB then(k false) else
 (bif(a1.length+b1.length).ble 9223372036854775807 then
 ((M.qX (a1++b1) 0).bind λaFC=>(k (decide (aFC.2>(↑a1.length:Int))))) else none)))) else
 ((M.iU a).bind λaFD=>
 (bif !aFD then(k false) else
 (bif(a1.length+b1.length).ble 9223372036854775807 then
 ((M.qX (a1++b1) 0).bind λaFE=>(k (decide (aFE.2>(↑a1.length:Int))))) else none)))))))))))))
def M.rV(a:Int)(a1:aC)(a2 b:Int)(b1:aC)(b2:Int):Option (Bool):=M.Il a a1 a2 b b1 b2 some
def C.rV:S.rV.ok X0 λx=>M.rV x.1.1.1 x.1.1.2.1 x.1.1.2.2.1 x.1.2.1.1 x.1.2.1.2.1 x.1.2.1.2.2.1:=fnS (λx=>M.Il x.1.1.1 x.1.1.2.1 x.1.1.2.2.1 x.1.2.1.1 x.1.2.1.2.1 x.1.2.1.2.2.1) [fe C.kD,fe C.iU,fe C.qX] [] (by intros;unfold M.Il;repeat' first|with_reducible apply gZ|with_reducible apply GV|with_reducible apply GX|with_reducible apply GY|with_reducible apply GZ|(intro _)|apply gZ|rfl)
def M.wZ{R:Type}(gq:Int->Int->aC->aC->au->Int->Int->Bool->Bool->Bool->Bool->Option (Int×Int×aC×au×Int))(t' gW:Int)(iG jA:aC)(iC:au)(p:Int)(p1 p2 p3 p4:Bool)(k:Int×Int×aC×au×Int->Option R):Option R:=
 (M.jM t' gW iG jA iC 0 p p1 p2 p3 p4 [] [] false).bind λas8=>
 ((M.iL gW).bind λao4=>
 ((M.jr gW).bind λao5=>
 ((idx as8.1 0).bind λaNk=>
 (as8.1[0]?.bind λafs=>
 ((fB .i64 afs 0).bind λaFF=>
 ((cStr afs 1).bind λaFG=>
 ((fB .i64 afs 2).bind λaFH=>
 ((M.rV ao5.1 ao5.2.1 ao5.2.2 aFF aFG aFH).bind λaFI=>
 (bif aFI then
 (bif(ao4.length+1).ble 9223372036854775807 then
 ((M.aX (ao4++[32])).bind λaFJ=>
 ((gq t' gW iG jA iC 0 p p1 p2 p3 p4).bind λaFK=>
 ((M.dD ([eH aFJ,eH aFK])).bind λaFL=>
 (k ((kK aFL)))))) else none) else
 ((M.aX ao4).bind λaFM=>
 ((gq t' gW iG jA iC 0 p p1 p2 p3 p4).bind λaFN=>
 ((M.dD ([eH aFM,eH aFN])).bind λaFO=>
 (k ((kK aFO)))))))))))))))
def C.Ya{gq:Int->Int->aC->aC->au->Int->Int->Bool->Bool->Bool->Bool->Option (Int×Int×aC×au×Int)}(Px:S.Bd.ok X0 λx=>gq x.1.1.1 x.1.1.2.1 x.1.1.2.2.1 x.1.1.2.2.2.1 x.1.1.2.2.2.2.1 x.1.2.1 x.1.2.2.1.1 x.1.2.2.1.2.1 x.1.2.2.1.2.2.1 x.1.2.2.1.2.2.2.1 x.1.2.2.1.2.2.2.2.1):S.y7.ok X0 λx=>M.wZ gq x.1.1.1 x.1.1.2.1 x.1.1.2.2.1 x.1.1.2.2.2.1 x.1.1.2.2.2.2.1 x.1.2.1.1 x.1.2.1.2.1 x.1.2.1.2.2.1 x.1.2.1.2.2.2.1 x.1.2.1.2.2.2.2.1 some:=fnS (λx=>M.wZ gq x.1.1.1 x.1.1.2.1 x.1.1.2.2.1 x.1.1.2.2.2.1 x.1.1.2.2.2.2.1 x.1.2.1.1 x.1.2.1.2.1 x.1.2.1.2.2.1 x.1.2.1.2.2.2.1 x.1.2.1.2.2.2.2.1) [fe C.jM,fe C.iL,fe C.jr,fe C.rV,fe C.aX,fe Px,fe C.dD] [] (by intros;simp only[M.wZ,eH,kK];repeat' first|with_reducible apply gZ|with_reducible apply GV|with_reducible apply GX|with_reducible apply GY|with_reducible apply GZ|(intro _)|apply gZ|rfl)
def M.fF{R:Type}(oP:au->Option (Int×Int×aC×au×Int))(gq:Int->Int->aC->aC->au->Int->Int->Bool->Bool->Bool->Bool->Option (Int×Int×aC×au×Int))(yE:Int->Int->aC->aC->au->Int->Bool->Bool->Bool->Bool->Option (Int×Int×aC×au×Int))(t' gW:Int)(iG jA:aC)(iC:au)(p:Int)(p1 p2 p3 p4:Bool)(k:Int×Int×aC×au×Int->Option R):Option R:=
 bif t'==1 then
 ((M.aX iG).bind λaFP=>
 (k ((kK aFP)))) else
 (bif t'==2 then
 ((M.aX iG).bind λaFQ=>
 (k ((kK aFQ)))) else
 (bif t'==3 then
 ((M.aX iG).bind λaFR=>
 (k ((kK aFR)))) else
 (bif t'==4 then
 ((M.aX iG).bind λaFS=>
 (k ((kK aFS)))) else
 (bif t'==5 then
 (bif(iG.length+1).ble 9223372036854775807 then
 ((M.aX (iG++[91])).bind λaFT=>
 ((oP iC).bind λaFU=>
 ((M.aX [93]).bind λaFV=>
 ((M.dD ([eH aFT,eH aFU,eH aFV])).bind λaFW=>
 (k ((kK aFW))))))) else none) else
 (bif t'==7 then
 (bif(iG.length+1).ble 9223372036854775807 then
 ((M.aX (iG++[40])).bind λaFX=>
 ((oP iC).bind λaFY=>
 ((M.aX [41]).bind λaFZ=>
 ((M.dD ([eH aFX,eH aFY,eH aFZ])).bind λaF0=>
 (k ((kK aF0))))))) else none) else
 (bif t'==8 then
 (bif(iG.length+1).ble 9223372036854775807 then
 ((M.aX (iG++[40])).bind λaF1=>
 ((oP iC).bind λaF2=>
 ((M.aX [41]).bind λaF3=>
 ((M.dD ([eH aF1,eH aF2,eH aF3])).bind λaF4=>
 (k ((kK aF4))))))) else none) else
 (bif t'==9 then
 ((M.iL gW).bind λaF5=>
 ((M.aX aF5).bind λaF6=>
 ((gq t' gW iG jA iC 0 p p1 p2 p3 p4).bind λaF7=>
 ((M.dD ([eH aF6,eH aF7])).bind λaF8=>
 (k ((kK aF8))))))) else
 (bif t'==10 then
 ((gq t' gW iG jA iC 0 p p1 p2 p3 p4).bind λaF9=>
 ((M.iL gW).bind λaGa=>
 ((M.aX aGa).bind λaGb=>
 ((M.dD ([eH aF9,eH aGb])).bind λaGc=>
 (k ((kK aGc))))))) else
 (bif t'==6 then
 ((M.aX [36]).bind λaGd=>
 ((gq t' gW iG jA iC 0 p p1 p2 p3 p4).bind λaGe=>
 ((M.dD ([eH aGd,eH aGe])).bind λaGf=>
 (k ((kK aGf)))))) else
 (bif t'==11 then
 ((yE t' gW iG jA iC p p1 p2 p3 p4).bind λaGg=>
 (k ((kK aGg)))) else
 (bif t'==14 then
 ((gq t' gW iG jA iC 0 p p1 p2 p3 p4).bind λaGh=>
 ((M.aX [32,63,32]).bind λaGi=>
 ((gq t' gW iG jA iC 1 p p1 p2 p3 p4).bind λaGj=>
 ((M.aX [32,58,32]).bind λaGk=>
 ((gq t' gW iG jA iC 2 p p1 p2 p3 p4).bind λaGl=>
 ((M.dD ([eH aGh,eH aGi,eH aGj,eH aGk,eH aGl])).bind λaGm=>
 (k ((kK aGm))))))))) else
 (bif t'==13 then
 (bif decide ((↑iC.length:Int)>1) then
 ((M.aX [40]).bind λaGn=>
 ((oP iC).bind λaGo=>
 (bif(5+iG.length).ble 9223372036854775807 then
 ((M.aX ([41,32,105,110,32]++iG)).bind λaGp=>
 ((M.dD ([eH aGn,eH aGo,eH aGp])).bind λaGq=>
 (k ((kK aGq))))) else none))) else
 ((gq t' gW iG jA iC 0 p p1 p2 p3 p4).bind λaGr=>
 (bif(4+iG.length).ble 9223372036854775807 then
 ((M.aX ([32,105,110,32]++iG)).bind λaGs=>
 ((M.dD ([eH aGr,eH aGs])).bind λaGt=>
 (k ((kK aGt))))) else none))) else
 ((gq t' gW iG jA iC 0 p p1 p2 p3 p4).bind λXc=>
 ((gq t' gW iG jA iC 1 p p1 p2 p3 p4).bind λXd=>
 (bif t'==12 then
 (bif gW==99 then
 ((M.aX [32]).bind λaGu=>
 ((M.dD ([eH Xc,eH aGu,eH Xd])).bind λaGv=>
 (k ((kK aGv))))) else
 (bif t'==12 then
 (bif gW==45 then
 ((M.iL gW).bind λas9=>
 (bif(1+as9.length).ble 9223372036854775807 then
 ((M.aX ([32]++as9)).bind λaGw=>
 (M.tH.bind λaGx=>
 ((M.dD ([eH Xc,eH aGw,eH aGx,eH Xd])).bind λail=>
 ((M.qy ail.1 ail.2.1 ail.2.2.1 (bM ail.2.2.2.1) ail.2.2.2.2).bind λain=>
 ((M.pW ain.1 ain.2.1 ain.2.2.1 (bM ain.2.2.2.1) ain.2.2.2.2).bind λaGy=>
 (k ((kK aGy)))))))) else none)) else
 (bif gW==44 then
 ((M.iL gW).bind λata=>
 (bif(1+ata.length).ble 9223372036854775807 then
 ((M.aX ([32]++ata)).bind λaGz=>
 (M.tH.bind λaGA=>
 ((M.dD ([eH Xc,eH aGz,eH aGA,eH Xd])).bind λaio=>
 ((M.qy aio.1 aio.2.1 aio.2.2.1 (bM aio.2.2.2.1) aio.2.2.2.2).bind λaip=>
 ((M.pW aip.1 aip.2.1 aip.2.2.1 (bM aip.2.2.2.1) aip.2.2.2.2).bind λaGB=>
 (k ((kK aGB)))))))) else none)) else
 ((M.iL gW).bind λao6=>
 (bif(1+ao6.length).ble 9223372036854775807 then
 (bif(([32]++ao6).length+1).ble 9223372036854775807 then
 ((M.aX ([32]++ao6++[32])).bind λaGC=>
 ((M.dD ([eH Xc,eH aGC,eH Xd])).bind λaGD=>
 (k ((kK aGD))))) else none) else none)))) else
 ((M.iL gW).bind λao7=>
 (bif(1+ao7.length).ble 9223372036854775807 then
 (bif(([32]++ao7).length+1).ble 9223372036854775807 then
 ((M.aX ([32]++ao7++[32])).bind λaGE=>
 ((M.dD ([eH Xc,eH aGE,eH Xd])).bind λaGF=>
 (k ((kK aGF))))) else none) else none)))) else
 (bif t'==12 then
 (bif gW==45 then
 ((M.iL gW).bind λatb=>
 (bif(1+atb.length).ble 9223372036854775807 then
 ((M.aX ([32]++atb)).bind λaGG=>
 (M.tH.bind λaGH=>
 ((M.dD ([eH Xc,eH aGG,eH aGH,eH Xd])).bind λaiq=>
 ((M.qy aiq.1 aiq.2.1 aiq.2.2.1 (bM aiq.2.2.2.1) aiq.2.2.2.2).bind λair=>
 ((M.pW air.1 air.2.1 air.2.2.1 (bM air.2.2.2.1) air.2.2.2.2).bind λaGI=>
 (k ((kK aGI)))))))) else none)) else
 (bif gW==44 then
 ((M.iL gW).bind λatc=>
 (bif(1+atc.length).ble 9223372036854775807 then
 ((M.aX ([32]++atc)).bind λaGJ=>
 (M.tH.bind λaGK=>
 ((M.dD ([eH Xc,eH aGJ,eH aGK,eH Xd])).bind λais=>
 ((M.qy ais.1 ais.2.1 ais.2.2.1 (bM ais.2.2.2.1) ais.2.2.2.2).bind λait=>
 ((M.pW ait.1 ait.2.1 ait.2.2.1 (bM ait.2.2.2.1) ait.2.2.2.2).bind λaGL=>
 (k ((kK aGL)))))))) else none)) else
 ((M.iL gW).bind λao8=>
 (bif(1+ao8.length).ble 9223372036854775807 then
 (bif(([32]++ao8).length+1).ble 9223372036854775807 then
 ((M.aX ([32]++ao8++[32])).bind λaGM=>
 ((M.dD ([eH Xc,eH aGM,eH Xd])).bind λaGN=>
 (k ((kK aGN))))) else none) else none)))) else
 ((M.iL gW).bind λao9=>
 (bif(1+ao9.length).ble 9223372036854775807 then
 (bif(([32]++ao9).length+1).ble 9223372036854775807 then
 ((M.aX ([32]++ao9++[32])).bind λaGO=>
 ((M.dD ([eH Xc,eH aGO,eH Xd])).bind λaGP=>
 (k ((kK aGP))))) else none) else none))))))))))))))))))
def C.ZO{oP:au->Option (Int×Int×aC×au×Int)}{gq:Int->Int->aC->aC->au->Int->Int->Bool->Bool->Bool->Bool->Option (Int×Int×aC×au×Int)}{yE:Int->Int->aC->aC->au->Int->Bool->Bool->Bool->Bool->Option (Int×Int×aC×au×Int)}(abP:S.oq.ok X0 λx=>oP x.1.1)(Px:S.Bd.ok X0 λx=>gq x.1.1.1 x.1.1.2.1 x.1.1.2.2.1 x.1.1.2.2.2.1 x.1.1.2.2.2.2.1 x.1.2.1 x.1.2.2.1.1 x.1.2.2.1.2.1 x.1.2.2.1.2.2.1 x.1.2.2.1.2.2.2.1 x.1.2.2.1.2.2.2.2.1)(ZP:S.y7.ok X0 λx=>yE x.1.1.1 x.1.1.2.1 x.1.1.2.2.1 x.1.1.2.2.2.1 x.1.1.2.2.2.2.1 x.1.2.1.1 x.1.2.1.2.1 x.1.2.1.2.2.1 x.1.2.1.2.2.2.1 x.1.2.1.2.2.2.2.1):S.xM.ok X0 λx=>M.fF oP gq yE x.1.1.1 x.1.1.2.1 x.1.1.2.2.1 x.1.1.2.2.2.1 x.1.1.2.2.2.2.1 x.1.2.1.1 x.1.2.1.2.1 x.1.2.1.2.2.1 x.1.2.1.2.2.2.1 x.1.2.1.2.2.2.2.1 some:=fnS (λx=>M.fF oP gq yE x.1.1.1 x.1.1.2.1 x.1.1.2.2.1 x.1.1.2.2.2.1 x.1.1.2.2.2.2.1 x.1.2.1.1 x.1.2.1.2.1 x.1.2.1.2.2.1 x.1.2.1.2.2.2.1 x.1.2.1.2.2.2.2.1) [fe C.aX,fe abP,fe C.dD,fe C.iL,fe Px,fe ZP,fe C.tH,fe C.qy,fe C.pW] [] (by intros;simp only[M.fF,eH,kK];repeat' first|with_reducible apply gZ|with_reducible apply GV|with_reducible apply GX|with_reducible apply GY|with_reducible apply GZ|(intro _)|apply gZ|rfl)
def M.Ae{R:Type}(kG:Int->Int->aC->aC->au->Int->Bool->Bool->Bool->Bool->Option (Int×Int×aC×au×Int))(t' gW:Int)(iG jA:aC)(iC:au)(p:Int)(p1 p2 p3 p4:Bool)(k:Int×Int×aC×au×Int->Option R):Option R:=
 (M.jS t' gW iG jA iC).bind λaiu=>
 ((M.Di aiu.1 aiu.2.1 aiu.2.2.1 aiu.2.2.2.1 aiu.2.2.2.2 p p1 p2 p3 p4).bind λaGQ=>
 (bif aGQ then
 ((kG t' gW iG jA iC p p1 p2 p3 p4).bind λaGR=>
 (k ((kK aGR)))) else
 ((M.aX [40]).bind λaGS=>
 (M.qN.bind λaiv=>
 ((kG t' gW iG jA iC aiv.1 aiv.2.1 aiv.2.2.1 aiv.2.2.2.1 aiv.2.2.2.2).bind λaGT=>
 ((M.aX [41]).bind λaGU=>
 ((M.dD ([eH aGS,eH aGT,eH aGU])).bind λaGV=>
 (k ((kK aGV))))))))))
def C.ZQ{kG:Int->Int->aC->aC->au->Int->Bool->Bool->Bool->Bool->Option (Int×Int×aC×au×Int)}(OB:S.xM.ok X0 λx=>kG x.1.1.1 x.1.1.2.1 x.1.1.2.2.1 x.1.1.2.2.2.1 x.1.1.2.2.2.2.1 x.1.2.1.1 x.1.2.1.2.1 x.1.2.1.2.2.1 x.1.2.1.2.2.2.1 x.1.2.1.2.2.2.2.1):S.iF.ok X0 λx=>M.Ae kG x.1.1.1 x.1.1.2.1 x.1.1.2.2.1 x.1.1.2.2.2.1 x.1.1.2.2.2.2.1 x.1.2.1.1 x.1.2.1.2.1 x.1.2.1.2.2.1 x.1.2.1.2.2.2.1 x.1.2.1.2.2.2.2.1 some:=fnS (λx=>M.Ae kG x.1.1.1 x.1.1.2.1 x.1.1.2.2.1 x.1.1.2.2.2.1 x.1.1.2.2.2.2.1 x.1.2.1.1 x.1.2.1.2.1 x.1.2.1.2.2.1 x.1.2.1.2.2.2.1 x.1.2.1.2.2.2.2.1) [fe C.jS,fe C.Di,fe OB,fe C.aX,fe C.qN,fe C.dD] [] (by intros;simp only[M.Ae,eH,kK];repeat' first|with_reducible apply gZ|with_reducible apply GV|with_reducible apply GX|with_reducible apply GY|with_reducible apply GZ|(intro _)|apply gZ|rfl)
def M.kN:Nat->(Int->Int->aC->aC->au->Int->Bool->Bool->Bool->Bool->Option (Int×Int×aC×au×Int))×(au->Option (Int×Int×aC×au×Int))×(Int->Int->aC->aC->au->Int->Int->Bool->Bool->Bool->Bool->Option (Int×Int×aC×au×Int))×(Int->Int->aC->aC->au->Int->Bool->Bool->Bool->Bool->Option (Int×Int×aC×au×Int))×(Int->Int->aC->aC->au->Int->Bool->Bool->Bool->Bool->Option (Int×Int×aC×au×Int)):=
 Nat.rec (λ_ _ _ _ _ _ _ _ _ _=>none,λ_=>none,λ_ _ _ _ _ _ _ _ _ _ _=>none,λ_ _ _ _ _ _ _ _ _ _=>none,λ_ _ _ _ _ _ _ _ _ _=>none) λ_ qz=>(λt' gW iG jA iC p p1 p2 p3 p4=>M.Ae qz.2.2.2.2 t' gW iG jA iC p p1 p2 p3 p4 some,λkids=>M.Ad qz.1 kids some,λt' gW iG jA iC k' p p1 p2 p3 p4=>M.Dk qz.2.2.2.2 qz.1 t' gW iG jA iC k' p p1 p2 p3 p4 some,λt' gW iG jA iC p p1 p2 p3 p4=>M.wZ qz.2.2.1 t' gW iG jA iC p p1 p2 p3 p4 some,λt' gW iG jA iC p p1 p2 p3 p4=>M.fF qz.2.1 qz.2.2.1 qz.2.2.2.1 t' gW iG jA iC p p1 p2 p3 p4 some)
def M.wu(n:Nat):Int->Int->aC->aC->au->Int->Bool->Bool->Bool->Bool->Option (Int×Int×aC×au×Int):=(M.kN n).1
def M.Af(n:Nat):au->Option (Int×Int×aC×au×Int):=(M.kN n).2.1
def M.zf(n:Nat):Int->Int->aC->aC->au->Int->Int->Bool->Bool->Bool->Bool->Option (Int×Int×aC×au×Int):=(M.kN n).2.2.1
def M.CZ(n:Nat):Int->Int->aC->aC->au->Int->Bool->Bool->Bool->Bool->Option (Int×Int×aC×au×Int):=(M.kN n).2.2.2.1
def M.Ag(n:Nat):Int->Int->aC->aC->au->Int->Bool->Bool->Bool->Bool->Option (Int×Int×aC×au×Int):=(M.kN n).2.2.2.2
def M.abQ(n:Nat):M.wu (n+1)=λt' gW iG jA iC p p1 p2 p3 p4=>M.Ae (M.Ag n) t' gW iG jA iC p p1 p2 p3 p4 some:=rfl
def M.abR(n:Nat):M.Af (n+1)=λkids=>M.Ad (M.wu n) kids some:=rfl
def M.ads(n:Nat):M.zf (n+1)=λt' gW iG jA iC k' p p1 p2 p3 p4=>M.Dk (M.Ag n) (M.wu n) t' gW iG jA iC k' p p1 p2 p3 p4 some:=rfl
def M.ZR(n:Nat):M.CZ (n+1)=λt' gW iG jA iC p p1 p2 p3 p4=>M.wZ (M.zf n) t' gW iG jA iC p p1 p2 p3 p4 some:=rfl
def M.abS(n:Nat):M.Ag (n+1)=λt' gW iG jA iC p p1 p2 p3 p4=>M.fF (M.Af n) (M.zf n) (M.CZ n) t' gW iG jA iC p p1 p2 p3 p4 some:=rfl
def M.iF(t' gW:Int)(iG jA:aC)(iC:au)(p:Int)(p1 p2 p3 p4:Bool):Option (Int×Int×aC×au×Int):=lim λn=>M.wu n t' gW iG jA iC p p1 p2 p3 p4
def M.oq(kids:au):Option (Int×Int×aC×au×Int):=lim λn=>M.Af n kids
def M.Bd(t' gW:Int)(iG jA:aC)(iC:au)(k' p:Int)(p1 p2 p3 p4:Bool):Option (Int×Int×aC×au×Int):=lim λn=>M.zf n t' gW iG jA iC k' p p1 p2 p3 p4
def M.y7(t' gW:Int)(iG jA:aC)(iC:au)(p:Int)(p1 p2 p3 p4:Bool):Option (Int×Int×aC×au×Int):=lim λn=>M.CZ n t' gW iG jA iC p p1 p2 p3 p4
def M.xM(t' gW:Int)(iG jA:aC)(iC:au)(p:Int)(p1 p2 p3 p4:Bool):Option (Int×Int×aC×au×Int):=lim λn=>M.Ag n t' gW iG jA iC p p1 p2 p3 p4
def C.kN:∀n,(S.iF.ok X0 λx=>M.wu n x.1.1.1 x.1.1.2.1 x.1.1.2.2.1 x.1.1.2.2.2.1 x.1.1.2.2.2.2.1 x.1.2.1.1 x.1.2.1.2.1 x.1.2.1.2.2.1 x.1.2.1.2.2.2.1 x.1.2.1.2.2.2.2.1)∧(S.oq.ok X0 λx=>M.Af n x.1.1)∧(S.Bd.ok X0 λx=>M.zf n x.1.1.1 x.1.1.2.1 x.1.1.2.2.1 x.1.1.2.2.2.1 x.1.1.2.2.2.2.1 x.1.2.1 x.1.2.2.1.1 x.1.2.2.1.2.1 x.1.2.2.1.2.2.1 x.1.2.2.1.2.2.2.1 x.1.2.2.1.2.2.2.2.1)∧(S.y7.ok X0 λx=>M.CZ n x.1.1.1 x.1.1.2.1 x.1.1.2.2.1 x.1.1.2.2.2.1 x.1.1.2.2.2.2.1 x.1.2.1.1 x.1.2.1.2.1 x.1.2.1.2.2.1 x.1.2.1.2.2.2.1 x.1.2.1.2.2.2.2.1)∧(S.xM.ok X0 λx=>M.Ag n x.1.1.1 x.1.1.2.1 x.1.1.2.2.1 x.1.1.2.2.2.1 x.1.1.2.2.2.2.1 x.1.2.1.1 x.1.2.1.2.1 x.1.2.1.2.2.1 x.1.2.1.2.2.2.1 x.1.2.1.2.2.2.2.1)
 |0=>⟨fK.zero,fK.zero,fK.zero,fK.zero,fK.zero⟩
 |n+1=>have h:=C.kN n;⟨C.ZQ h.2.2.2.2,C.ZN h.1,C.abO h.2.2.2.2 h.1,C.Ya h.2.2.1,C.ZO h.2.1 h.2.2.1 h.2.2.2.1⟩
def C.iF:S.iF.ok X0 λx=>M.iF x.1.1.1 x.1.1.2.1 x.1.1.2.2.1 x.1.1.2.2.2.1 x.1.1.2.2.2.2.1 x.1.2.1.1 x.1.2.1.2.1 x.1.2.1.2.2.1 x.1.2.1.2.2.2.1 x.1.2.1.2.2.2.2.1:=fK.lim λn=>(C.kN n).1
def M.ZT{n:Nat}{t' gW:Int}{iG jA:aC}{iC:au}{p:Int}{p1 p2 p3 p4:Bool}{r:Int×Int×aC×au×Int}(h:M.wu n t' gW iG jA iC p p1 p2 p3 p4=some r):M.iF t' gW iG jA iC p p1 p2 p3 p4=some r:=
 fK.Em (λn=>(C.kN n).1) (by intro a b h;simp[S.iF,sg] at h;first|exact h|simp[Prod.ext_iff,h]) (x:=(((t',gW,iG,jA,iC,()),(p,p1,p2,p3,p4,()),()),())) h
def C.oq:S.oq.ok X0 λx=>M.oq x.1.1:=fK.lim λn=>(C.kN n).2.1
def M.ZU{n:Nat}{kids:au}{r:Int×Int×aC×au×Int}(h:M.Af n kids=some r):M.oq kids=some r:=
 fK.Em (λn=>(C.kN n).2.1) (by intro a b h;simp[S.oq,sg] at h;first|exact h|simp[Prod.ext_iff,h]) (x:=((kids,((),()),()),())) h
def C.Bd:S.Bd.ok X0 λx=>M.Bd x.1.1.1 x.1.1.2.1 x.1.1.2.2.1 x.1.1.2.2.2.1 x.1.1.2.2.2.2.1 x.1.2.1 x.1.2.2.1.1 x.1.2.2.1.2.1 x.1.2.2.1.2.2.1 x.1.2.2.1.2.2.2.1 x.1.2.2.1.2.2.2.2.1:=fK.lim λn=>(C.kN n).2.2.1
def C.y7:S.y7.ok X0 λx=>M.y7 x.1.1.1 x.1.1.2.1 x.1.1.2.2.1 x.1.1.2.2.2.1 x.1.1.2.2.2.2.1 x.1.2.1.1 x.1.2.1.2.1 x.1.2.1.2.2.1 x.1.2.1.2.2.2.1 x.1.2.1.2.2.2.2.1:=fK.lim λn=>(C.kN n).2.2.2.1
def C.xM:S.xM.ok X0 λx=>M.xM x.1.1.1 x.1.1.2.1 x.1.1.2.2.1 x.1.1.2.2.2.1 x.1.1.2.2.2.2.1 x.1.2.1.1 x.1.2.1.2.1 x.1.2.1.2.2.1 x.1.2.1.2.2.2.1 x.1.2.1.2.2.2.2.1:=fK.lim λn=>(C.kN n).2.2.2.2
def M.L9{R:Type}(t' gW:Int)(iG jA:aC)(iC:au)(k:Int×Int×aC×au×Int->Option R):Option R:=
 M.qN.bind λaiw=>
 ((M.iF t' gW iG jA iC aiw.1 aiw.2.1 aiw.2.2.1 aiw.2.2.2.1 aiw.2.2.2.2).bind λaGW=>
 (k ((kK aGW))))
def M.kL(t' gW:Int)(iG jA:aC)(iC:au):Option (Int×Int×aC×au×Int):=M.L9 t' gW iG jA iC some
def C.kL:S.kL.ok X0 λx=>M.kL x.1.1.1 x.1.1.2.1 x.1.1.2.2.1 x.1.1.2.2.2.1 x.1.1.2.2.2.2.1:=fnS (λx=>M.L9 x.1.1.1 x.1.1.2.1 x.1.1.2.2.1 x.1.1.2.2.2.1 x.1.1.2.2.2.2.1) [fe C.qN,fe C.iF] [] (by intros;simp only[kK,M.L9,nb]<;>rfl)
def M.BP{R:Type}(v0:Int)(k:Int×Bool×Bool×Bool×Bool->Option R):Option R:=
 k ((1,false,false,true,false))
def M.oM(v0:Int):Option (Int×Bool×Bool×Bool×Bool):=M.BP v0 some
def C.oM:S.oM.ok X0 λx=>M.oM x.1.1:=fnS (λx=>M.BP x.1.1) [] [] (by intros;simp only[M.BP,nb]<;>rfl)
def M.uH{R:Type}(v9:au)(v10 x' qR:Int)(wO:aC)(zL:Int)(s:Int×au)(kn:Int×au->Option R)(ke:Int×au->Option R):Option R:=match s with
 |(v11,Dp)=>
 bif decide (v11<v10) then
 ((idx v9 v11).bind λarz=>
 (iK 5 arz λatd ate atf atg aix=>
 (bif decide (v11>0) then
 ((M.aX [44]).bind λaGX=>
 (M.tH.bind λaGY=>
 (jc Dp [eH aGX,eH aGY] 64 λza=>((M.oM v11).bind λaiy=>
 ((M.iF atd ate atf atg aix aiy.1 aiy.2.1 aiy.2.2.1 aiy.2.2.2.1 aiy.2.2.2.2).bind λaGZ=>
 (jc za [eH aGZ] 64 λzb=>(kn ((i64.wrap (v11+1),zb))))))))) else
 ((M.oM v11).bind λaiz=>
 ((M.iF atd ate atf atg aix aiz.1 aiz.2.1 aiz.2.2.1 aiz.2.2.2.1 aiz.2.2.2.2).bind λaG0=>
 (jc Dp [eH aG0] 64 λza=>(kn ((i64.wrap (v11+1),za))))))))) else(ke ((v11,Dp)))
def M.Gx(v9:au)(v10 x' qR:Int)(wO:aC)(zL:Int)(s:Int×au):=M.uH v9 v10 x' qR wO zL s (λs=>some (Sum.inl s)) λt=>some (Sum.inr t)
def M.DY(v9:au)(v10 x' qR:Int)(wO:aC)(zL:Int)(s:Int×au):Option (Int×au):=iT (M.Gx v9 v10 x' qR wO zL) s
def F.DY:LE X0 83:=le 3 (KF [fM 1 (aqT 123 [] []),fM 4 (pP 300000 0),fM 5 (pO 300001 0),fM 9 (pL false 5),fM 10 pI,fM 11 pI] [fM 300000 (cB 49 [pI,pI,pS,Zr 5,pI]),fM 300001 (cA false false 0 5)]) (λx=>(x.1.2.2.2.2.2.1,x.2.2.1)) (λx s=>((((),()),(),(),x.1.2.2.2.1,x.1.2.2.2.2.1,s.1,()),((x.2.1.1,x.2.1.2.1,x.2.1.2.2.1,(),x.2.1.2.2.2.2.1,()),s.2,()))) (λx=> .leaf (Int×au) (λt=>(Ex.exit 0,{tm:=[(1,V.clo 123 [] []),(4,V.ptr 300000 0),(5,V.own 300001 0),(9,V.d (D.sl false 5 x.1.2.2.2.1)),(10,V.d (D.int .i64 x.1.2.2.2.2.1)),(11,V.d (D.int .i64 t.1)),(12,V.d (D.bool false))],mem:=[(300000,Cell.box 49 [V.d (D.int .i64 x.2.1.1),V.d (D.int .i64 x.2.1.2.1),V.d (D.str x.2.1.2.2.1),V.nil 5,V.d (D.int .i64 x.2.1.2.2.2.2.1)]),(300001,Cell.arr false false 0 5 t.2)]}))) (λx=>M.uH x.1.2.2.2.1 x.1.2.2.2.2.1 x.2.1.1 x.2.1.2.1 x.2.1.2.2.1 x.2.1.2.2.2.2.1) [fe C.aX,fe C.tH,fe C.oM,fe C.iF] [] (by rintro _ _ ⟨_,_⟩ _ _<;>simp only[jc,eH,iK,M.uH,nb]<;>rfl)
def M.FN{R:Type}(kids:au)(k:Int×Int×aC×au×Int->Option R):Option R:=
 (M.DY kids ((↑kids.length:Int)) 0 0 [] 0 ((0,[]))).bind λaG1=>
 ((M.dD aG1.2).bind λaiA=>
 ((M.qy aiA.1 aiA.2.1 aiA.2.2.1 (bM aiA.2.2.2.1) aiA.2.2.2.2).bind λaiB=>
 ((M.pW aiB.1 aiB.2.1 aiB.2.2.1 (bM aiB.2.2.2.1) aiB.2.2.2.2).bind λaG2=>
 (k ((kK aG2))))))
def M.pY(kids:au):Option (Int×Int×aC×au×Int):=M.FN kids some
def C.pY:S.pY.ok X0 λx=>M.pY x.1.1:=fnS (λx=>M.FN x.1.1) [fe C.dD,fe C.qy,fe C.pW] [F.DY] (by intros;simp only[kK,M.FN,nb]<;>rfl)
def M.Io{R:Type}(t' gW:Int)(iG jA:aC)(iC:au)(k:Int×Int×aC×au×Int->Option R):Option R:=
 bif decide (0<=gW) && decide (gW<2) then
 ((cStr [D.str [112,114,105,110,116],D.str [112,114,105,110,116,102]] gW.toNat).bind λaG3=>
 ((M.aX aG3).bind λY4=>
 (bif !jA==[] then
 ((cut iC 0 (i64.wrap ((↑iC.length:Int) - 1))).bind λaiC=>
 (bif decide ((↑aiC.length:Int)>0) then
 ((M.aX [32]).bind λath=>
 ((M.pY aiC).bind λati=>
 (bif !jA==[] then
 (bif(1+jA.length).ble 9223372036854775807 then
 (bif(([32]++jA).length+1).ble 9223372036854775807 then
 ((M.aX ([32]++jA++[32])).bind λaG4=>
 ((idx iC (i64.wrap ((↑iC.length:Int) - 1))).bind λarA=>
 (iK 5 arA λaG5 aG6 aG7 aG8 apa=>
 ((M.iF aG5 aG6 aG7 aG8 apa 9 false false false false).bind λaG9=>
 ((M.dD ([eH Y4]++[eH ath,eH ati]++[eH aG4,eH aG9])).bind λaHa=>
 (k ((kK aHa)))))))) else none) else none) else
 ((M.dD ([eH Y4]++[eH ath,eH ati])).bind λaHb=>
 (k ((kK aHb))))))) else
 (bif !jA==[] then
 (bif(1+jA.length).ble 9223372036854775807 then
 (bif(([32]++jA).length+1).ble 9223372036854775807 then
 ((M.aX ([32]++jA++[32])).bind λaHc=>
 ((idx iC (i64.wrap ((↑iC.length:Int) - 1))).bind λarB=>
 (iK 5 arB λaHd aHe aHf aHg apb=>
 ((M.iF aHd aHe aHf aHg apb 9 false false false false).bind λaHh=>
 ((M.dD ([eH Y4]++[eH aHc,eH aHh])).bind λaHi=>
 (k ((kK aHi)))))))) else none) else none) else
 ((M.dD ([eH Y4])).bind λaHj=>
 (k ((kK aHj))))))) else
 (bif decide ((↑iC.length:Int)>0) then
 ((M.aX [32]).bind λatj=>
 ((M.pY iC).bind λatl=>
 (bif !jA==[] then
 (bif(1+jA.length).ble 9223372036854775807 then
 (bif(([32]++jA).length+1).ble 9223372036854775807 then
 ((M.aX ([32]++jA++[32])).bind λaHk=>
 ((idx iC (i64.wrap ((↑iC.length:Int) - 1))).bind λarC=>
 (iK 5 arC λaHl aHm aHn aHo apc=>
 ((M.iF aHl aHm aHn aHo apc 9 false false false false).bind λaHp=>
 ((M.dD ([eH Y4]++[eH atj,eH atl]++[eH aHk,eH aHp])).bind λaHq=>
 (k ((kK aHq)))))))) else none) else none) else
 ((M.dD ([eH Y4]++[eH atj,eH atl])).bind λaHr=>
 (k ((kK aHr))))))) else
 (bif !jA==[] then
 (bif(1+jA.length).ble 9223372036854775807 then
 (bif(([32]++jA).length+1).ble 9223372036854775807 then
 ((M.aX ([32]++jA++[32])).bind λaHs=>
 ((idx iC (i64.wrap ((↑iC.length:Int) - 1))).bind λarD=>
 (iK 5 arD λaHt aHu aHv aHw apd=>
 ((M.iF aHt aHu aHv aHw apd 9 false false false false).bind λaHx=>
 ((M.dD ([eH Y4]++[eH aHs,eH aHx])).bind λaHy=>
 (k ((kK aHy)))))))) else none) else none) else
 ((M.dD ([eH Y4])).bind λaHz=>
 (k ((kK aHz))))))))) else none
def M.vk(t' gW:Int)(iG jA:aC)(iC:au):Option (Int×Int×aC×au×Int):=M.Io t' gW iG jA iC some
def C.vk:S.vk.ok X0 λx=>M.vk x.1.1.1 x.1.1.2.1 x.1.1.2.2.1 x.1.1.2.2.2.1 x.1.1.2.2.2.2.1:=fnS (λx=>M.Io x.1.1.1 x.1.1.2.1 x.1.1.2.2.1 x.1.1.2.2.2.1 x.1.1.2.2.2.2.1) [fe C.aX,fe C.pY,fe C.iF,fe C.dD] [] (by intros;simp only[eH,kK,iK,M.Io,nb]<;>rfl)
def M.Mc{R:Type}(t' gW:Int)(iG jA:aC)(iC:au)(k:Int×Int×aC×au×Int->Option R):Option R:=
 bif t'==16 then
 ((M.aX []).bind λaHA=>
 (k ((kK aHA)))) else
 ((M.aX [32]).bind λaHB=>
 ((M.kL t' gW iG jA iC).bind λaHC=>
 ((M.dD ([eH aHB,eH aHC])).bind λaHD=>
 (k ((kK aHD))))))
def M.oN(t' gW:Int)(iG jA:aC)(iC:au):Option (Int×Int×aC×au×Int):=M.Mc t' gW iG jA iC some
def C.oN:S.oN.ok X0 λx=>M.oN x.1.1.1 x.1.1.2.1 x.1.1.2.2.1 x.1.1.2.2.2.1 x.1.1.2.2.2.2.1:=fnS (λx=>M.Mc x.1.1.1 x.1.1.2.1 x.1.1.2.2.1 x.1.1.2.2.2.1 x.1.1.2.2.2.2.1) [fe C.aX,fe C.kL,fe C.dD] [] (by intros;simp only[eH,kK,M.Mc,nb]<;>rfl)
def M.J3{R:Type}(word:aC)(t' gW:Int)(iG jA:aC)(iC:au)(k:Int×Int×aC×au×Int->Option R):Option R:=
 bif(↑iC.length:Int)==0 then
 ((M.aX word).bind λaHE=>
 (k ((kK aHE)))) else
 ((M.aX word).bind λaHF=>
 ((idx iC 0).bind λarE=>
 (iK 5 arE λaHG aHH aHI aHJ ape=>
 ((M.oN aHG aHH aHI aHJ ape).bind λaHK=>
 ((M.dD ([eH aHF,eH aHK])).bind λaHL=>
 (k ((kK aHL))))))))
def M.uO(word:aC)(t' gW:Int)(iG jA:aC)(iC:au):Option (Int×Int×aC×au×Int):=M.J3 word t' gW iG jA iC some
def C.uO:S.uO.ok X0 λx=>M.uO x.1.1 x.1.2.1.1 x.1.2.1.2.1 x.1.2.1.2.2.1 x.1.2.1.2.2.2.1 x.1.2.1.2.2.2.2.1:=fnS (λx=>M.J3 x.1.1 x.1.2.1.1 x.1.2.1.2.1 x.1.2.1.2.2.1 x.1.2.1.2.2.2.1 x.1.2.1.2.2.2.2.1) [fe C.aX,fe C.oN,fe C.dD] [] (by intros;simp only[eH,kK,iK,M.J3,nb]<;>rfl)
def M.SY{R:Type}(k:Int×Int×aC×au×Int->Option R):Option R:=
 k ((3,0,[],[],0))
def M.zG:Option (Int×Int×aC×au×Int):=M.SY some
def C.zG:S.zG.ok X0 λx=>M.zG:=fnS (λx=>M.SY) [] [] (by intros;simp only[M.SY,nb]<;>rfl)
def M.wz{R:Type}(jE:Int->Int->aC->aC->au->Option (Int×Int×aC×au×Int))(v8:au)(v9 x' qR:Int)(wO:aC)(zL:Int)(s:Int×au)(kn:Int×au->Option R)(ke:Int×au->Option R):Option R:=match s with
 |(v10,Dp)=>
 bif decide (v10<v9) then
 ((idx v8 v10).bind λarF=>
 (iK 5 arF λaHM aHN aHO aHP apf=>
 (M.zG.bind λaHQ=>
 ((jE aHM aHN aHO aHP apf).bind λaHR=>
 (jc Dp [eH aHQ,eH aHR] 64 λza=>(kn ((i64.wrap (v10+1),za)))))))) else(ke ((v10,Dp)))
def M.BQ(jE:Int->Int->aC->aC->au->Option (Int×Int×aC×au×Int))(v8:au)(v9 x' qR:Int)(wO:aC)(zL:Int)(s:Int×au):=M.wz jE v8 v9 x' qR wO zL s (λs=>some (Sum.inl s)) λt=>some (Sum.inr t)
def M.FP(jE:Int->Int->aC->aC->au->Option (Int×Int×aC×au×Int))(v8:au)(v9 x' qR:Int)(wO:aC)(zL:Int)(s:Int×au):Option (Int×au):=iT (M.BQ jE v8 v9 x' qR wO zL) s
def F.FP{jE:Int->Int->aC->aC->au->Option (Int×Int×aC×au×Int)}(OC:S.ou.ok X0 λx=>jE x.1.1.1 x.1.1.2.1 x.1.1.2.2.1 x.1.1.2.2.2.1 x.1.1.2.2.2.2.1):LE X0 86:=le 3 (KF [fM 2 (pP 300000 0),fM 3 (pO 300001 0),fM 8 (pL false 5),fM 9 pI,fM 10 pI] [fM 300000 (cB 49 [pI,pI,pS,Zr 5,pI]),fM 300001 (cA false false 0 5)]) (λx=>(x.1.2.2.2.2.1,x.2.2.1)) (λx s=>(((),(),x.1.2.2.1,x.1.2.2.2.1,s.1,()),((x.2.1.1,x.2.1.2.1,x.2.1.2.2.1,(),x.2.1.2.2.2.2.1,()),s.2,()))) (λx=> .leaf (Int×au) (λt=>(Ex.exit 0,{tm:=[(2,V.ptr 300000 0),(3,V.own 300001 0),(8,V.d (D.sl false 5 x.1.2.2.1)),(9,V.d (D.int .i64 x.1.2.2.2.1)),(10,V.d (D.int .i64 t.1)),(11,V.d (D.bool false))],mem:=[(300000,Cell.box 49 [V.d (D.int .i64 x.2.1.1),V.d (D.int .i64 x.2.1.2.1),V.d (D.str x.2.1.2.2.1),V.nil 5,V.d (D.int .i64 x.2.1.2.2.2.2.1)]),(300001,Cell.arr false false 0 5 t.2)]}))) (λx=>M.wz jE x.1.2.2.1 x.1.2.2.2.1 x.2.1.1 x.2.1.2.1 x.2.1.2.2.1 x.2.1.2.2.2.2.1) [fe C.zG,fe OC] [] (by rintro _ _ ⟨_,_⟩ _ _<;>simp only[jc,eH,iK,M.wz,nb]<;>rfl)
def M.xg{R:Type}(jE:Int->Int->aC->aC->au->Option (Int×Int×aC×au×Int))(t' gW:Int)(iG jA:aC)(iC:au)(k:Int×Int×aC×au×Int->Option R):Option R:=
 (M.FP jE iC ((↑iC.length:Int)) 0 0 [] 0 ((0,[]))).bind λaHS=>
 ((M.aX [123]).bind λaHT=>
 ((M.dD aHS.2).bind λaiD=>
 ((M.qy aiD.1 aiD.2.1 aiD.2.2.1 (bM aiD.2.2.2.1) aiD.2.2.2.2).bind λaHU=>
 (M.zG.bind λaHV=>
 ((M.aX [125]).bind λaHW=>
 ((M.dD ([eH aHT,eH aHU,eH aHV,eH aHW])).bind λaHX=>
 (k ((kK aHX)))))))))
def C.Yb{jE:Int->Int->aC->aC->au->Option (Int×Int×aC×au×Int)}(OC:S.ou.ok X0 λx=>jE x.1.1.1 x.1.1.2.1 x.1.1.2.2.1 x.1.1.2.2.2.1 x.1.1.2.2.2.2.1):S.iY.ok X0 λx=>M.xg jE x.1.1.1 x.1.1.2.1 x.1.1.2.2.1 x.1.1.2.2.2.1 x.1.1.2.2.2.2.1 some:=fnS (λx=>M.xg jE x.1.1.1 x.1.1.2.1 x.1.1.2.2.1 x.1.1.2.2.2.1 x.1.1.2.2.2.2.1) [fe C.aX,fe C.dD,fe C.qy,fe C.zG] [F.FP OC] (by intros;simp only[eH,kK,M.xg,nb]<;>rfl)
def M.rE{R:Type}(eU:Int->Int->aC->aC->au->Option (Int×Int×aC×au×Int))(t' gW:Int)(iG jA:aC)(iC:au)(k:Int×Int×aC×au×Int->Option R):Option R:=
 (M.aX [105,102,32,40]).bind λaHY=>
 ((idx iC 0).bind λarG=>
 (iK 5 arG λaHZ aH0 aH1 aH2 apg=>
 ((M.kL aHZ aH0 aH1 aH2 apg).bind λaH3=>
 ((M.aX [41,32]).bind λaH4=>
 ((idx iC 1).bind λarH=>
 (iK 5 arH λaH5 aH6 aH7 aH8 aph=>
 ((eU aH5 aH6 aH7 aH8 aph).bind λaH9=>
 ((M.dD ([eH aHY,eH aH3,eH aH4,eH aH9])).bind λatm=>
 (bif decide ((↑iC.length:Int)>2) then
 ((M.aX [32,101,108,115,101,32]).bind λaIa=>
 ((idx iC 2).bind λarI=>
 (iK 5 arI λaIb aIc aId aIe apj=>
 ((eU aIb aIc aId aIe apj).bind λaIf=>
 ((M.dD ([eH atm,eH aIa,eH aIf])).bind λaIg=>
 (k ((kK aIg)))))))) else
 (k ((kK atm))))))))))))
def C.Xe{eU:Int->Int->aC->aC->au->Option (Int×Int×aC×au×Int)}(C9:S.iY.ok X0 λx=>eU x.1.1.1 x.1.1.2.1 x.1.1.2.2.1 x.1.1.2.2.2.1 x.1.1.2.2.2.2.1):S.vO.ok X0 λx=>M.rE eU x.1.1.1 x.1.1.2.1 x.1.1.2.2.1 x.1.1.2.2.2.1 x.1.1.2.2.2.2.1 some:=fnS (λx=>M.rE eU x.1.1.1 x.1.1.2.1 x.1.1.2.2.1 x.1.1.2.2.2.1 x.1.1.2.2.2.2.1) [fe C.aX,fe C.kL,fe C9,fe C.dD] [] (by intros;simp only[eH,kK,iK,M.rE,nb]<;>rfl)
def M.wB{R:Type}(eU:Int->Int->aC->aC->au->Option (Int×Int×aC×au×Int))(t' gW:Int)(iG jA:aC)(iC:au)(k:Int×Int×aC×au×Int->Option R):Option R:=
 (M.aX []).bind λaIh=>
 ((idx iC 0).bind λarJ=>
 ((fB .i64 arJ 0).bind λaIi=>
 (bif aIi !=16 then
 ((idx iC 0).bind λarK=>
 (iK 5 arK λaIj aIk aIl aIm apk=>
 ((M.iF aIj aIk aIl aIm apk 1 false true false false).bind λaIn=>
 ((M.aX [102,111,114,32,40]).bind λaIo=>
 ((M.aX [59]).bind λaIp=>
 ((idx iC 1).bind λarL=>
 (iK 5 arL λaIq aIr aIs aIt apl=>
 ((M.oN aIq aIr aIs aIt apl).bind λaIu=>
 ((M.aX [59]).bind λaIv=>
 ((idx iC 2).bind λarM=>
 (iK 5 arM λaIw aIx aIy aIz apm=>
 ((M.oN aIw aIx aIy aIz apm).bind λaIA=>
 ((M.aX [41,32]).bind λaIB=>
 ((idx iC 3).bind λarN=>
 (iK 5 arN λaIC aID aIE aIF apn=>
 ((eU aIC aID aIE aIF apn).bind λaIG=>
 ((M.dD ([eH aIo,eH aIn,eH aIp,eH aIu,eH aIv,eH aIA,eH aIB,eH aIG])).bind λaIH=>
 (k ((kK aIH)))))))))))))))))))) else
 ((M.aX [102,111,114,32,40]).bind λaII=>
 ((M.aX [59]).bind λaIJ=>
 ((idx iC 1).bind λarO=>
 (iK 5 arO λaIK aIL aIM aIN apo=>
 ((M.oN aIK aIL aIM aIN apo).bind λaIO=>
 ((M.aX [59]).bind λaIP=>
 ((idx iC 2).bind λarP=>
 (iK 5 arP λaIQ aIR aIS aIT apq=>
 ((M.oN aIQ aIR aIS aIT apq).bind λaIU=>
 ((M.aX [41,32]).bind λaIV=>
 ((idx iC 3).bind λarQ=>
 (iK 5 arQ λaIW aIX aIY aIZ apr=>
 ((eU aIW aIX aIY aIZ apr).bind λaI0=>
 ((M.dD ([eH aII,eH aIh,eH aIJ,eH aIO,eH aIP,eH aIU,eH aIV,eH aI0])).bind λaI1=>
 (k ((kK aI1))))))))))))))))))))
def C.ZV{eU:Int->Int->aC->aC->au->Option (Int×Int×aC×au×Int)}(C9:S.iY.ok X0 λx=>eU x.1.1.1 x.1.1.2.1 x.1.1.2.2.1 x.1.1.2.2.2.1 x.1.1.2.2.2.2.1):S.Bz.ok X0 λx=>M.wB eU x.1.1.1 x.1.1.2.1 x.1.1.2.2.1 x.1.1.2.2.2.1 x.1.1.2.2.2.2.1 some:=fnS (λx=>M.wB eU x.1.1.1 x.1.1.2.1 x.1.1.2.2.1 x.1.1.2.2.2.1 x.1.1.2.2.2.2.1) [fe C.aX,fe C.iF,fe C.oN,fe C9,fe C.dD] [] (by intros;simp only[eH,kK,iK,M.wB,nb]<;>rfl)
def M.fP{R:Type}(wC:Int->Int->aC->aC->au->Option (Int×Int×aC×au×Int))(eU:Int->Int->aC->aC->au->Option (Int×Int×aC×au×Int))(Ah:Int->Int->aC->aC->au->Option (Int×Int×aC×au×Int))(t' gW:Int)(iG jA:aC)(iC:au)(k:Int×Int×aC×au×Int->Option R):Option R:=
 bif t'==20 then
 ((idx iC 0).bind λarR=>
 (iK 5 arR λaI2 aI3 aI4 aI5 aps=>
 ((M.kL aI2 aI3 aI4 aI5 aps).bind λaI6=>
 (k ((kK aI6)))))) else
 (bif t'==21 then
 ((M.vk t' gW iG jA iC).bind λaI7=>
 (k ((kK aI7)))) else
 (bif t'==22 then
 ((M.aX [110,101,120,116]).bind λaI8=>
 (k ((kK aI8)))) else
 (bif t'==25 then
 ((M.aX [98,114,101,97,107]).bind λaI9=>
 (k ((kK aI9)))) else
 (bif t'==26 then
 ((M.aX [99,111,110,116,105,110,117,101]).bind λaJa=>
 (k ((kK aJa)))) else
 (bif t'==23 then
 ((M.uO [101,120,105,116] t' gW iG jA iC).bind λaJb=>
 (k ((kK aJb)))) else
 (bif t'==24 then
 ((M.uO [114,101,116,117,114,110] t' gW iG jA iC).bind λaJc=>
 (k ((kK aJc)))) else
 (bif t'==27 then
 (bif(↑iC.length:Int)==0 then
 (bif(7+iG.length).ble 9223372036854775807 then
 ((M.aX ([100,101,108,101,116,101,32]++iG)).bind λaJd=>
 (k ((kK aJd)))) else none) else
 (bif(7+iG.length).ble 9223372036854775807 then
 (bif(([100,101,108,101,116,101,32]++iG).length+1).ble 9223372036854775807 then
 ((M.aX ([100,101,108,101,116,101,32]++iG++[91])).bind λaJe=>
 ((M.oq iC).bind λaJf=>
 ((M.aX [93]).bind λaJg=>
 ((M.dD ([eH aJe,eH aJf,eH aJg])).bind λaJh=>
 (k ((kK aJh))))))) else none) else none)) else
 (bif t'==28 then
 ((wC t' gW iG jA iC).bind λaJi=>
 (k ((kK aJi)))) else
 (bif t'==29 then
 ((M.aX [119,104,105,108,101,32,40]).bind λaJj=>
 ((idx iC 0).bind λarS=>
 (iK 5 arS λaJk aJl aJm aJn apt=>
 ((M.kL aJk aJl aJm aJn apt).bind λaJo=>
 ((M.aX [41,32]).bind λaJp=>
 ((idx iC 1).bind λarU=>
 (iK 5 arU λaJq aJr aJs aJt apu=>
 ((eU aJq aJr aJs aJt apu).bind λaJu=>
 ((M.dD ([eH aJj,eH aJo,eH aJp,eH aJu])).bind λaJv=>
 (k ((kK aJv)))))))))))) else
 (bif t'==30 then
 ((M.aX [100,111,32]).bind λaJw=>
 ((idx iC 0).bind λarV=>
 (iK 5 arV λaJx aJy aJz aJA apv=>
 ((eU aJx aJy aJz aJA apv).bind λaJB=>
 ((M.aX [32,119,104,105,108,101,32,40]).bind λaJC=>
 ((idx iC 1).bind λarW=>
 (iK 5 arW λaJD aJE aJF aJG apw=>
 ((M.kL aJD aJE aJF aJG apw).bind λaJH=>
 ((M.aX [41]).bind λaJI=>
 ((M.dD ([eH aJw,eH aJB,eH aJC,eH aJH,eH aJI])).bind λaJJ=>
 (k ((kK aJJ))))))))))))) else
 (bif t'==31 then
 ((Ah t' gW iG jA iC).bind λaJK=>
 (k ((kK aJK)))) else
 (bif t'==32 then
 (bif(5+iG.length).ble 9223372036854775807 then
 (bif(([102,111,114,32,40]++iG).length+4).ble 9223372036854775807 then
 (bif(([102,111,114,32,40]++iG++[32,105,110,32]).length+jA.length).ble 9223372036854775807 then
 (bif(([102,111,114,32,40]++iG++[32,105,110,32]++jA).length+2).ble 9223372036854775807 then
 ((M.aX ([102,111,114,32,40]++iG++[32,105,110,32]++jA++[41,32])).bind λaJL=>
 ((idx iC 0).bind λarX=>
 (iK 5 arX λaJM aJN aJO aJP apx=>
 ((eU aJM aJN aJO aJP apx).bind λaJQ=>
 ((M.dD ([eH aJL,eH aJQ])).bind λaJR=>
 (k ((kK aJR)))))))) else none) else none) else none) else none) else
 (bif t'==33 then
 ((eU t' gW iG jA iC).bind λaJS=>
 (k ((kK aJS)))) else
 ((M.aX iG).bind λaJT=>
 (k ((kK aJT)))))))))))))))))
def C.ZW{wC:Int->Int->aC->aC->au->Option (Int×Int×aC×au×Int)}{eU:Int->Int->aC->aC->au->Option (Int×Int×aC×au×Int)}{Ah:Int->Int->aC->aC->au->Option (Int×Int×aC×au×Int)}(Yc:S.vO.ok X0 λx=>wC x.1.1.1 x.1.1.2.1 x.1.1.2.2.1 x.1.1.2.2.2.1 x.1.1.2.2.2.2.1)(C9:S.iY.ok X0 λx=>eU x.1.1.1 x.1.1.2.1 x.1.1.2.2.1 x.1.1.2.2.2.1 x.1.1.2.2.2.2.1)(abT:S.Bz.ok X0 λx=>Ah x.1.1.1 x.1.1.2.1 x.1.1.2.2.1 x.1.1.2.2.2.1 x.1.1.2.2.2.2.1):S.ou.ok X0 λx=>M.fP wC eU Ah x.1.1.1 x.1.1.2.1 x.1.1.2.2.1 x.1.1.2.2.2.1 x.1.1.2.2.2.2.1 some:=fnS (λx=>M.fP wC eU Ah x.1.1.1 x.1.1.2.1 x.1.1.2.2.1 x.1.1.2.2.2.1 x.1.1.2.2.2.2.1) [fe C.kL,fe C.vk,fe C.aX,fe C.uO,fe C.oq,fe C.dD,fe Yc,fe C9,fe abT] [] (by intros;simp only[M.fP,eH,kK,iK];repeat' first|with_reducible apply gZ|with_reducible apply GV|with_reducible apply GX|with_reducible apply GY|with_reducible apply GZ|(intro _)|apply gZ|rfl)
def M.lY:Nat->(Int->Int->aC->aC->au->Option (Int×Int×aC×au×Int))×(Int->Int->aC->aC->au->Option (Int×Int×aC×au×Int))×(Int->Int->aC->aC->au->Option (Int×Int×aC×au×Int))×(Int->Int->aC->aC->au->Option (Int×Int×aC×au×Int)):=
 Nat.rec (λ_ _ _ _ _=>none,λ_ _ _ _ _=>none,λ_ _ _ _ _=>none,λ_ _ _ _ _=>none) λ_ qz=>(λt' gW iG jA iC=>M.fP qz.2.2.1 qz.2.1 qz.2.2.2 t' gW iG jA iC some,λt' gW iG jA iC=>M.xg qz.1 t' gW iG jA iC some,λt' gW iG jA iC=>M.rE qz.2.1 t' gW iG jA iC some,λt' gW iG jA iC=>M.wB qz.2.1 t' gW iG jA iC some)
def M.sV(n:Nat):Int->Int->aC->aC->au->Option (Int×Int×aC×au×Int):=(M.lY n).1
def M.oD(n:Nat):Int->Int->aC->aC->au->Option (Int×Int×aC×au×Int):=(M.lY n).2.1
def M.FQ(n:Nat):Int->Int->aC->aC->au->Option (Int×Int×aC×au×Int):=(M.lY n).2.2.1
def M.J4(n:Nat):Int->Int->aC->aC->au->Option (Int×Int×aC×au×Int):=(M.lY n).2.2.2
def M.abU(n:Nat):M.sV (n+1)=λt' gW iG jA iC=>M.fP (M.FQ n) (M.oD n) (M.J4 n) t' gW iG jA iC some:=rfl
def M.ZX(n:Nat):M.oD (n+1)=λt' gW iG jA iC=>M.xg (M.sV n) t' gW iG jA iC some:=rfl
def M.Qi(n:Nat):M.FQ (n+1)=λt' gW iG jA iC=>M.rE (M.oD n) t' gW iG jA iC some:=rfl
def M.S9(n:Nat):M.J4 (n+1)=λt' gW iG jA iC=>M.wB (M.oD n) t' gW iG jA iC some:=rfl
def M.ou(t' gW:Int)(iG jA:aC)(iC:au):Option (Int×Int×aC×au×Int):=lim λn=>M.sV n t' gW iG jA iC
def M.iY(t' gW:Int)(iG jA:aC)(iC:au):Option (Int×Int×aC×au×Int):=lim λn=>M.oD n t' gW iG jA iC
def M.vO(t' gW:Int)(iG jA:aC)(iC:au):Option (Int×Int×aC×au×Int):=lim λn=>M.FQ n t' gW iG jA iC
def M.Bz(t' gW:Int)(iG jA:aC)(iC:au):Option (Int×Int×aC×au×Int):=lim λn=>M.J4 n t' gW iG jA iC
def C.lY:∀n,(S.ou.ok X0 λx=>M.sV n x.1.1.1 x.1.1.2.1 x.1.1.2.2.1 x.1.1.2.2.2.1 x.1.1.2.2.2.2.1)∧(S.iY.ok X0 λx=>M.oD n x.1.1.1 x.1.1.2.1 x.1.1.2.2.1 x.1.1.2.2.2.1 x.1.1.2.2.2.2.1)∧(S.vO.ok X0 λx=>M.FQ n x.1.1.1 x.1.1.2.1 x.1.1.2.2.1 x.1.1.2.2.2.1 x.1.1.2.2.2.2.1)∧(S.Bz.ok X0 λx=>M.J4 n x.1.1.1 x.1.1.2.1 x.1.1.2.2.1 x.1.1.2.2.2.1 x.1.1.2.2.2.2.1)
 |0=>⟨fK.zero,fK.zero,fK.zero,fK.zero⟩
 |n+1=>have h:=C.lY n;⟨C.ZW h.2.2.1 h.2.1 h.2.2.2,C.Yb h.1,C.Xe h.2.1,C.ZV h.2.1⟩
def C.ou:S.ou.ok X0 λx=>M.ou x.1.1.1 x.1.1.2.1 x.1.1.2.2.1 x.1.1.2.2.2.1 x.1.1.2.2.2.2.1:=fK.lim λn=>(C.lY n).1
def M.ZY{n:Nat}{t' gW:Int}{iG jA:aC}{iC:au}{r:Int×Int×aC×au×Int}(h:M.sV n t' gW iG jA iC=some r):M.ou t' gW iG jA iC=some r:=
 fK.Em (λn=>(C.lY n).1) (by intro a b h;simp[S.ou,sg] at h;first|exact h|simp[Prod.ext_iff,h]) (x:=(((t',gW,iG,jA,iC,()),()),())) h
def C.iY:S.iY.ok X0 λx=>M.iY x.1.1.1 x.1.1.2.1 x.1.1.2.2.1 x.1.1.2.2.2.1 x.1.1.2.2.2.2.1:=fK.lim λn=>(C.lY n).2.1
def M.Yd{n:Nat}{t' gW:Int}{iG jA:aC}{iC:au}{r:Int×Int×aC×au×Int}(h:M.oD n t' gW iG jA iC=some r):M.iY t' gW iG jA iC=some r:=
 fK.Em (λn=>(C.lY n).2.1) (by intro a b h;simp[S.iY,sg] at h;first|exact h|simp[Prod.ext_iff,h]) (x:=(((t',gW,iG,jA,iC,()),()),())) h
def C.vO:S.vO.ok X0 λx=>M.vO x.1.1.1 x.1.1.2.1 x.1.1.2.2.1 x.1.1.2.2.2.1 x.1.1.2.2.2.2.1:=fK.lim λn=>(C.lY n).2.2.1
def C.Bz:S.Bz.ok X0 λx=>M.Bz x.1.1.1 x.1.1.2.1 x.1.1.2.2.1 x.1.1.2.2.2.1 x.1.1.2.2.2.2.1:=fK.lim λn=>(C.lY n).2.2.2
def M.qo{R:Type}(jl:Int->Int->aC->au->Int->au->Option (au))(s:(au×Int×Int×au×Int×Int×aC)⊕(au×Int×Int×au×Int×Int×aC×au))(kn:(au×Int×Int×au×Int×Int×aC)⊕(au×Int×Int×au×Int×Int×aC×au)->Option R)(ke:(au×Int×Int×au×Int×Int×aC)⊕(au×Int×Int×au×Int×Int×aC×au)->Option R):Option R:=match s with
 | .inl ((v16,v17,v18,x',qR,wO,zL))=>
 bif decide (v18<v17) then
 ((idx v16 v18).bind λXf=>
 ((fB .i64 Xf 0).bind λaJU=>
 ((fB .i64 Xf 1).bind λaJV=>
 ((cStr Xf 2).bind λaJW=>
 ((TL 5 Xf 3).bind λapy=>
 ((fB .i64 Xf 4).bind λaJX=>
 ((jl aJU aJV aJW apy aJX x').bind λatn=>
 (kn (.inr ((v16,v17,i64.wrap (v18+1),atn,qR,wO,zL,[[D.int .i64 (i64.wrap ((↑atn.length:Int) - 1))]]))))))))))) else(ke (.inl ((v16,v17,v18,x',qR,wO,zL))))
 | .inr ((v16,v17,v18,x',qR,wO,zL,Dp))=>
 bif decide (v18<v17) then
 ((idx v16 v18).bind λXg=>
 ((fB .i64 Xg 0).bind λaJY=>
 ((fB .i64 Xg 1).bind λaJZ=>
 ((cStr Xg 2).bind λaJ0=>
 ((TL 5 Xg 3).bind λapz=>
 ((fB .i64 Xg 4).bind λaJ1=>
 ((jl aJY aJZ aJ0 apz aJ1 x').bind λato=>
 (jc Dp [[D.int .i64 (i64.wrap ((↑ato.length:Int) - 1))]] 8 λza=>(kn (.inr ((v16,v17,i64.wrap (v18+1),ato,qR,wO,zL,za)))))))))))) else(ke (.inr ((v16,v17,v18,x',qR,wO,zL,Dp))))
def M.tV(jl:Int->Int->aC->au->Int->au->Option (au))(s:(au×Int×Int×au×Int×Int×aC)⊕(au×Int×Int×au×Int×Int×aC×au)):=M.qo jl s (λs=>some (Sum.inl s)) λt=>some (Sum.inr t)
def M.Ip(jl:Int->Int->aC->au->Int->au->Option (au))(s:(au×Int×Int×au×Int×Int×aC)⊕(au×Int×Int×au×Int×Int×aC×au)):Option ((au×Int×Int×au×Int×Int×aC)⊕(au×Int×Int×au×Int×Int×aC×au)):=iT (M.tV jl) s
def F.Ip{jl:Int->Int->aC->au->Int->au->Option (au)}(OD:S.oz.ok X0 λx=>jl x.1.1.1 x.1.1.2.1 x.1.1.2.2.1 x.1.1.2.2.2.1 x.1.1.2.2.2.2.1 x.1.2.1):LE X0 89:=le 3 (pOr (KF [fM 1 (pO 300000 0),fM 5 (pP 300001 0),fM 16 (pL false 5),fM 17 pI,fM 18 pI] [fM 300000 (cA false false 0 4),fM 300001 (cB 58 [pI,pI,pS,Zr 1])]) (KF [fM 1 (pO 300000 0),fM 5 (pP 300001 0),fM 16 (pL false 5),fM 17 pI,fM 18 pI] [fM 300000 (cA false false 0 4),fM 300001 (cB 58 [pI,pI,pS,pO 300002 0]),fM 300002 (cA false true 0 1)])) (σ:=(au×Int×Int×au×Int×Int×aC)⊕(au×Int×Int×au×Int×Int×aC×au)) (λx=>(match x with| .inl x=> .inl ((x.1.2.2.1,x.1.2.2.2.1,x.1.2.2.2.2.1,x.2.1,x.2.2.1.1,x.2.2.1.2.1,x.2.2.1.2.2.1))| .inr x=> .inr ((x.1.2.2.1,x.1.2.2.2.1,x.1.2.2.2.2.1,x.2.1,x.2.2.1.1,x.2.2.1.2.1,x.2.2.1.2.2.1,x.2.2.2.1)))) (λx s=>(match s with| .inl s=> .inl ((((),(),s.1,s.2.1,s.2.2.1,()),(s.2.2.2.1,(s.2.2.2.2.1,s.2.2.2.2.2.1,s.2.2.2.2.2.2,(),()),())))| .inr s=> .inr ((((),(),s.1,s.2.1,s.2.2.1,()),(s.2.2.2.1,(s.2.2.2.2.1,s.2.2.2.2.2.1,s.2.2.2.2.2.2.1,(),()),s.2.2.2.2.2.2.2,()))))) (λx=> .sum (.leaf (au×Int×Int×au×Int×Int×aC) (λt=>(Ex.exit 0,{tm:=[(1,V.own 300000 0),(5,V.ptr 300001 0),(16,V.d (D.sl false 5 t.1)),(17,V.d (D.int .i64 t.2.1)),(18,V.d (D.int .i64 t.2.2.1)),(19,V.d (D.bool false))],mem:=[(300000,Cell.arr false false 0 4 t.2.2.2.1),(300001,Cell.box 58 [V.d (D.int .i64 t.2.2.2.2.1),V.d (D.int .i64 t.2.2.2.2.2.1),V.d (D.str t.2.2.2.2.2.2),V.nil 1])]}))) (.leaf (au×Int×Int×au×Int×Int×aC×au) (λt=>(Ex.exit 0,{tm:=[(1,V.own 300000 0),(5,V.ptr 300001 0),(16,V.d (D.sl false 5 t.1)),(17,V.d (D.int .i64 t.2.1)),(18,V.d (D.int .i64 t.2.2.1)),(19,V.d (D.bool false))],mem:=[(300000,Cell.arr false false 0 4 t.2.2.2.1),(300001,Cell.box 58 [V.d (D.int .i64 t.2.2.2.2.1),V.d (D.int .i64 t.2.2.2.2.2.1),V.d (D.str t.2.2.2.2.2.2.1),V.own 300002 0]),(300002,Cell.arr false true 0 1 t.2.2.2.2.2.2.2)]})))) (λx=>M.qo jl) [fe OD] [] (by rintro _ _ (⟨_,_,_,_,_,_,_⟩|⟨_,_,_,_,_,_,_,_⟩) _ _<;>simp only[jc,M.qo,nb]<;>rfl) (hE:=by intro _ _ s _;rcases s with s|s<;>kernel_rfl)
def M.EK{R:Type}(jl:Int->Int->aC->au->Int->au->Option (au))(d d1:Int)(d2:aC)(d3:au)(d4:Int)(l:au)(k:au->Option R):Option R:=
 (M.Ip jl (.inl ((d3,(↑d3.length:Int),0,l,d,d1,d2)))).bind λaJ2=>
 yS aJ2 (λakU=>
 (jc akU.2.2.2.1 [[D.int .i64 akU.2.2.2.2.1,D.int .i64 akU.2.2.2.2.2.1,D.str akU.2.2.2.2.2.2,D.sl true 1 []]] 56 λza=>(k za))) λaJ3=>
 letE aJ3 λaej=>
 (bif aA aej.2.2.2.2.2.2.2 then
 (jc aej.2.2.2.1 [[D.int .i64 aej.2.2.2.2.1,D.int .i64 aej.2.2.2.2.2.1,D.str aej.2.2.2.2.2.2.1,D.sl true 1 aej.2.2.2.2.2.2.2]] 56 λza=>(k za)) else none)
def M.kP:Nat->Int->Int->aC->au->Int->au->Option (au)
 |0=>λ_ _ _ _ _ _=>none
 |n+1=>λd d1 d2 d3 d4 l=>M.EK (M.kP n) d d1 d2 d3 d4 l some
def M.oz(d d1:Int)(d2:aC)(d3:au)(d4:Int)(l:au):Option (au):=lim λn=>M.kP n d d1 d2 d3 d4 l
def C.Z4{jl:Int->Int->aC->au->Int->au->Option (au)}(OD:S.oz.ok X0 λx=>jl x.1.1.1 x.1.1.2.1 x.1.1.2.2.1 x.1.1.2.2.2.1 x.1.1.2.2.2.2.1 x.1.2.1):S.oz.ok X0 λx=>M.EK jl x.1.1.1 x.1.1.2.1 x.1.1.2.2.1 x.1.1.2.2.2.1 x.1.1.2.2.2.2.1 x.1.2.1 some:=fnS (λx=>M.EK jl x.1.1.1 x.1.1.2.1 x.1.1.2.2.1 x.1.1.2.2.2.1 x.1.1.2.2.2.2.1 x.1.2.1) [] [F.Ip OD] (by intros;simp only[jc,M.EK,nb]<;>rfl)
def C.kP:∀n,S.oz.ok X0 λx=>M.kP n x.1.1.1 x.1.1.2.1 x.1.1.2.2.1 x.1.1.2.2.2.1 x.1.1.2.2.2.2.1 x.1.2.1
 |0=>fK.zero
 |n+1=>C.Z4 (C.kP n)
def C.oz:S.oz.ok X0 λx=>M.oz x.1.1.1 x.1.1.2.1 x.1.1.2.2.1 x.1.1.2.2.2.1 x.1.1.2.2.2.2.1 x.1.2.1:=fK.lim C.kP
def M.Z5{n:Nat}{d d1:Int}{d2:aC}{d3:au}{d4:Int}{l r:au}(h:M.kP n d d1 d2 d3 d4 l=some r):M.oz d d1 d2 d3 d4 l=some r:=
 fK.Em C.kP (by intro a b h;simp[S.oz,sg] at h;first|exact h|simp[Prod.ext_iff,h]) (x:=(((d,d1,d2,d3,d4,()),l,()),())) h
def M.Iq{R:Type}(d d1:Int)(d2:aC)(d3:au)(d4:Int)(k:au->Option R):Option R:=
 (M.oz d d1 d2 d3 d4 []).bind λaJ4=>(k aJ4)
def M.rW(d d1:Int)(d2:aC)(d3:au)(d4:Int):Option (au):=M.Iq d d1 d2 d3 d4 some
def C.rW:S.rW.ok X0 λx=>M.rW x.1.1.1 x.1.1.2.1 x.1.1.2.2.1 x.1.1.2.2.2.1 x.1.1.2.2.2.2.1:=fnS (λx=>M.Iq x.1.1.1 x.1.1.2.1 x.1.1.2.2.1 x.1.1.2.2.2.1 x.1.1.2.2.2.2.1) [fe C.oz] [] (by intros;simp only[M.Iq,nb]<;>rfl)
def M.Ai{R:Type}(a b:au)(s:Int)(kn:Int->Option R)(ke:(Unit)⊕(Int)->Option R):Option R:=match s with
 |i=>
 bif decide (i<(↑a.length:Int)) then
 ((idx a i).bind λarY=>
 ((fB .i64 arY 0).bind λaJ5=>
 ((idx b i).bind λarZ=>
 ((fB .i64 arZ 0).bind λaJ6=>(bif aJ5 !=aJ6 then(ke (.inl ())) else(kn (i64.wrap (i+1)))))))) else(ke (.inr i))
def M.FT(a b:au)(s:Int):=M.Ai a b s (λs=>some (Sum.inl s)) λt=>some (Sum.inr t)
def M.J5(a b:au)(s:Int):Option ((Unit)⊕(Int)):=iT (M.FT a b) s
def F.J5:LE X0 90:=le 4 (KF [fM 0 (pL false 1),fM 1 (pL false 1),fM 5 pI] []) (λx=>x.1.2.2.1) (λx s=>((x.1.1,x.1.2.1,s,()),())) (λx=> .sum (.leaf (Unit) (λt=>(Ex.ret,{tm:=[(4,V.d (D.bool false))],mem:=[]}))) (.leaf (Int) (λt=>(Ex.exit 0,{tm:=[(0,V.d (D.sl false 1 x.1.1)),(1,V.d (D.sl false 1 x.1.2.1)),(5,V.d (D.int .i64 t)),(14,V.d (D.bool false))],mem:=[]})))) (λx=>M.Ai x.1.1 x.1.2.1) [] [] (by rintro _ _ _ _ _<;>simp only[M.Ai,nb]<;>rfl)
def M.Md{R:Type}(a b:au)(k:Bool->Option R):Option R:=
 bif(↑a.length:Int) !=(↑b.length:Int) then(k false) else
 ((M.J5 a b 0).bind λaJ7=>
 yS aJ7 (λaYa=>(k false)) λaJ8=>
 letE aJ8 λaYb=>(k true))
def M.vC(a b:au):Option (Bool):=M.Md a b some
def C.vC:S.vC.ok X0 λx=>M.vC x.1.1 x.1.2.1:=fnS (λx=>M.Md x.1.1 x.1.2.1) [] [F.J5] (by intros;simp only[M.Md,nb]<;>rfl)
def M.J6{R:Type}(a a1:Int)(a2:aC)(a3:au)(b b1:Int)(b2:aC)(b3:au)(k:Bool->Option R):Option R:=
 bif a !=b then(k false) else
 (bif a1 !=b1 then(k false) else
 (bif !a2==b2 then(k false) else((M.vC a3 b3).bind λaJ9=>(bif !aJ9 then(k false) else(k true)))))
def M.xO(a a1:Int)(a2:aC)(a3:au)(b b1:Int)(b2:aC)(b3:au):Option (Bool):=M.J6 a a1 a2 a3 b b1 b2 b3 some
def C.xO:S.xO.ok X0 λx=>M.xO x.1.1.1 x.1.1.2.1 x.1.1.2.2.1 x.1.1.2.2.2.1 x.1.2.1.1 x.1.2.1.2.1 x.1.2.1.2.2.1 x.1.2.1.2.2.2.1:=fnS (λx=>M.J6 x.1.1.1 x.1.1.2.1 x.1.1.2.2.1 x.1.1.2.2.2.1 x.1.2.1.1 x.1.2.1.2.1 x.1.2.1.2.2.1 x.1.2.1.2.2.2.1) [fe C.vC] [] (by intros;simp only[M.J6,nb]<;>rfl)
def M.wE{R:Type}(a b:au)(s:Int)(kn:Int->Option R)(ke:(Unit)⊕(Int)->Option R):Option R:=match s with
 |i=>
 bif decide (i<(↑a.length:Int)) then
 ((idx a i).bind λaap=>
 ((fB .i64 aap 0).bind λaKa=>
 ((fB .i64 aap 1).bind λaKb=>
 ((cStr aap 2).bind λaKc=>
 ((TL 1 aap 3).bind λapA=>
 ((idx b i).bind λaaq=>
 ((fB .i64 aaq 0).bind λaKd=>
 ((fB .i64 aaq 1).bind λaKe=>
 ((cStr aaq 2).bind λaKf=>
 ((TL 1 aaq 3).bind λapB=>
 ((M.xO aKa aKb aKc apA aKd aKe aKf apB).bind λaKg=>(bif !aKg then(ke (.inl ())) else(kn (i64.wrap (i+1))))))))))))))) else(ke (.inr i))
def M.BR(a b:au)(s:Int):=M.wE a b s (λs=>some (Sum.inl s)) λt=>some (Sum.inr t)
def M.FU(a b:au)(s:Int):Option ((Unit)⊕(Int)):=iT (M.BR a b) s
def F.FU:LE X0 13:=le 4 (KF [fM 0 (pL false 4),fM 1 (pL false 4),fM 5 pI] []) (λx=>x.1.2.2.1) (λx s=>((x.1.1,x.1.2.1,s,()),())) (λx=> .sum (.leaf (Unit) (λt=>(Ex.ret,{tm:=[(4,V.d (D.bool false))],mem:=[]}))) (.leaf (Int) (λt=>(Ex.exit 0,{tm:=[(0,V.d (D.sl false 4 x.1.1)),(1,V.d (D.sl false 4 x.1.2.1)),(5,V.d (D.int .i64 t)),(14,V.d (D.bool false))],mem:=[]})))) (λx=>M.wE x.1.1 x.1.2.1) [fe C.xO] [] (by rintro _ _ _ _ _<;>simp only[M.wE,nb]<;>rfl)
def M.Ir{R:Type}(a b:au)(k:Bool->Option R):Option R:=
 bif(↑a.length:Int) !=(↑b.length:Int) then(k false) else
 ((M.FU a b 0).bind λaKh=>
 yS aKh (λaYc=>(k false)) λaKi=>
 letE aKi λaYd=>(k true))
def M.pq(a b:au):Option (Bool):=M.Ir a b some
def C.pq:S.pq.ok X0 λx=>M.pq x.1.1 x.1.2.1:=fnS (λx=>M.Ir x.1.1 x.1.2.1) [] [F.FU] (by intros;simp only[M.Ir,nb]<;>rfl)
def M.Me{R:Type}(a a1:Int)(a2 a3:aC)(a4:au)(b b1:Int)(b2 b3:aC)(b4:au)(k:Bool->Option R):Option R:=
 bif a !=b then(k false) else
 (bif a1 !=b1 then(k false) else
 (bif !a2==b2 then(k false) else
 (bif !a3==b3 then(k false) else((M.vC a4 b4).bind λaKj=>(bif !aKj then(k false) else(k true))))))
def M.Bf(a a1:Int)(a2 a3:aC)(a4:au)(b b1:Int)(b2 b3:aC)(b4:au):Option (Bool):=M.Me a a1 a2 a3 a4 b b1 b2 b3 b4 some
def C.Bf:S.Bf.ok X0 λx=>M.Bf x.1.1.1 x.1.1.2.1 x.1.1.2.2.1 x.1.1.2.2.2.1 x.1.1.2.2.2.2.1 x.1.2.1.1 x.1.2.1.2.1 x.1.2.1.2.2.1 x.1.2.1.2.2.2.1 x.1.2.1.2.2.2.2.1:=fnS (λx=>M.Me x.1.1.1 x.1.1.2.1 x.1.1.2.2.1 x.1.1.2.2.2.1 x.1.1.2.2.2.2.1 x.1.2.1.1 x.1.2.1.2.1 x.1.2.1.2.2.1 x.1.2.1.2.2.2.1 x.1.2.1.2.2.2.2.1) [fe C.vC] [] (by intros;simp only[M.Me,nb]<;>rfl)
def M.yF{R:Type}(a b:au)(s:Int)(kn:Int->Option R)(ke:(Unit)⊕(Int)->Option R):Option R:=match s with
 |i=>
 bif decide (i<(↑a.length:Int)) then
 ((idx a i).bind λar0=>
 (iK 1 ar0 λaKk aKl aKm aKn apC=>
 ((idx b i).bind λar1=>
 (iK 1 ar1 λaKo aKp aKq aKr apD=>
 ((M.Bf aKk aKl aKm aKn apC aKo aKp aKq aKr apD).bind λaKs=>(bif !aKs then(ke (.inl ())) else(kn (i64.wrap (i+1))))))))) else(ke (.inr i))
def M.DZ(a b:au)(s:Int):=M.yF a b s (λs=>some (Sum.inl s)) λt=>some (Sum.inr t)
def M.Iu(a b:au)(s:Int):Option ((Unit)⊕(Int)):=iT (M.DZ a b) s
def F.Iu:LE X0 14:=le 4 (KF [fM 0 (pL false 5),fM 1 (pL false 5),fM 5 pI] []) (λx=>x.1.2.2.1) (λx s=>((x.1.1,x.1.2.1,s,()),())) (λx=> .sum (.leaf (Unit) (λt=>(Ex.ret,{tm:=[(4,V.d (D.bool false))],mem:=[]}))) (.leaf (Int) (λt=>(Ex.exit 0,{tm:=[(0,V.d (D.sl false 5 x.1.1)),(1,V.d (D.sl false 5 x.1.2.1)),(5,V.d (D.int .i64 t)),(14,V.d (D.bool false))],mem:=[]})))) (λx=>M.yF x.1.1 x.1.2.1) [fe C.Bf] [] (by rintro _ _ _ _ _<;>simp only[iK,M.yF,nb]<;>rfl)
def M.J7{R:Type}(a b:au)(k:Bool->Option R):Option R:=
 bif(↑a.length:Int) !=(↑b.length:Int) then(k false) else
 ((M.Iu a b 0).bind λaKt=>
 yS aKt (λaYe=>(k false)) λaKu=>
 letE aKu λaYf=>(k true))
def M.xP(a b:au):Option (Bool):=M.J7 a b some
def C.xP:S.xP.ok X0 λx=>M.xP x.1.1 x.1.2.1:=fnS (λx=>M.J7 x.1.1 x.1.2.1) [] [F.Iu] (by intros;simp only[M.J7,nb]<;>rfl)
def M.wF{R:Type}(s:Int×aC)(kn:Int×aC->Option R)(ke:Int×aC->Option R):Option R:=match s with
 |(k',out')=>
 bif decide (k'>0) then
 (bif([UInt8.ofNat (IntKind.u8.wrap (i64.wrap (48+k'.tmod 10))).toNat].length+out'.length).ble 9223372036854775807 then
 (kn ((i64.wrap (k'.tdiv 10),[UInt8.ofNat (IntKind.u8.wrap (i64.wrap (48+k'.tmod 10))).toNat]++out'))) else none) else(ke ((k',out')))
def M.BU(s:Int×aC):=M.wF s (λs=>some (Sum.inl s)) λt=>some (Sum.inr t)
def M.vJ(s:Int×aC):Option (Int×aC):=iT (M.BU) s
def F.vJ:LE X0 40:=le 4 (KF [fM 0 pI,fM 3 pS] []) (λx=>(x.1.1,x.1.2.1)) (λx s=>((s.1,s.2,()),())) (λx=> .leaf (Int×aC) (λt=>(Ex.exit 0,{tm:=[(0,V.d (D.int .i64 t.1)),(3,V.d (D.str t.2)),(7,V.d (D.bool false))],mem:=[]}))) (λx=>M.wF) [] [] (by rintro _ _ ⟨_,_⟩ _ _<;>simp only[M.wF,nb]<;>rfl)
def M.Iw{R:Type}(k':Int)(k:aC->Option R):Option R:=
 bif decide (k'<=0) then(k [109,48]) else
 ((M.vJ ((k',[]))).bind λatp=>
 (bif(1+atp.2.length).ble 9223372036854775807 then(k ([109]++atp.2)) else none))
def M.kR(k':Int):Option (aC):=M.Iw k' some
def C.kR:S.kR.ok X0 λx=>M.kR x.1.1:=fnS (λx=>M.Iw x.1.1) [] [F.vJ] (by intros;simp only[M.Iw,nb]<;>rfl)
def M.wG{R:Type}(s:Int×Int×au)(kn:Int×Int×au->Option R)(ke:Int×Int×au->Option R):Option R:=match s with
 |(k',i,v)=>
 bif decide (i<(↑v.length:Int)) then
 ((idx v i).bind λaNl=>
 (v[i.toNat]?.bind λar2=>
 (kn ((i64.wrap (k'+1),i64.wrap (i+1),v.set i.toNat (splice ar2 0 [D.int .i64 k'])))))) else(ke ((k',i,v)))
def M.BX(s:Int×Int×au):=M.wG s (λs=>some (Sum.inl s)) λt=>some (Sum.inr t)
def M.FV(s:Int×Int×au):Option (Int×Int×au):=iT (M.BX) s
def F.FV:LE X0 41:=le 2 (KF [fM 0 (pO 100000 0),fM 1 pI,fM 5 pI] [fM 100000 (cA false true 0 1)]) (λx=>(x.1.2.1,x.1.2.2.1,x.2.1)) (λx s=>(((),s.1,s.2.1,()),(s.2.2,()))) (λx=> .leaf (Int×Int×au) (λt=>(Ex.exit 0,{tm:=[(0,V.own 100000 0),(1,V.d (D.int .i64 t.1)),(5,V.d (D.int .i64 t.2.1)),(9,V.d (D.bool false))],mem:=[(100000,Cell.arr false true 0 1 t.2.2)]}))) (λx=>M.wG) [] [] (by rintro _ _ ⟨_,_,_⟩ _ _<;>simp only[M.wG,nb]<;>rfl)
def M.Iy{R:Type}(k':Int)(c:au)(k:Int×au->Option R):Option R:=
 (M.FV ((k',0,c))).bind λatq=>(k ((atq.1,atq.2.2)))
def M.pz(k':Int)(c:au):Option (Int×au):=M.Iy k' c some
def C.pz:S.pz.ok X0 λx=>M.pz x.1.2.1 x.2.1:=fnS (λx=>M.Iy x.1.2.1 x.2.1) [] [F.FV] (by intros;simp only[M.Iy,nb]<;>rfl)
def M.uI{R:Type}(s:Int×Int×au)(kn:Int×Int×au->Option R)(ke:Int×Int×au->Option R):Option R:=match s with
 |(k',i,v)=>
 bif decide (i<(↑v.length:Int)) then
 ((idx v i).bind λaNm=>
 (v[i.toNat]?.bind λNS=>
 ((idx (v.set i.toNat (splice NS 0 [D.int .i64 k'])) i).bind λaNn=>
 (((v.set i.toNat (splice NS 0 [D.int .i64 k']))[i.toNat]?).bind λQO=>
 ((M.kR (i64.wrap (i64.wrap (k'+1)+1))).bind λaiE=>
 ((idx ((v.set i.toNat (splice NS 0 [D.int .i64 k'])).set i.toNat (splice QO 1 [D.int .i64 (i64.wrap (k'+1))])) i).bind λaNo=>
 ((((v.set i.toNat (splice NS 0 [D.int .i64 k'])).set i.toNat (splice QO 1 [D.int .i64 (i64.wrap (k'+1))]))[i.toNat]?).bind λXh=>
 ((M.kR (i64.wrap (i64.wrap (i64.wrap (k'+1)+1)+1))).bind λapE=>
 ((idx (((v.set i.toNat (splice NS 0 [D.int .i64 k'])).set i.toNat (splice QO 1 [D.int .i64 (i64.wrap (k'+1))])).set i.toNat (splice Xh 2 [D.str aiE])) i).bind λaNp=>
 (((((v.set i.toNat (splice NS 0 [D.int .i64 k'])).set i.toNat (splice QO 1 [D.int .i64 (i64.wrap (k'+1))])).set i.toNat (splice Xh 2 [D.str aiE]))[i.toNat]?).bind λaft=>
 ((idx ((((v.set i.toNat (splice NS 0 [D.int .i64 k'])).set i.toNat (splice QO 1 [D.int .i64 (i64.wrap (k'+1))])).set i.toNat (splice Xh 2 [D.str aiE])).set i.toNat (splice aft 3 [D.str apE])) i).bind λaNq=>
 ((((((v.set i.toNat (splice NS 0 [D.int .i64 k'])).set i.toNat (splice QO 1 [D.int .i64 (i64.wrap (k'+1))])).set i.toNat (splice Xh 2 [D.str aiE])).set i.toNat (splice aft 3 [D.str apE]))[i.toNat]?).bind λakV=>
 ((aeN 1 akV 4).bind λaiF=>
 (bif aA aiF then
 ((M.pz (i64.wrap (i64.wrap (i64.wrap (i64.wrap (k'+1)+1)+1)+1)) aiF).bind λakW=>
 (bif Nat.beq 1 1 &&(true==true &&(aA akW.2 && CG akW.2)) then
 (kn ((akW.1,i64.wrap (i+1),((((v.set i.toNat (splice NS 0 [D.int .i64 k'])).set i.toNat (splice QO 1 [D.int .i64 (i64.wrap (k'+1))])).set i.toNat (splice Xh 2 [D.str aiE])).set i.toNat (splice aft 3 [D.str apE])).set i.toNat (splice akV 4 [D.sl true 1 akW.2])))) else none)) else none)))))))))))))) else(ke ((k',i,v)))
def M.zA(s:Int×Int×au):=M.uI s (λs=>some (Sum.inl s)) λt=>some (Sum.inr t)
def M.D5(s:Int×Int×au):Option (Int×Int×au):=iT (M.zA) s
def F.D5:LE X0 15:=le 2 (KF [fM 0 (pO 100000 0),fM 1 pI,fM 5 pI] [fM 100000 (cA false false 0 5)]) (λx=>(x.1.2.1,x.1.2.2.1,x.2.1)) (λx s=>(((),s.1,s.2.1,()),(s.2.2,()))) (λx=> .leaf (Int×Int×au) (λt=>(Ex.exit 0,{tm:=[(0,V.own 100000 0),(1,V.d (D.int .i64 t.1)),(5,V.d (D.int .i64 t.2.1)),(9,V.d (D.bool false))],mem:=[(100000,Cell.arr false false 0 5 t.2.2)]}))) (λx=>M.uI) [fe C.kR,fe C.pz] [] (by rintro _ _ ⟨_,_,_⟩ _ _<;>simp only[M.uI,nb]<;>rfl)
def M.FW{R:Type}(k':Int)(c:au)(k:Int×au->Option R):Option R:=
 (M.D5 ((k',0,c))).bind λatr=>(k ((atr.1,atr.2.2)))
def M.sS(k':Int)(c:au):Option (Int×au):=M.FW k' c some
def C.sS:S.sS.ok X0 λx=>M.sS x.1.2.1 x.2.1:=fnS (λx=>M.FW x.1.2.1 x.2.1) [] [F.D5] (by intros;simp only[M.FW,nb]<;>rfl)
def M.sW{R:Type}(s:Int×Int×au)(kn:Int×Int×au->Option R)(ke:Int×Int×au->Option R):Option R:=match s with
 |(k',i,v)=>
 bif decide (i<(↑v.length:Int)) then
 ((idx v i).bind λaNr=>
 (v[i.toNat]?.bind λQS=>
 ((idx (v.set i.toNat (splice QS 0 [D.int .i64 k'])) i).bind λaNs=>
 (((v.set i.toNat (splice QS 0 [D.int .i64 k']))[i.toNat]?).bind λXi=>
 ((M.kR (i64.wrap (i64.wrap (k'+1)+1))).bind λapF=>
 ((idx ((v.set i.toNat (splice QS 0 [D.int .i64 k'])).set i.toNat (splice Xi 1 [D.int .i64 (i64.wrap (k'+1))])) i).bind λaNt=>
 ((((v.set i.toNat (splice QS 0 [D.int .i64 k'])).set i.toNat (splice Xi 1 [D.int .i64 (i64.wrap (k'+1))]))[i.toNat]?).bind λafu=>
 ((idx (((v.set i.toNat (splice QS 0 [D.int .i64 k'])).set i.toNat (splice Xi 1 [D.int .i64 (i64.wrap (k'+1))])).set i.toNat (splice afu 2 [D.str apF])) i).bind λaNu=>
 (((((v.set i.toNat (splice QS 0 [D.int .i64 k'])).set i.toNat (splice Xi 1 [D.int .i64 (i64.wrap (k'+1))])).set i.toNat (splice afu 2 [D.str apF]))[i.toNat]?).bind λakX=>
 ((aeN 1 akX 3).bind λaiG=>
 (bif aA aiG then
 ((M.pz (i64.wrap (i64.wrap (i64.wrap (k'+1)+1)+1)) aiG).bind λakY=>
 (bif Nat.beq 1 1 &&(true==true &&(aA akY.2 && CG akY.2)) then
 (kn ((akY.1,i64.wrap (i+1),(((v.set i.toNat (splice QS 0 [D.int .i64 k'])).set i.toNat (splice Xi 1 [D.int .i64 (i64.wrap (k'+1))])).set i.toNat (splice afu 2 [D.str apF])).set i.toNat (splice akX 3 [D.sl true 1 akY.2])))) else none)) else none))))))))))) else(ke ((k',i,v)))
def M.yG(s:Int×Int×au):=M.sW s (λs=>some (Sum.inl s)) λt=>some (Sum.inr t)
def M.BZ(s:Int×Int×au):Option (Int×Int×au):=iT (M.yG) s
def F.BZ:LE X0 16:=le 2 (KF [fM 0 (pO 100000 0),fM 1 pI,fM 5 pI] [fM 100000 (cA false false 0 4)]) (λx=>(x.1.2.1,x.1.2.2.1,x.2.1)) (λx s=>(((),s.1,s.2.1,()),(s.2.2,()))) (λx=> .leaf (Int×Int×au) (λt=>(Ex.exit 0,{tm:=[(0,V.own 100000 0),(1,V.d (D.int .i64 t.1)),(5,V.d (D.int .i64 t.2.1)),(9,V.d (D.bool false))],mem:=[(100000,Cell.arr false false 0 4 t.2.2)]}))) (λx=>M.sW) [fe C.kR,fe C.pz] [] (by rintro _ _ ⟨_,_,_⟩ _ _<;>simp only[M.sW,nb]<;>rfl)
def M.D6{R:Type}(k':Int)(c:au)(k:Int×au->Option R):Option R:=
 (M.BZ ((k',0,c))).bind λatu=>(k ((atu.1,atu.2.2)))
def M.qJ(k':Int)(c:au):Option (Int×au):=M.D6 k' c some
def C.qJ:S.qJ.ok X0 λx=>M.qJ x.1.2.1 x.2.1:=fnS (λx=>M.D6 x.1.2.1 x.2.1) [] [F.BZ] (by intros;simp only[M.D6,nb]<;>rfl)
def M.wH{R:Type}(a:au)(s:Int×Int)(kn:Int×Int->Option R)(ke:(Unit)⊕(Int×Int)->Option R):Option R:=match s with
 |(k',i)=>
 bif decide (i<(↑a.length:Int)) then
 ((idx a i).bind λar4=>
 ((fB .i64 ar4 0).bind λaKv=>
 (bif aKv !=k' then(ke (.inl ())) else(kn ((i64.wrap (k'+1),i64.wrap (i+1))))))) else(ke (.inr ((k',i))))
def M.Cb(a:au)(s:Int×Int):=M.wH a s (λs=>some (Sum.inl s)) λt=>some (Sum.inr t)
def M.FX(a:au)(s:Int×Int):Option ((Unit)⊕(Int×Int)):=iT (M.Cb a) s
def F.FX:LE X0 42:=le 2 (KF [fM 0 (pL false 1),fM 1 pI,fM 5 pI] []) (λx=>(x.1.2.1,x.1.2.2.1)) (λx s=>((x.1.1,s.1,s.2,()),())) (λx=> .sum (.leaf (Unit) (λt=>(Ex.ret,{tm:=[(4,V.d (D.int .i64 (-1)))],mem:=[]}))) (.leaf (Int×Int) (λt=>(Ex.exit 0,{tm:=[(0,V.d (D.sl false 1 x.1.1)),(1,V.d (D.int .i64 t.1)),(5,V.d (D.int .i64 t.2)),(9,V.d (D.bool false))],mem:=[]})))) (λx=>M.wH x.1.1) [] [] (by rintro _ _ ⟨_,_⟩ _ _<;>simp only[M.wH,nb]<;>rfl)
def M.Iz{R:Type}(a:au)(k':Int)(k:Int->Option R):Option R:=
 (M.FX a ((k',0))).bind λaKw=>
 yS aKw (λaYg=>(k (-1))) λaKx=>
 letE aKx λaKy=>(k aKy.1)
def M.vF(a:au)(k':Int):Option (Int):=M.Iz a k' some
def C.vF:S.vF.ok X0 λx=>M.vF x.1.1 x.1.2.1:=fnS (λx=>M.Iz x.1.1 x.1.2.1) [] [F.FX] (by intros;simp only[M.Iz,nb]<;>rfl)
def M.sZ{R:Type}(a:au)(s:Int×Int)(kn:Int×Int->Option R)(ke:(Unit)⊕(Int×Int)->Option R):Option R:=match s with
 |(k',i)=>
 bif decide (i<(↑a.length:Int)) then
 ((idx a i).bind λar5=>
 ((fB .i64 ar5 0).bind λaKz=>
 (bif aKz !=k' then(ke (.inl ())) else
 ((idx a i).bind λar6=>
 ((fB .i64 ar6 1).bind λaKA=>
 (bif aKA !=i64.wrap (k'+1) then(ke (.inl ())) else
 ((idx a i).bind λar7=>
 ((cStr ar7 2).bind λaKB=>
 ((M.kR (i64.wrap (i64.wrap (k'+1)+1))).bind λaKC=>
 (bif !aKB==aKC then(ke (.inl ())) else
 ((idx a i).bind λar8=>
 ((TL 1 ar8 3).bind λapG=>
 ((M.vF apG (i64.wrap (i64.wrap (i64.wrap (k'+1)+1)+1))).bind λatv=>(bif decide (atv<0) then(ke (.inl ())) else(kn ((atv,i64.wrap (i+1)))))))))))))))))) else(ke (.inr ((k',i))))
def M.yH(a:au)(s:Int×Int):=M.sZ a s (λs=>some (Sum.inl s)) λt=>some (Sum.inr t)
def M.Cc(a:au)(s:Int×Int):Option ((Unit)⊕(Int×Int)):=iT (M.yH a) s
def F.Cc:LE X0 17:=le 2 (KF [fM 0 (pL false 4),fM 1 pI,fM 5 pI] []) (λx=>(x.1.2.1,x.1.2.2.1)) (λx s=>((x.1.1,s.1,s.2,()),())) (λx=> .sum (.leaf (Unit) (λt=>(Ex.ret,{tm:=[(4,V.d (D.int .i64 (-1)))],mem:=[]}))) (.leaf (Int×Int) (λt=>(Ex.exit 0,{tm:=[(0,V.d (D.sl false 4 x.1.1)),(1,V.d (D.int .i64 t.1)),(5,V.d (D.int .i64 t.2)),(9,V.d (D.bool false))],mem:=[]})))) (λx=>M.sZ x.1.1) [fe C.kR,fe C.vF] [] (by rintro _ _ ⟨_,_⟩ _ _<;>simp only[M.sZ,nb]<;>rfl)
def M.D7{R:Type}(a:au)(k':Int)(k:Int->Option R):Option R:=
 (M.Cc a ((k',0))).bind λaKD=>
 yS aKD (λaYh=>(k (-1))) λaKE=>
 letE aKE λaKF=>(k aKF.1)
def M.oC(a:au)(k':Int):Option (Int):=M.D7 a k' some
def C.oC:S.oC.ok X0 λx=>M.oC x.1.1 x.1.2.1:=fnS (λx=>M.D7 x.1.1 x.1.2.1) [] [F.Cc] (by intros;simp only[M.D7,nb]<;>rfl)
abbrev S.strings_Repeat:fK:=sg 207 [pS,pI] [] (ρ:=aC) λr=>([[D.str r]],[])
end
end Go.Proofs.YtbpldgeajbfgnaaGreatDoor
