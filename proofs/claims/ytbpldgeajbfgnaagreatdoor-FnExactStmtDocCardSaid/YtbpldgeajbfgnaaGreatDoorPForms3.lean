import Derived.Test.YtbpldgeajbfgnaaGreatDoorPForms2
namespace Go.Proofs.YtbpldgeajbfgnaaGreatDoor
open Go Go.Vm
set_option linter.unusedVariables false
set_option linter.unusedSimpArgs false
noncomputable section
def M.iE{R:Type}(fP:Int→Int→aF→aF→ak→Int→Int→Int→Bool→Bool→Bool→Bool→ak→ak→Bool→Option (ak×ak×Bool))(mg:Int→Int→aF→aF→ak→Int→Bool→Bool→Bool→Bool→ak→ak→Bool→Option (ak×ak×Bool))(t' gX:Int)(iK jr:aF)(iM:ak)(p:Int)(p1 p2 p3 p4:Bool)(c c1:ak)(c2:Bool)(k:ak×ak×Bool→Option R):Option R:=
 bif t'==1 then
 (bif aB c then
 (bif aB c1 then
 ((M.bZ ([[D.int .i64 6,D.str iK,D.int .i64 0]]) c c1 c2).bind fun Rt=>
 (bif((Rt.2.1.length+[[D.int .i64 (↑c.length:Int),D.int .i64 (↑Rt.1.length:Int)]].length) * 16).ble 140737488355328 then
 (bif(Rt.2.1.length+[[D.int .i64 (↑c.length:Int),D.int .i64 (↑Rt.1.length:Int)]].length).ble 140737488355328 then
 (bif aB Rt.1 then
 (bif aB (Rt.2.1++[[D.int .i64 (↑c.length:Int),D.int .i64 (↑Rt.1.length:Int)]]) then
 (k ((Rt.1,Rt.2.1++[[D.int .i64 (↑c.length:Int),D.int .i64 (↑Rt.1.length:Int)]],Rt.2.2))) else none) else none) else none) else none)) else none) else none) else
 (bif t'==2 then
 (bif aB c then
 (bif aB c1 then
 ((M.bZ ([[D.int .i64 3,D.str iK,D.int .i64 0]]) c c1 c2).bind fun Ru=>
 (bif((Ru.2.1.length+[[D.int .i64 (↑c.length:Int),D.int .i64 (↑Ru.1.length:Int)]].length) * 16).ble 140737488355328 then
 (bif(Ru.2.1.length+[[D.int .i64 (↑c.length:Int),D.int .i64 (↑Ru.1.length:Int)]].length).ble 140737488355328 then
 (bif aB Ru.1 then
 (bif aB (Ru.2.1++[[D.int .i64 (↑c.length:Int),D.int .i64 (↑Ru.1.length:Int)]]) then
 (k ((Ru.1,Ru.2.1++[[D.int .i64 (↑c.length:Int),D.int .i64 (↑Ru.1.length:Int)]],Ru.2.2))) else none) else none) else none) else none)) else none) else none) else
 (bif t'==3 then
 (bif aB c then
 (bif aB c1 then
 ((M.bZ ([[D.int .i64 4,D.str iK,D.int .i64 0]]) c c1 c2).bind fun Rw=>
 (bif((Rw.2.1.length+[[D.int .i64 (↑c.length:Int),D.int .i64 (↑Rw.1.length:Int)]].length) * 16).ble 140737488355328 then
 (bif(Rw.2.1.length+[[D.int .i64 (↑c.length:Int),D.int .i64 (↑Rw.1.length:Int)]].length).ble 140737488355328 then
 (bif aB Rw.1 then
 (bif aB (Rw.2.1++[[D.int .i64 (↑c.length:Int),D.int .i64 (↑Rw.1.length:Int)]]) then
 (k ((Rw.1,Rw.2.1++[[D.int .i64 (↑c.length:Int),D.int .i64 (↑Rw.1.length:Int)]],Rw.2.2))) else none) else none) else none) else none)) else none) else none) else
 (bif t'==4 then
 (bif aB c then
 (bif aB c1 then
 ((M.bZ ([[D.int .i64 5,D.str iK,D.int .i64 0]]) c c1 c2).bind fun Rx=>
 (bif((Rx.2.1.length+[[D.int .i64 (↑c.length:Int),D.int .i64 (↑Rx.1.length:Int)]].length) * 16).ble 140737488355328 then
 (bif(Rx.2.1.length+[[D.int .i64 (↑c.length:Int),D.int .i64 (↑Rx.1.length:Int)]].length).ble 140737488355328 then
 (bif aB Rx.1 then
 (bif aB (Rx.2.1++[[D.int .i64 (↑c.length:Int),D.int .i64 (↑Rx.1.length:Int)]]) then
 (k ((Rx.1,Rx.2.1++[[D.int .i64 (↑c.length:Int),D.int .i64 (↑Rx.1.length:Int)]],Rx.2.2))) else none) else none) else none) else none)) else none) else none) else
 (bif t'==5 then
 (bif aB c then
 (bif aB c1 then
 ((M.bZ ([[D.int .i64 6,D.str iK,D.int .i64 0]]) c c1 c2).bind fun ahi=>
 (bif aB ahi.1 then
 (bif aB ahi.2.1 then
 ((fP t' gX iK jr iM 34 35 p p1 p2 p3 p4 ahi.1 ahi.2.1 ahi.2.2).bind fun Ry=>
 (bif((Ry.2.1.length+[[D.int .i64 (↑c.length:Int),D.int .i64 (↑Ry.1.length:Int)]].length) * 16).ble 140737488355328 then
 (bif(Ry.2.1.length+[[D.int .i64 (↑c.length:Int),D.int .i64 (↑Ry.1.length:Int)]].length).ble 140737488355328 then
 (bif aB Ry.1 then
 (bif aB (Ry.2.1++[[D.int .i64 (↑c.length:Int),D.int .i64 (↑Ry.1.length:Int)]]) then
 (k ((Ry.1,Ry.2.1++[[D.int .i64 (↑c.length:Int),D.int .i64 (↑Ry.1.length:Int)]],Ry.2.2))) else none) else none) else none) else none)) else none) else none)) else none) else none) else
 (bif t'==7 then
 (bif aB c then
 (bif aB c1 then
 ((M.bZ ([[D.int .i64 7,D.str iK,D.int .i64 0]]) c c1 c2).bind fun ahj=>
 (bif aB ahj.1 then
 (bif aB ahj.2.1 then
 ((fP t' gX iK jr iM 32 33 p p1 p2 p3 p4 ahj.1 ahj.2.1 ahj.2.2).bind fun Rz=>
 (bif((Rz.2.1.length+[[D.int .i64 (↑c.length:Int),D.int .i64 (↑Rz.1.length:Int)]].length) * 16).ble 140737488355328 then
 (bif(Rz.2.1.length+[[D.int .i64 (↑c.length:Int),D.int .i64 (↑Rz.1.length:Int)]].length).ble 140737488355328 then
 (bif aB Rz.1 then
 (bif aB (Rz.2.1++[[D.int .i64 (↑c.length:Int),D.int .i64 (↑Rz.1.length:Int)]]) then
 (k ((Rz.1,Rz.2.1++[[D.int .i64 (↑c.length:Int),D.int .i64 (↑Rz.1.length:Int)]],Rz.2.2))) else none) else none) else none) else none)) else none) else none)) else none) else none) else
 (bif t'==8 then
 (bif aB c then
 (bif aB c1 then
 ((M.bZ ([[D.int .i64 8,D.str iK,D.int .i64 0]]) c c1 c2).bind fun ahk=>
 (bif aB ahk.1 then
 (bif aB ahk.2.1 then
 ((fP t' gX iK jr iM 32 33 p p1 p2 p3 p4 ahk.1 ahk.2.1 ahk.2.2).bind fun RD=>
 (bif((RD.2.1.length+[[D.int .i64 (↑c.length:Int),D.int .i64 (↑RD.1.length:Int)]].length) * 16).ble 140737488355328 then
 (bif(RD.2.1.length+[[D.int .i64 (↑c.length:Int),D.int .i64 (↑RD.1.length:Int)]].length).ble 140737488355328 then
 (bif aB RD.1 then
 (bif aB (RD.2.1++[[D.int .i64 (↑c.length:Int),D.int .i64 (↑RD.1.length:Int)]]) then
 (k ((RD.1,RD.2.1++[[D.int .i64 (↑c.length:Int),D.int .i64 (↑RD.1.length:Int)]],RD.2.2))) else none) else none) else none) else none)) else none) else none)) else none) else none) else
 (bif aB c then
 (bif aB c1 then
 ((mg t' gX iK jr iM p p1 p2 p3 p4 c c1 c2).bind fun RF=>
 (bif((RF.2.1.length+[[D.int .i64 (↑c.length:Int),D.int .i64 (↑RF.1.length:Int)]].length) * 16).ble 140737488355328 then
 (bif(RF.2.1.length+[[D.int .i64 (↑c.length:Int),D.int .i64 (↑RF.1.length:Int)]].length).ble 140737488355328 then
 (bif aB RF.1 then
 (bif aB (RF.2.1++[[D.int .i64 (↑c.length:Int),D.int .i64 (↑RF.1.length:Int)]]) then
 (k ((RF.1,RF.2.1++[[D.int .i64 (↑c.length:Int),D.int .i64 (↑RF.1.length:Int)]],RF.2.2))) else none) else none) else none) else none)) else none) else none)))))))
theorem C.RG{fP:Int→Int→aF→aF→ak→Int→Int→Int→Bool→Bool→Bool→Bool→ak→ak→Bool→Option (ak×ak×Bool)}{mg:Int→Int→aF→aF→ak→Int→Bool→Bool→Bool→Bool→ak→ak→Bool→Option (ak×ak×Bool)}(EM:S.mO.ok X0 fun x=>fP x.1.2.1.1 x.1.2.1.2.1 x.1.2.1.2.2.1 x.1.2.1.2.2.2.1 x.1.2.1.2.2.2.2.1 x.1.2.2.1 x.1.2.2.2.1 x.1.2.2.2.2.1.1 x.1.2.2.2.2.1.2.1 x.1.2.2.2.2.1.2.2.1 x.1.2.2.2.2.1.2.2.2.1 x.1.2.2.2.2.1.2.2.2.2.1 x.2.1.1 x.2.1.2.1 x.2.1.2.2.1)(O7:S.lH.ok X0 fun x=>mg x.1.2.1.1 x.1.2.1.2.1 x.1.2.1.2.2.1 x.1.2.1.2.2.2.1 x.1.2.1.2.2.2.2.1 x.1.2.2.1.1 x.1.2.2.1.2.1 x.1.2.2.1.2.2.1 x.1.2.2.1.2.2.2.1 x.1.2.2.1.2.2.2.2.1 x.2.1.1 x.2.1.2.1 x.2.1.2.2.1):S.mP.ok X0 fun x=>M.iE fP mg x.1.2.1.1 x.1.2.1.2.1 x.1.2.1.2.2.1 x.1.2.1.2.2.2.1 x.1.2.1.2.2.2.2.1 x.1.2.2.1.1 x.1.2.2.1.2.1 x.1.2.2.1.2.2.1 x.1.2.2.1.2.2.2.1 x.1.2.2.1.2.2.2.2.1 x.2.1.1 x.2.1.2.1 x.2.1.2.2.1 some:=fnS (fun x=>M.iE fP mg x.1.2.1.1 x.1.2.1.2.1 x.1.2.1.2.2.1 x.1.2.1.2.2.2.1 x.1.2.1.2.2.2.2.1 x.1.2.2.1.1 x.1.2.2.1.2.1 x.1.2.2.1.2.2.1 x.1.2.2.1.2.2.2.1 x.1.2.2.1.2.2.2.2.1 x.2.1.1 x.2.1.2.1 x.2.1.2.2.1) [fe C.bZ,fe EM,fe O7] [] (by intros;unfold M.iE;repeat' first|with_reducible apply gG|with_reducible apply Gp|with_reducible apply Gq|with_reducible apply Gs|with_reducible apply Gt|(intro _)|apply gG|rfl)
def M.pJ{R:Type}(eX:Int→Int→aF→aF→ak→Int→Bool→Bool→Bool→Bool→ak→ak→Bool→Option (ak×ak×Bool))(t' gX:Int)(iK jr:aF)(iM:ak)(p:Int)(p1 p2 p3 p4:Bool)(c c1:ak)(c2:Bool)(k:ak×ak×Bool→Option R):Option R:=
 (M.jB t' gX iK jr iM).bind fun RH=>
 ((M.BA RH.1 RH.2.1 RH.2.2.1 RH.2.2.2.1 RH.2.2.2.2 p p1 p2 p3 p4).bind fun aFw=>
 (bif c2 then
 ((M.lY RH.1 RH.2.1 RH.2.2.1 RH.2.2.2.1 RH.2.2.2.2).bind fun aFx=>
 (bif aFx !=15 then
 ((M.iY 32).bind fun arw=>
 (bif aB c then
 (bif aB c1 then
 ((M.bZ ([[D.int .i64 arw.1,D.str arw.2.1,D.int .i64 arw.2.2]]) c c1 c2).bind fun ahl=>
 (M.qo.bind fun ahm=>
 (bif aB ahl.1 then
 (bif aB ahl.2.1 then
 ((eX t' gX iK jr iM ahm.1 ahm.2.1 ahm.2.2.1 ahm.2.2.2.1 ahm.2.2.2.2 ahl.1 ahl.2.1 ahl.2.2).bind fun ahn=>
 ((M.iY 33).bind fun arx=>
 (bif aB ahn.1 then
 (bif aB ahn.2.1 then
 ((M.bZ ([[D.int .i64 arx.1,D.str arx.2.1,D.int .i64 arx.2.2]]) ahn.1 ahn.2.1 ahn.2.2).bind fun aho=>
 (bif aB aho.1 then(bif aB aho.2.1 then(k ((aho.1,aho.2.1,aho.2.2))) else none) else none)) else none) else none))) else none) else none))) else none) else none)) else
 (bif !RH.1==4 then
 (bif aB c then
 (bif aB c1 then
 ((eX t' gX iK jr iM p p1 p2 p3 p4 c c1 c2).bind fun ahp=>
 (bif aB ahp.1 then(bif aB ahp.2.1 then(k ((ahp.1,ahp.2.1,ahp.2.2))) else none) else none)) else none) else none) else
 ((M.iY 32).bind fun arz=>
 (bif aB c then
 (bif aB c1 then
 ((M.bZ ([[D.int .i64 arz.1,D.str arz.2.1,D.int .i64 arz.2.2]]) c c1 c2).bind fun ahq=>
 (M.qo.bind fun ahr=>
 (bif aB ahq.1 then
 (bif aB ahq.2.1 then
 ((eX t' gX iK jr iM ahr.1 ahr.2.1 ahr.2.2.1 ahr.2.2.2.1 ahr.2.2.2.2 ahq.1 ahq.2.1 ahq.2.2).bind fun ahs=>
 ((M.iY 33).bind fun arA=>
 (bif aB ahs.1 then
 (bif aB ahs.2.1 then
 ((M.bZ ([[D.int .i64 arA.1,D.str arA.2.1,D.int .i64 arA.2.2]]) ahs.1 ahs.2.1 ahs.2.2).bind fun aht=>
 (bif aB aht.1 then(bif aB aht.2.1 then(k ((aht.1,aht.2.1,aht.2.2))) else none) else none)) else none) else none))) else none) else none))) else none) else none))))) else
 (bif !!aFw then
 (bif aB c then
 (bif aB c1 then
 ((eX t' gX iK jr iM p p1 p2 p3 p4 c c1 c2).bind fun ahu=>
 (bif aB ahu.1 then(bif aB ahu.2.1 then(k ((ahu.1,ahu.2.1,ahu.2.2))) else none) else none)) else none) else none) else
 ((M.iY 32).bind fun arB=>
 (bif aB c then
 (bif aB c1 then
 ((M.bZ ([[D.int .i64 arB.1,D.str arB.2.1,D.int .i64 arB.2.2]]) c c1 c2).bind fun ahv=>
 (M.qo.bind fun ahw=>
 (bif aB ahv.1 then
 (bif aB ahv.2.1 then
 ((eX t' gX iK jr iM ahw.1 ahw.2.1 ahw.2.2.1 ahw.2.2.2.1 ahw.2.2.2.2 ahv.1 ahv.2.1 ahv.2.2).bind fun ahx=>
 ((M.iY 33).bind fun arC=>
 (bif aB ahx.1 then
 (bif aB ahx.2.1 then
 ((M.bZ ([[D.int .i64 arC.1,D.str arC.2.1,D.int .i64 arC.2.2]]) ahx.1 ahx.2.1 ahx.2.2).bind fun ahy=>
 (bif aB ahy.1 then(bif aB ahy.2.1 then(k ((ahy.1,ahy.2.1,ahy.2.2))) else none) else none)) else none) else none))) else none) else none))) else none) else none)))))
theorem C.RI{eX:Int→Int→aF→aF→ak→Int→Bool→Bool→Bool→Bool→ak→ak→Bool→Option (ak×ak×Bool)}(EN:S.mP.ok X0 fun x=>eX x.1.2.1.1 x.1.2.1.2.1 x.1.2.1.2.2.1 x.1.2.1.2.2.2.1 x.1.2.1.2.2.2.2.1 x.1.2.2.1.1 x.1.2.2.1.2.1 x.1.2.2.1.2.2.1 x.1.2.2.1.2.2.2.1 x.1.2.2.1.2.2.2.2.1 x.2.1.1 x.2.1.2.1 x.2.1.2.2.1):S.oO.ok X0 fun x=>M.pJ eX x.1.2.1.1 x.1.2.1.2.1 x.1.2.1.2.2.1 x.1.2.1.2.2.2.1 x.1.2.1.2.2.2.2.1 x.1.2.2.1.1 x.1.2.2.1.2.1 x.1.2.2.1.2.2.1 x.1.2.2.1.2.2.2.1 x.1.2.2.1.2.2.2.2.1 x.2.1.1 x.2.1.2.1 x.2.1.2.2.1 some:=fnS (fun x=>M.pJ eX x.1.2.1.1 x.1.2.1.2.1 x.1.2.1.2.2.1 x.1.2.1.2.2.2.1 x.1.2.1.2.2.2.2.1 x.1.2.2.1.1 x.1.2.2.1.2.1 x.1.2.2.1.2.2.1 x.1.2.2.1.2.2.2.1 x.1.2.2.1.2.2.2.2.1 x.2.1.1 x.2.1.2.1 x.2.1.2.2.1) [fe C.jB,fe C.BA,fe C.lY,fe C.iY,fe C.bZ,fe C.qo,fe EN] [] (by intros;unfold M.pJ;repeat' first|with_reducible apply gG|with_reducible apply Gp|with_reducible apply Gq|with_reducible apply Gs|with_reducible apply Gt|(intro _)|apply gG|rfl)
def M.qF{R:Type}(eX:Int→Int→aF→aF→ak→Int→Bool→Bool→Bool→Bool→ak→ak→Bool→Option (ak×ak×Bool))(qp:Int→Int→aF→aF→ak→Int→Bool→Bool→Bool→Bool→ak→ak→Bool→Option (ak×ak×Bool))(t' gX:Int)(iK jr:aF)(iM:ak)(k' p:Int)(p1 p2 p3 p4:Bool)(c c1:ak)(c2:Bool)(k:ak×ak×Bool→Option R):Option R:=
 (M.jB t' gX iK jr iM).bind fun TY=>
 ((idx iM k').bind fun Ws=>
 ((dn .i64 Ws 0).bind fun au6=>
 ((dn .i64 Ws 1).bind fun au7=>
 ((cStr Ws 2).bind fun au8=>
 ((cStr Ws 3).bind fun au9=>
 ((BK 5 Ws 4).bind fun ahz=>
 ((M.uq TY.1 TY.2.1 TY.2.2.1 TY.2.2.2.1 TY.2.2.2.2 k' p p1 p2 p3 p4).bind fun Ua=>
 ((M.oz TY.1 TY.2.1 TY.2.2.1 TY.2.2.2.1 TY.2.2.2.2 k').bind fun aFy=>
 (bif aFy then
 (bif aB c then
 (bif aB c1 then
 ((eX au6 au7 au8 au9 ahz Ua.1 Ua.2.1 Ua.2.2.1 Ua.2.2.2.1 Ua.2.2.2.2 c c1 c2).bind fun ahA=>
 (bif aB ahA.1 then(bif aB ahA.2.1 then(k ((ahA.1,ahA.2.1,ahA.2.2))) else none) else none)) else none) else none) else
 (bif aB c then
 (bif aB c1 then
 ((qp au6 au7 au8 au9 ahz Ua.1 Ua.2.1 Ua.2.2.1 Ua.2.2.2.1 Ua.2.2.2.2 c c1 c2).bind fun ahB=>
 (bif aB ahB.1 then(bif aB ahB.2.1 then(k ((ahB.1,ahB.2.1,ahB.2.2))) else none) else none)) else none) else none))))))))))
theorem C.Tj{eX:Int→Int→aF→aF→ak→Int→Bool→Bool→Bool→Bool→ak→ak→Bool→Option (ak×ak×Bool)}{qp:Int→Int→aF→aF→ak→Int→Bool→Bool→Bool→Bool→ak→ak→Bool→Option (ak×ak×Bool)}(EN:S.mP.ok X0 fun x=>eX x.1.2.1.1 x.1.2.1.2.1 x.1.2.1.2.2.1 x.1.2.1.2.2.2.1 x.1.2.1.2.2.2.2.1 x.1.2.2.1.1 x.1.2.2.1.2.1 x.1.2.2.1.2.2.1 x.1.2.2.1.2.2.2.1 x.1.2.2.1.2.2.2.2.1 x.2.1.1 x.2.1.2.1 x.2.1.2.2.1)(Tq:S.oO.ok X0 fun x=>qp x.1.2.1.1 x.1.2.1.2.1 x.1.2.1.2.2.1 x.1.2.1.2.2.2.1 x.1.2.1.2.2.2.2.1 x.1.2.2.1.1 x.1.2.2.1.2.1 x.1.2.2.1.2.2.1 x.1.2.2.1.2.2.2.1 x.1.2.2.1.2.2.2.2.1 x.2.1.1 x.2.1.2.1 x.2.1.2.2.1):S.jv.ok X0 fun x=>M.qF eX qp x.1.2.1.1 x.1.2.1.2.1 x.1.2.1.2.2.1 x.1.2.1.2.2.2.1 x.1.2.1.2.2.2.2.1 x.1.2.2.1 x.1.2.2.2.1.1 x.1.2.2.2.1.2.1 x.1.2.2.2.1.2.2.1 x.1.2.2.2.1.2.2.2.1 x.1.2.2.2.1.2.2.2.2.1 x.2.1.1 x.2.1.2.1 x.2.1.2.2.1 some:=fnS (fun x=>M.qF eX qp x.1.2.1.1 x.1.2.1.2.1 x.1.2.1.2.2.1 x.1.2.1.2.2.2.1 x.1.2.1.2.2.2.2.1 x.1.2.2.1 x.1.2.2.2.1.1 x.1.2.2.2.1.2.1 x.1.2.2.2.1.2.2.1 x.1.2.2.2.1.2.2.2.1 x.1.2.2.2.1.2.2.2.2.1 x.2.1.1 x.2.1.2.1 x.2.1.2.2.1) [fe C.jB,fe C.uq,fe C.oz,fe EN,fe Tq] [] (by intros;unfold M.qF;repeat' first|with_reducible apply gG|with_reducible apply Gp|with_reducible apply Gq|with_reducible apply Gs|with_reducible apply Gt|(intro _)|apply gG|rfl)
def M.iP:Nat→(Int→Int→aF→aF→ak→Int→Int→Bool→Bool→Bool→Bool→ak→ak→Bool→Option (ak×ak×Bool))×(Int→Int→aF→aF→ak→Int→Int→Int→Bool→Bool→Bool→Bool→ak→ak→Bool→Option (ak×ak×Bool))×(Int→Int→aF→aF→ak→Int→Bool→Bool→Bool→Bool→ak→ak→Bool→Option (ak×ak×Bool))×(Int→Int→aF→aF→ak→Int→Bool→Bool→Bool→Bool→ak→ak→Bool→Option (ak×ak×Bool))×(Int→Int→aF→aF→ak→Int→Bool→Bool→Bool→Bool→ak→ak→Bool→Option (ak×ak×Bool)):=
 Nat.rec (fun _ _ _ _ _ _ _ _ _ _ _ _ _ _=>none,fun _ _ _ _ _ _ _ _ _ _ _ _ _ _ _=>none,fun _ _ _ _ _ _ _ _ _ _ _ _ _=>none,fun _ _ _ _ _ _ _ _ _ _ _ _ _=>none,fun _ _ _ _ _ _ _ _ _ _ _ _ _=>none) fun _ qz=>(fun t' gX iK jr iM k' p p1 p2 p3 p4 c c1 c2=>M.qF qz.2.2.2.1 qz.2.2.2.2 t' gX iK jr iM k' p p1 p2 p3 p4 c c1 c2 some,fun t' gX iK jr iM open' shut p p1 p2 p3 p4 c c1 c2=>M.pG qz.1 t' gX iK jr iM open' shut p p1 p2 p3 p4 c c1 c2 some,fun t' gX iK jr iM p p1 p2 p3 p4 c c1 c2=>M.dY qz.1 qz.2.1 t' gX iK jr iM p p1 p2 p3 p4 c c1 c2 some,fun t' gX iK jr iM p p1 p2 p3 p4 c c1 c2=>M.iE qz.2.1 qz.2.2.1 t' gX iK jr iM p p1 p2 p3 p4 c c1 c2 some,fun t' gX iK jr iM p p1 p2 p3 p4 c c1 c2=>M.pJ qz.2.2.2.1 t' gX iK jr iM p p1 p2 p3 p4 c c1 c2 some)
def M.jW(n:Nat):Int→Int→aF→aF→ak→Int→Int→Bool→Bool→Bool→Bool→ak→ak→Bool→Option (ak×ak×Bool):=(M.iP n).1
def M.pR(n:Nat):Int→Int→aF→aF→ak→Int→Int→Int→Bool→Bool→Bool→Bool→ak→ak→Bool→Option (ak×ak×Bool):=(M.iP n).2.1
def M.nT(n:Nat):Int→Int→aF→aF→ak→Int→Bool→Bool→Bool→Bool→ak→ak→Bool→Option (ak×ak×Bool):=(M.iP n).2.2.1
def M.pU(n:Nat):Int→Int→aF→aF→ak→Int→Bool→Bool→Bool→Bool→ak→ak→Bool→Option (ak×ak×Bool):=(M.iP n).2.2.2.1
def M.sZ(n:Nat):Int→Int→aF→aF→ak→Int→Bool→Bool→Bool→Bool→ak→ak→Bool→Option (ak×ak×Bool):=(M.iP n).2.2.2.2
theorem M.Vd(n:Nat):M.jW (n+1)=fun t' gX iK jr iM k' p p1 p2 p3 p4 c c1 c2=>M.qF (M.pU n) (M.sZ n) t' gX iK jr iM k' p p1 p2 p3 p4 c c1 c2 some:=rfl
theorem M.Tt(n:Nat):M.pR (n+1)=fun t' gX iK jr iM open' shut p p1 p2 p3 p4 c c1 c2=>M.pG (M.jW n) t' gX iK jr iM open' shut p p1 p2 p3 p4 c c1 c2 some:=rfl
theorem M.O8(n:Nat):M.nT (n+1)=fun t' gX iK jr iM p p1 p2 p3 p4 c c1 c2=>M.dY (M.jW n) (M.pR n) t' gX iK jr iM p p1 p2 p3 p4 c c1 c2 some:=rfl
theorem M.Tv(n:Nat):M.pU (n+1)=fun t' gX iK jr iM p p1 p2 p3 p4 c c1 c2=>M.iE (M.pR n) (M.nT n) t' gX iK jr iM p p1 p2 p3 p4 c c1 c2 some:=rfl
theorem M.Tz(n:Nat):M.sZ (n+1)=fun t' gX iK jr iM p p1 p2 p3 p4 c c1 c2=>M.pJ (M.pU n) t' gX iK jr iM p p1 p2 p3 p4 c c1 c2 some:=rfl
def M.jv(t' gX:Int)(iK jr:aF)(iM:ak)(k' p:Int)(p1 p2 p3 p4:Bool)(c c1:ak)(c2:Bool):Option (ak×ak×Bool):=lim fun n=>M.jW n t' gX iK jr iM k' p p1 p2 p3 p4 c c1 c2
def M.mO(t' gX:Int)(iK jr:aF)(iM:ak)(open' shut p:Int)(p1 p2 p3 p4:Bool)(c c1:ak)(c2:Bool):Option (ak×ak×Bool):=lim fun n=>M.pR n t' gX iK jr iM open' shut p p1 p2 p3 p4 c c1 c2
def M.lH(t' gX:Int)(iK jr:aF)(iM:ak)(p:Int)(p1 p2 p3 p4:Bool)(c c1:ak)(c2:Bool):Option (ak×ak×Bool):=lim fun n=>M.nT n t' gX iK jr iM p p1 p2 p3 p4 c c1 c2
def M.mP(t' gX:Int)(iK jr:aF)(iM:ak)(p:Int)(p1 p2 p3 p4:Bool)(c c1:ak)(c2:Bool):Option (ak×ak×Bool):=lim fun n=>M.pU n t' gX iK jr iM p p1 p2 p3 p4 c c1 c2
def M.oO(t' gX:Int)(iK jr:aF)(iM:ak)(p:Int)(p1 p2 p3 p4:Bool)(c c1:ak)(c2:Bool):Option (ak×ak×Bool):=lim fun n=>M.sZ n t' gX iK jr iM p p1 p2 p3 p4 c c1 c2
theorem C.iP:∀n,(S.jv.ok X0 fun x=>M.jW n x.1.2.1.1 x.1.2.1.2.1 x.1.2.1.2.2.1 x.1.2.1.2.2.2.1 x.1.2.1.2.2.2.2.1 x.1.2.2.1 x.1.2.2.2.1.1 x.1.2.2.2.1.2.1 x.1.2.2.2.1.2.2.1 x.1.2.2.2.1.2.2.2.1 x.1.2.2.2.1.2.2.2.2.1 x.2.1.1 x.2.1.2.1 x.2.1.2.2.1)∧(S.mO.ok X0 fun x=>M.pR n x.1.2.1.1 x.1.2.1.2.1 x.1.2.1.2.2.1 x.1.2.1.2.2.2.1 x.1.2.1.2.2.2.2.1 x.1.2.2.1 x.1.2.2.2.1 x.1.2.2.2.2.1.1 x.1.2.2.2.2.1.2.1 x.1.2.2.2.2.1.2.2.1 x.1.2.2.2.2.1.2.2.2.1 x.1.2.2.2.2.1.2.2.2.2.1 x.2.1.1 x.2.1.2.1 x.2.1.2.2.1)∧(S.lH.ok X0 fun x=>M.nT n x.1.2.1.1 x.1.2.1.2.1 x.1.2.1.2.2.1 x.1.2.1.2.2.2.1 x.1.2.1.2.2.2.2.1 x.1.2.2.1.1 x.1.2.2.1.2.1 x.1.2.2.1.2.2.1 x.1.2.2.1.2.2.2.1 x.1.2.2.1.2.2.2.2.1 x.2.1.1 x.2.1.2.1 x.2.1.2.2.1)∧(S.mP.ok X0 fun x=>M.pU n x.1.2.1.1 x.1.2.1.2.1 x.1.2.1.2.2.1 x.1.2.1.2.2.2.1 x.1.2.1.2.2.2.2.1 x.1.2.2.1.1 x.1.2.2.1.2.1 x.1.2.2.1.2.2.1 x.1.2.2.1.2.2.2.1 x.1.2.2.1.2.2.2.2.1 x.2.1.1 x.2.1.2.1 x.2.1.2.2.1)∧(S.oO.ok X0 fun x=>M.sZ n x.1.2.1.1 x.1.2.1.2.1 x.1.2.1.2.2.1 x.1.2.1.2.2.2.1 x.1.2.1.2.2.2.2.1 x.1.2.2.1.1 x.1.2.2.1.2.1 x.1.2.2.1.2.2.1 x.1.2.2.1.2.2.2.1 x.1.2.2.1.2.2.2.2.1 x.2.1.1 x.2.1.2.1 x.2.1.2.2.1)
 |0=>⟨fH.zero,fH.zero,fH.zero,fH.zero,fH.zero⟩
 |n+1=>have h:=C.iP n;⟨C.Tj h.2.2.2.1 h.2.2.2.2,C.Rq h.1,C.Ou h.1 h.2.1,C.RG h.2.1 h.2.2.1,C.RI h.2.2.2.1⟩
theorem C.jv:S.jv.ok X0 fun x=>M.jv x.1.2.1.1 x.1.2.1.2.1 x.1.2.1.2.2.1 x.1.2.1.2.2.2.1 x.1.2.1.2.2.2.2.1 x.1.2.2.1 x.1.2.2.2.1.1 x.1.2.2.2.1.2.1 x.1.2.2.2.1.2.2.1 x.1.2.2.2.1.2.2.2.1 x.1.2.2.2.1.2.2.2.2.1 x.2.1.1 x.2.1.2.1 x.2.1.2.2.1:=fH.lim fun n=>(C.iP n).1
theorem M.TA{n:Nat}{t' gX:Int}{iK jr:aF}{iM:ak}{k' p:Int}{p1 p2 p3 p4:Bool}{c c1:ak}{c2:Bool}{r:ak×ak×Bool}(h:M.jW n t' gX iK jr iM k' p p1 p2 p3 p4 c c1 c2=some r):M.jv t' gX iK jr iM k' p p1 p2 p3 p4 c c1 c2=some r:=
 fH.EJ (fun n=>(C.iP n).1) (by intro a b h;simp[S.jv,sg] at h;first|exact h|simp[Prod.ext_iff,h]) (x:=(((),(t',gX,iK,jr,iM,()),k',(p,p1,p2,p3,p4,()),()),((c,c1,c2,()),()))) h
theorem C.mO:S.mO.ok X0 fun x=>M.mO x.1.2.1.1 x.1.2.1.2.1 x.1.2.1.2.2.1 x.1.2.1.2.2.2.1 x.1.2.1.2.2.2.2.1 x.1.2.2.1 x.1.2.2.2.1 x.1.2.2.2.2.1.1 x.1.2.2.2.2.1.2.1 x.1.2.2.2.2.1.2.2.1 x.1.2.2.2.2.1.2.2.2.1 x.1.2.2.2.2.1.2.2.2.2.1 x.2.1.1 x.2.1.2.1 x.2.1.2.2.1:=fH.lim fun n=>(C.iP n).2.1
theorem C.lH:S.lH.ok X0 fun x=>M.lH x.1.2.1.1 x.1.2.1.2.1 x.1.2.1.2.2.1 x.1.2.1.2.2.2.1 x.1.2.1.2.2.2.2.1 x.1.2.2.1.1 x.1.2.2.1.2.1 x.1.2.2.1.2.2.1 x.1.2.2.1.2.2.2.1 x.1.2.2.1.2.2.2.2.1 x.2.1.1 x.2.1.2.1 x.2.1.2.2.1:=fH.lim fun n=>(C.iP n).2.2.1
theorem C.mP:S.mP.ok X0 fun x=>M.mP x.1.2.1.1 x.1.2.1.2.1 x.1.2.1.2.2.1 x.1.2.1.2.2.2.1 x.1.2.1.2.2.2.2.1 x.1.2.2.1.1 x.1.2.2.1.2.1 x.1.2.2.1.2.2.1 x.1.2.2.1.2.2.2.1 x.1.2.2.1.2.2.2.2.1 x.2.1.1 x.2.1.2.1 x.2.1.2.2.1:=fH.lim fun n=>(C.iP n).2.2.2.1
theorem C.oO:S.oO.ok X0 fun x=>M.oO x.1.2.1.1 x.1.2.1.2.1 x.1.2.1.2.2.1 x.1.2.1.2.2.2.1 x.1.2.1.2.2.2.2.1 x.1.2.2.1.1 x.1.2.2.1.2.1 x.1.2.2.1.2.2.1 x.1.2.2.1.2.2.2.1 x.1.2.2.1.2.2.2.2.1 x.2.1.1 x.2.1.2.1 x.2.1.2.2.1:=fH.lim fun n=>(C.iP n).2.2.2.2
def M.lK{R:Type}(s' Wu:aF)(k:Bool→Option R):Option R:=
 bif decide ((↑s'.length:Int)≥(↑Wu.length:Int)) then((cut s' 0 (↑Wu.length:Int)).bind fun aFz=>(k (aFz==Wu))) else(k false)
def M.iO(s' Wu:aF):Option (Bool):=M.lK s' Wu some
theorem C.iO:S.iO.ok X0 fun x=>M.iO x.1.1 x.1.2.1:=fnS (fun x=>M.lK x.1.1 x.1.2.1) [] [] (by intros;simp only[M.lK,nb]<;>rfl)
def M.yI{R:Type}(s' Wu:aF)(k:Bool→Option R):Option R:=
 (M.iO s' Wu).bind fun aFA=>(k aFA)
def M.strings_HasPrefix(s' Wu:aF):Option (Bool):=M.yI s' Wu some
theorem C.strings_HasPrefix:S.strings_HasPrefix.ok X0 fun x=>M.strings_HasPrefix x.1.1 x.1.2.1:=fnS (fun x=>M.yI x.1.1 x.1.2.1) [fe C.iO] [] (by intros;simp only[M.yI,nb]<;>rfl)
def M.IL{R:Type}(s':aF)(at':Int)(v16 arD v162 arE v164 arF arG v167 v168 arH ahC ahD ahE ahF ahG ahH ahI ahJ ahK ahL ahM ahN ahO ahP ahQ ahR ahS ahT ahU ahV ahW ahX ahY ahZ ah0 ah1 ah2 ah3 ah4:aF)(s:Int×Int×Int)(kn:Int×Int×Int→Option R)(ke:Int×Int×Int→Option R):Option R:=match s with
 |(kind,most,v17)=>
 bif decide (v17<39) then
 (bif decide (0≤v17) && decide (v17<39) then
 ((cStr [D.str v16,D.str arD,D.str v162,D.str arE,D.str v164,D.str arF,D.str arG,D.str v167,D.str v168,D.str arH,D.str ahC,D.str ahD,D.str ahE,D.str ahF,D.str ahG,D.str ahH,D.str ahI,D.str ahJ,D.str ahK,D.str ahL,D.str ahM,D.str ahN,D.str ahO,D.str ahP,D.str ahQ,D.str ahR,D.str ahS,D.str ahT,D.str ahU,D.str ahV,D.str ahW,D.str ahX,D.str ahY,D.str ahZ,D.str ah0,D.str ah1,D.str ah2,D.str ah3,D.str ah4] v17.toNat).bind fun arI=>
 (bif decide ((↑arI.length:Int)>most) then
 ((cut s' at' (↑s'.length:Int)).bind fun aFB=>
 ((M.strings_HasPrefix aFB arI).bind fun aFC=>
 (bif aFC then(kn ((IntKind.i64.wrap (30+v17),(↑arI.length:Int),IntKind.i64.wrap (v17+1)))) else(kn ((kind,most,IntKind.i64.wrap (v17+1))))))) else(kn ((kind,most,IntKind.i64.wrap (v17+1)))))) else none) else(ke ((kind,most,v17)))
def M.RJ(s':aF)(at':Int)(v16 arD v162 arE v164 arF arG v167 v168 arH ahC ahD ahE ahF ahG ahH ahI ahJ ahK ahL ahM ahN ahO ahP ahQ ahR ahS ahT ahU ahV ahW ahX ahY ahZ ah0 ah1 ah2 ah3 ah4:aF)(s:Int×Int×Int):=M.IL s' at' v16 arD v162 arE v164 arF arG v167 v168 arH ahC ahD ahE ahF ahG ahH ahI ahJ ahK ahL ahM ahN ahO ahP ahQ ahR ahS ahT ahU ahV ahW ahX ahY ahZ ah0 ah1 ah2 ah3 ah4 s (fun s=>some (Sum.inl s)) fun t=>some (Sum.inr t)
def M.L8(s':aF)(at':Int)(v16 arD v162 arE v164 arF arG v167 v168 arH ahC ahD ahE ahF ahG ahH ahI ahJ ahK ahL ahM ahN ahO ahP ahQ ahR ahS ahT ahU ahV ahW ahX ahY ahZ ah0 ah1 ah2 ah3 ah4:aF)(s:Int×Int×Int):Option (Int×Int×Int):=iR (M.RJ s' at' v16 arD v162 arE v164 arF arG v167 v168 arH ahC ahD ahE ahF ahG ahH ahI ahJ ahK ahL ahM ahN ahO ahP ahQ ahR ahS ahT ahU ahV ahW ahX ahY ahZ ah0 ah1 ah2 ah3 ah4) s
def F.L8:LE X0 242:=le 5 (La [fU 0 pS,fU 1 pI,fU 6 pI,fU 7 pI,fU 16 (iV [pS,pS,pS,pS,pS,pS,pS,pS,pS,pS,pS,pS,pS,pS,pS,pS,pS,pS,pS,pS,pS,pS,pS,pS,pS,pS,pS,pS,pS,pS,pS,pS,pS,pS,pS,pS,pS,pS,pS]),fU 17 pI] []) (fun x=>(x.1.2.2.1,x.1.2.2.2.1,x.1.2.2.2.2.2.1)) (fun x s=>((x.1.1,x.1.2.1,s.1,s.2.1,(x.1.2.2.2.2.1.1,x.1.2.2.2.2.1.2.1,x.1.2.2.2.2.1.2.2.1,x.1.2.2.2.2.1.2.2.2.1,x.1.2.2.2.2.1.2.2.2.2.1,x.1.2.2.2.2.1.2.2.2.2.2.1,x.1.2.2.2.2.1.2.2.2.2.2.2.1,x.1.2.2.2.2.1.2.2.2.2.2.2.2.1,x.1.2.2.2.2.1.2.2.2.2.2.2.2.2.1,x.1.2.2.2.2.1.2.2.2.2.2.2.2.2.2.1,x.1.2.2.2.2.1.2.2.2.2.2.2.2.2.2.2.1,x.1.2.2.2.2.1.2.2.2.2.2.2.2.2.2.2.2.1,x.1.2.2.2.2.1.2.2.2.2.2.2.2.2.2.2.2.2.1,x.1.2.2.2.2.1.2.2.2.2.2.2.2.2.2.2.2.2.2.1,x.1.2.2.2.2.1.2.2.2.2.2.2.2.2.2.2.2.2.2.2.1,x.1.2.2.2.2.1.2.2.2.2.2.2.2.2.2.2.2.2.2.2.2.1,x.1.2.2.2.2.1.2.2.2.2.2.2.2.2.2.2.2.2.2.2.2.2.1,x.1.2.2.2.2.1.2.2.2.2.2.2.2.2.2.2.2.2.2.2.2.2.2.1,x.1.2.2.2.2.1.2.2.2.2.2.2.2.2.2.2.2.2.2.2.2.2.2.2.1,x.1.2.2.2.2.1.2.2.2.2.2.2.2.2.2.2.2.2.2.2.2.2.2.2.2.1,x.1.2.2.2.2.1.2.2.2.2.2.2.2.2.2.2.2.2.2.2.2.2.2.2.2.2.1,x.1.2.2.2.2.1.2.2.2.2.2.2.2.2.2.2.2.2.2.2.2.2.2.2.2.2.2.1,x.1.2.2.2.2.1.2.2.2.2.2.2.2.2.2.2.2.2.2.2.2.2.2.2.2.2.2.2.1,x.1.2.2.2.2.1.2.2.2.2.2.2.2.2.2.2.2.2.2.2.2.2.2.2.2.2.2.2.2.1,x.1.2.2.2.2.1.2.2.2.2.2.2.2.2.2.2.2.2.2.2.2.2.2.2.2.2.2.2.2.2.1,x.1.2.2.2.2.1.2.2.2.2.2.2.2.2.2.2.2.2.2.2.2.2.2.2.2.2.2.2.2.2.2.1,x.1.2.2.2.2.1.2.2.2.2.2.2.2.2.2.2.2.2.2.2.2.2.2.2.2.2.2.2.2.2.2.2.1,x.1.2.2.2.2.1.2.2.2.2.2.2.2.2.2.2.2.2.2.2.2.2.2.2.2.2.2.2.2.2.2.2.2.1,x.1.2.2.2.2.1.2.2.2.2.2.2.2.2.2.2.2.2.2.2.2.2.2.2.2.2.2.2.2.2.2.2.2.2.1,x.1.2.2.2.2.1.2.2.2.2.2.2.2.2.2.2.2.2.2.2.2.2.2.2.2.2.2.2.2.2.2.2.2.2.2.1,x.1.2.2.2.2.1.2.2.2.2.2.2.2.2.2.2.2.2.2.2.2.2.2.2.2.2.2.2.2.2.2.2.2.2.2.2.1,x.1.2.2.2.2.1.2.2.2.2.2.2.2.2.2.2.2.2.2.2.2.2.2.2.2.2.2.2.2.2.2.2.2.2.2.2.2.1,x.1.2.2.2.2.1.2.2.2.2.2.2.2.2.2.2.2.2.2.2.2.2.2.2.2.2.2.2.2.2.2.2.2.2.2.2.2.2.1,x.1.2.2.2.2.1.2.2.2.2.2.2.2.2.2.2.2.2.2.2.2.2.2.2.2.2.2.2.2.2.2.2.2.2.2.2.2.2.2.1,x.1.2.2.2.2.1.2.2.2.2.2.2.2.2.2.2.2.2.2.2.2.2.2.2.2.2.2.2.2.2.2.2.2.2.2.2.2.2.2.2.1,x.1.2.2.2.2.1.2.2.2.2.2.2.2.2.2.2.2.2.2.2.2.2.2.2.2.2.2.2.2.2.2.2.2.2.2.2.2.2.2.2.2.1,x.1.2.2.2.2.1.2.2.2.2.2.2.2.2.2.2.2.2.2.2.2.2.2.2.2.2.2.2.2.2.2.2.2.2.2.2.2.2.2.2.2.2.1,x.1.2.2.2.2.1.2.2.2.2.2.2.2.2.2.2.2.2.2.2.2.2.2.2.2.2.2.2.2.2.2.2.2.2.2.2.2.2.2.2.2.2.2.1,x.1.2.2.2.2.1.2.2.2.2.2.2.2.2.2.2.2.2.2.2.2.2.2.2.2.2.2.2.2.2.2.2.2.2.2.2.2.2.2.2.2.2.2.2.1,()),s.2.2,()),())) (fun x=> .leaf (Int×Int×Int) (fun t=>(Ex.exit 0,{tm:=[(0,V.d (D.str x.1.1)),(1,V.d (D.int .i64 x.1.2.1)),(6,V.d (D.int .i64 t.1)),(7,V.d (D.int .i64 t.2.1)),(16,V.agg [V.d (D.str x.1.2.2.2.2.1.1),V.d (D.str x.1.2.2.2.2.1.2.1),V.d (D.str x.1.2.2.2.2.1.2.2.1),V.d (D.str x.1.2.2.2.2.1.2.2.2.1),V.d (D.str x.1.2.2.2.2.1.2.2.2.2.1),V.d (D.str x.1.2.2.2.2.1.2.2.2.2.2.1),V.d (D.str x.1.2.2.2.2.1.2.2.2.2.2.2.1),V.d (D.str x.1.2.2.2.2.1.2.2.2.2.2.2.2.1),V.d (D.str x.1.2.2.2.2.1.2.2.2.2.2.2.2.2.1),V.d (D.str x.1.2.2.2.2.1.2.2.2.2.2.2.2.2.2.1),V.d (D.str x.1.2.2.2.2.1.2.2.2.2.2.2.2.2.2.2.1),V.d (D.str x.1.2.2.2.2.1.2.2.2.2.2.2.2.2.2.2.2.1),V.d (D.str x.1.2.2.2.2.1.2.2.2.2.2.2.2.2.2.2.2.2.1),V.d (D.str x.1.2.2.2.2.1.2.2.2.2.2.2.2.2.2.2.2.2.2.1),V.d (D.str x.1.2.2.2.2.1.2.2.2.2.2.2.2.2.2.2.2.2.2.2.1),V.d (D.str x.1.2.2.2.2.1.2.2.2.2.2.2.2.2.2.2.2.2.2.2.2.1),V.d (D.str x.1.2.2.2.2.1.2.2.2.2.2.2.2.2.2.2.2.2.2.2.2.2.1),V.d (D.str x.1.2.2.2.2.1.2.2.2.2.2.2.2.2.2.2.2.2.2.2.2.2.2.1),V.d (D.str x.1.2.2.2.2.1.2.2.2.2.2.2.2.2.2.2.2.2.2.2.2.2.2.2.1),V.d (D.str x.1.2.2.2.2.1.2.2.2.2.2.2.2.2.2.2.2.2.2.2.2.2.2.2.2.1),V.d (D.str x.1.2.2.2.2.1.2.2.2.2.2.2.2.2.2.2.2.2.2.2.2.2.2.2.2.2.1),V.d (D.str x.1.2.2.2.2.1.2.2.2.2.2.2.2.2.2.2.2.2.2.2.2.2.2.2.2.2.2.1),V.d (D.str x.1.2.2.2.2.1.2.2.2.2.2.2.2.2.2.2.2.2.2.2.2.2.2.2.2.2.2.2.1),V.d (D.str x.1.2.2.2.2.1.2.2.2.2.2.2.2.2.2.2.2.2.2.2.2.2.2.2.2.2.2.2.2.1),V.d (D.str x.1.2.2.2.2.1.2.2.2.2.2.2.2.2.2.2.2.2.2.2.2.2.2.2.2.2.2.2.2.2.1),V.d (D.str x.1.2.2.2.2.1.2.2.2.2.2.2.2.2.2.2.2.2.2.2.2.2.2.2.2.2.2.2.2.2.2.1),V.d (D.str x.1.2.2.2.2.1.2.2.2.2.2.2.2.2.2.2.2.2.2.2.2.2.2.2.2.2.2.2.2.2.2.2.1),V.d (D.str x.1.2.2.2.2.1.2.2.2.2.2.2.2.2.2.2.2.2.2.2.2.2.2.2.2.2.2.2.2.2.2.2.2.1),V.d (D.str x.1.2.2.2.2.1.2.2.2.2.2.2.2.2.2.2.2.2.2.2.2.2.2.2.2.2.2.2.2.2.2.2.2.2.1),V.d (D.str x.1.2.2.2.2.1.2.2.2.2.2.2.2.2.2.2.2.2.2.2.2.2.2.2.2.2.2.2.2.2.2.2.2.2.2.1),V.d (D.str x.1.2.2.2.2.1.2.2.2.2.2.2.2.2.2.2.2.2.2.2.2.2.2.2.2.2.2.2.2.2.2.2.2.2.2.2.1),V.d (D.str x.1.2.2.2.2.1.2.2.2.2.2.2.2.2.2.2.2.2.2.2.2.2.2.2.2.2.2.2.2.2.2.2.2.2.2.2.2.1),V.d (D.str x.1.2.2.2.2.1.2.2.2.2.2.2.2.2.2.2.2.2.2.2.2.2.2.2.2.2.2.2.2.2.2.2.2.2.2.2.2.2.1),V.d (D.str x.1.2.2.2.2.1.2.2.2.2.2.2.2.2.2.2.2.2.2.2.2.2.2.2.2.2.2.2.2.2.2.2.2.2.2.2.2.2.2.1),V.d (D.str x.1.2.2.2.2.1.2.2.2.2.2.2.2.2.2.2.2.2.2.2.2.2.2.2.2.2.2.2.2.2.2.2.2.2.2.2.2.2.2.2.1),V.d (D.str x.1.2.2.2.2.1.2.2.2.2.2.2.2.2.2.2.2.2.2.2.2.2.2.2.2.2.2.2.2.2.2.2.2.2.2.2.2.2.2.2.2.1),V.d (D.str x.1.2.2.2.2.1.2.2.2.2.2.2.2.2.2.2.2.2.2.2.2.2.2.2.2.2.2.2.2.2.2.2.2.2.2.2.2.2.2.2.2.2.1),V.d (D.str x.1.2.2.2.2.1.2.2.2.2.2.2.2.2.2.2.2.2.2.2.2.2.2.2.2.2.2.2.2.2.2.2.2.2.2.2.2.2.2.2.2.2.2.1),V.d (D.str x.1.2.2.2.2.1.2.2.2.2.2.2.2.2.2.2.2.2.2.2.2.2.2.2.2.2.2.2.2.2.2.2.2.2.2.2.2.2.2.2.2.2.2.2.1)]),(17,V.d (D.int .i64 t.2.2)),(18,V.d (D.bool false))],mem:=[]}))) (fun x=>M.IL x.1.1 x.1.2.1 x.1.2.2.2.2.1.1 x.1.2.2.2.2.1.2.1 x.1.2.2.2.2.1.2.2.1 x.1.2.2.2.2.1.2.2.2.1 x.1.2.2.2.2.1.2.2.2.2.1 x.1.2.2.2.2.1.2.2.2.2.2.1 x.1.2.2.2.2.1.2.2.2.2.2.2.1 x.1.2.2.2.2.1.2.2.2.2.2.2.2.1 x.1.2.2.2.2.1.2.2.2.2.2.2.2.2.1 x.1.2.2.2.2.1.2.2.2.2.2.2.2.2.2.1 x.1.2.2.2.2.1.2.2.2.2.2.2.2.2.2.2.1 x.1.2.2.2.2.1.2.2.2.2.2.2.2.2.2.2.2.1 x.1.2.2.2.2.1.2.2.2.2.2.2.2.2.2.2.2.2.1 x.1.2.2.2.2.1.2.2.2.2.2.2.2.2.2.2.2.2.2.1 x.1.2.2.2.2.1.2.2.2.2.2.2.2.2.2.2.2.2.2.2.1 x.1.2.2.2.2.1.2.2.2.2.2.2.2.2.2.2.2.2.2.2.2.1 x.1.2.2.2.2.1.2.2.2.2.2.2.2.2.2.2.2.2.2.2.2.2.1 x.1.2.2.2.2.1.2.2.2.2.2.2.2.2.2.2.2.2.2.2.2.2.2.1 x.1.2.2.2.2.1.2.2.2.2.2.2.2.2.2.2.2.2.2.2.2.2.2.2.1 x.1.2.2.2.2.1.2.2.2.2.2.2.2.2.2.2.2.2.2.2.2.2.2.2.2.1 x.1.2.2.2.2.1.2.2.2.2.2.2.2.2.2.2.2.2.2.2.2.2.2.2.2.2.1 x.1.2.2.2.2.1.2.2.2.2.2.2.2.2.2.2.2.2.2.2.2.2.2.2.2.2.2.1 x.1.2.2.2.2.1.2.2.2.2.2.2.2.2.2.2.2.2.2.2.2.2.2.2.2.2.2.2.1 x.1.2.2.2.2.1.2.2.2.2.2.2.2.2.2.2.2.2.2.2.2.2.2.2.2.2.2.2.2.1 x.1.2.2.2.2.1.2.2.2.2.2.2.2.2.2.2.2.2.2.2.2.2.2.2.2.2.2.2.2.2.1 x.1.2.2.2.2.1.2.2.2.2.2.2.2.2.2.2.2.2.2.2.2.2.2.2.2.2.2.2.2.2.2.1 x.1.2.2.2.2.1.2.2.2.2.2.2.2.2.2.2.2.2.2.2.2.2.2.2.2.2.2.2.2.2.2.2.1 x.1.2.2.2.2.1.2.2.2.2.2.2.2.2.2.2.2.2.2.2.2.2.2.2.2.2.2.2.2.2.2.2.2.1 x.1.2.2.2.2.1.2.2.2.2.2.2.2.2.2.2.2.2.2.2.2.2.2.2.2.2.2.2.2.2.2.2.2.2.1 x.1.2.2.2.2.1.2.2.2.2.2.2.2.2.2.2.2.2.2.2.2.2.2.2.2.2.2.2.2.2.2.2.2.2.2.1 x.1.2.2.2.2.1.2.2.2.2.2.2.2.2.2.2.2.2.2.2.2.2.2.2.2.2.2.2.2.2.2.2.2.2.2.2.1 x.1.2.2.2.2.1.2.2.2.2.2.2.2.2.2.2.2.2.2.2.2.2.2.2.2.2.2.2.2.2.2.2.2.2.2.2.2.1 x.1.2.2.2.2.1.2.2.2.2.2.2.2.2.2.2.2.2.2.2.2.2.2.2.2.2.2.2.2.2.2.2.2.2.2.2.2.2.1 x.1.2.2.2.2.1.2.2.2.2.2.2.2.2.2.2.2.2.2.2.2.2.2.2.2.2.2.2.2.2.2.2.2.2.2.2.2.2.2.1 x.1.2.2.2.2.1.2.2.2.2.2.2.2.2.2.2.2.2.2.2.2.2.2.2.2.2.2.2.2.2.2.2.2.2.2.2.2.2.2.2.1 x.1.2.2.2.2.1.2.2.2.2.2.2.2.2.2.2.2.2.2.2.2.2.2.2.2.2.2.2.2.2.2.2.2.2.2.2.2.2.2.2.2.1 x.1.2.2.2.2.1.2.2.2.2.2.2.2.2.2.2.2.2.2.2.2.2.2.2.2.2.2.2.2.2.2.2.2.2.2.2.2.2.2.2.2.2.1 x.1.2.2.2.2.1.2.2.2.2.2.2.2.2.2.2.2.2.2.2.2.2.2.2.2.2.2.2.2.2.2.2.2.2.2.2.2.2.2.2.2.2.2.1 x.1.2.2.2.2.1.2.2.2.2.2.2.2.2.2.2.2.2.2.2.2.2.2.2.2.2.2.2.2.2.2.2.2.2.2.2.2.2.2.2.2.2.2.2.1) [fe C.strings_HasPrefix] [] (by rintro _ _ ⟨_,_,_⟩ _ _<;>simp only[M.IL,nb]<;>rfl)
def M.Ob{R:Type}(s':aF)(at':Int)(k:Int×Int→Option R):Option R:=
 (M.dV at' 0 (IntKind.i64.wrap ((↑s'.length:Int) - 1))).bind fun aFD=>
 (bif !aFD then(k ((0,0))) else
 ((M.L8 s' at' [123] [125] [40] [41] [91] [93] [44] [59] [43,61] [45,61] [42,61] [47,61] [37,61] [94,61] [124,124] [38,38] [33,126] [61,61] [60,61] [62,61] [33,61] [43,43] [45,45] [62,62] [61] [43] [45] [42] [47] [37] [94] [33] [62] [60] [124] [63] [58] [126] [36] ((0,0,0))).bind fun ava=>(k ((ava.1,ava.2.1)))))
def M.qy(s':aF)(at':Int):Option (Int×Int):=M.Ob s' at' some
theorem C.qy:S.qy.ok X0 fun x=>M.qy x.1.1 x.1.2.1:=fnS (fun x=>M.Ob x.1.1 x.1.2.1) [fe C.dV] [F.L8] (by intros;simp only[M.Ob,nb]<;>rfl)
def M.FW{R:Type}(a:Int)(a1:aF)(a2 b:Int)(b1:aF)(b2:Int)(k:Bool→Option R):Option R:=
 bif a1==[] then(k false) else
 (bif b1==[] then(k false) else
 (bif a==2 then(k false) else
 (bif a==1 then(k false) else
 (bif b==1 then(k false) else
 ((idx a1 (IntKind.i64.wrap ((↑a1.length:Int) - 1))).bind fun aFE=>
 ((idx b1 0).bind fun ah5=>
 ((M.jL (IntKind.i64.wrap (↑aFE.toNat:Int))).bind fun aFF=>
 (bif aFF then
 ((M.jL (IntKind.i64.wrap (↑ah5.toNat:Int))).bind fun aFG=>
 (bif aFG then(k true) else
 (bif a==3 then
 ((M.jL (IntKind.i64.wrap (↑ah5.toNat:Int))).bind fun aFH=>
 (bif aFH then(k true) else
 (bif IntKind.i64.wrap (↑ah5.toNat:Int)==46 then(k true) else
 (bif a==6 then
 (bif b==32 then(k true) else
 ((M.iH a).bind fun aFI=>
 (bif !aFI then(k false) else
 (bif(a1.length+b1.length).ble 9223372036854775807 then
 ((M.qy (a1++b1) 0).bind fun aFJ=>(k (decide (aFJ.2>(↑a1.length:Int))))) else none)))) else
 ((M.iH a).bind fun aFK=>
 (bif !aFK then(k false) else
 (bif(a1.length+b1.length).ble 9223372036854775807 then
 ((M.qy (a1++b1) 0).bind fun aFL=>(k (decide (aFL.2>(↑a1.length:Int))))) else none))))))) else
 (bif a==6 then
 (bif b==32 then(k true) else
 ((M.iH a).bind fun aFM=>
 (bif !aFM then(k false) else
 (bif(a1.length+b1.length).ble 9223372036854775807 then
 ((M.qy (a1++b1) 0).bind fun aFN=>(k (decide (aFN.2>(↑a1.length:Int))))) else none)))) else
 ((M.iH a).bind fun aFO=>
 (bif !aFO then(k false) else
 (bif(a1.length+b1.length).ble 9223372036854775807 then
 ((M.qy (a1++b1) 0).bind fun aFP=>(k (decide (aFP.2>(↑a1.length:Int))))) else none))))))) else
 (bif a==3 then
 ((M.jL (IntKind.i64.wrap (↑ah5.toNat:Int))).bind fun aFQ=>
 (bif aFQ then(k true) else
 (bif IntKind.i64.wrap (↑ah5.toNat:Int)==46 then(k true) else
 (bif a==6 then
 (bif b==32 then(k true) else
 ((M.iH a).bind fun aFR=>
 (bif !aFR then(k false) else
 (bif(a1.length+b1.length).ble 9223372036854775807 then
 ((M.qy (a1++b1) 0).bind fun aFS=>(k (decide (aFS.2>(↑a1.length:Int))))) else none)))) else
 ((M.iH a).bind fun aFT=>
 (bif !aFT then(k false) else
 (bif(a1.length+b1.length).ble 9223372036854775807 then
 ((M.qy (a1++b1) 0).bind fun aFU=>(k (decide (aFU.2>(↑a1.length:Int))))) else none))))))) else
 (bif a==6 then
 (bif b==32 then(k true) else
 ((M.iH a).bind fun aFV=>
 (bif !aFV then(k false) else
 (bif(a1.length+b1.length).ble 9223372036854775807 then
 ((M.qy (a1++b1) 0).bind fun aFW=>(k (decide (aFW.2>(↑a1.length:Int))))) else none)))) else
 ((M.iH a).bind fun aFX=>
 (bif !aFX then(k false) else
 (bif(a1.length+b1.length).ble 9223372036854775807 then
 ((M.qy (a1++b1) 0).bind fun aFY=>(k (decide (aFY.2>(↑a1.length:Int))))) else none)))))))))))))
def M.qR(a:Int)(a1:aF)(a2 b:Int)(b1:aF)(b2:Int):Option (Bool):=M.FW a a1 a2 b b1 b2 some
theorem C.qR:S.qR.ok X0 fun x=>M.qR x.1.1.1 x.1.1.2.1 x.1.1.2.2.1 x.1.2.1.1 x.1.2.1.2.1 x.1.2.1.2.2.1:=fnS (fun x=>M.FW x.1.1.1 x.1.1.2.1 x.1.1.2.2.1 x.1.2.1.1 x.1.2.1.2.1 x.1.2.1.2.2.1) [fe C.jL,fe C.iH,fe C.qy] [] (by intros;unfold M.FW;repeat' first|with_reducible apply gG|with_reducible apply Gp|with_reducible apply Gq|with_reducible apply Gs|with_reducible apply Gt|(intro _)|apply gG|rfl)
def M.vY{R:Type}(fM:Int→Int→aF→aF→ak→Int→Int→Bool→Bool→Bool→Bool→Option (Int×Int×aF×ak×Int))(t' gX:Int)(iK jr:aF)(iM:ak)(p:Int)(p1 p2 p3 p4:Bool)(k:Int×Int×aF×ak×Int→Option R):Option R:=
 (M.jv t' gX iK jr iM 0 p p1 p2 p3 p4 [] [] false).bind fun avb=>
 ((M.iy gX).bind fun arJ=>
 ((M.iY gX).bind fun arK=>
 ((idx avb.1 0).bind fun aJ6=>
 (avb.1[0]?.bind fun afj=>
 ((dn .i64 afj 0).bind fun aFZ=>
 ((cStr afj 1).bind fun aF0=>
 ((dn .i64 afj 2).bind fun aF1=>
 ((M.qR arK.1 arK.2.1 arK.2.2 aFZ aF0 aF1).bind fun aF2=>
 (bif aF2 then
 (bif(arJ.length+1).ble 9223372036854775807 then
 ((M.bI (arJ++[32])).bind fun ah6=>
 ((fM t' gX iK jr iM 0 p p1 p2 p3 p4).bind fun ah7=>
 ((M.dI ([[D.int .i64 ah6.1,D.int .i64 ah6.2.1,D.str ah6.2.2.1,D.sl false 5 (aA ah6.2.2.2.1),D.int .i64 ah6.2.2.2.2],[D.int .i64 ah7.1,D.int .i64 ah7.2.1,D.str ah7.2.2.1,D.sl false 5 (aA ah7.2.2.2.1),D.int .i64 ah7.2.2.2.2]])).bind fun ah8=>
 (k ((ah8.1,ah8.2.1,ah8.2.2.1,aA ah8.2.2.2.1,ah8.2.2.2.2)))))) else none) else
 ((M.bI arJ).bind fun ah9=>
 ((fM t' gX iK jr iM 0 p p1 p2 p3 p4).bind fun aia=>
 ((M.dI ([[D.int .i64 ah9.1,D.int .i64 ah9.2.1,D.str ah9.2.2.1,D.sl false 5 (aA ah9.2.2.2.1),D.int .i64 ah9.2.2.2.2],[D.int .i64 aia.1,D.int .i64 aia.2.1,D.str aia.2.2.1,D.sl false 5 (aA aia.2.2.2.1),D.int .i64 aia.2.2.2.2]])).bind fun aib=>
 (k ((aib.1,aib.2.1,aib.2.2.1,aA aib.2.2.2.1,aib.2.2.2.2)))))))))))))))
theorem C.X7{fM:Int→Int→aF→aF→ak→Int→Int→Bool→Bool→Bool→Bool→Option (Int×Int×aF×ak×Int)}(Ov:S.zW.ok X0 fun x=>fM x.1.1.1 x.1.1.2.1 x.1.1.2.2.1 x.1.1.2.2.2.1 x.1.1.2.2.2.2.1 x.1.2.1 x.1.2.2.1.1 x.1.2.2.1.2.1 x.1.2.2.1.2.2.1 x.1.2.2.1.2.2.2.1 x.1.2.2.1.2.2.2.2.1):S.yw.ok X0 fun x=>M.vY fM x.1.1.1 x.1.1.2.1 x.1.1.2.2.1 x.1.1.2.2.2.1 x.1.1.2.2.2.2.1 x.1.2.1.1 x.1.2.1.2.1 x.1.2.1.2.2.1 x.1.2.1.2.2.2.1 x.1.2.1.2.2.2.2.1 some:=fnS (fun x=>M.vY fM x.1.1.1 x.1.1.2.1 x.1.1.2.2.1 x.1.1.2.2.2.1 x.1.1.2.2.2.2.1 x.1.2.1.1 x.1.2.1.2.1 x.1.2.1.2.2.1 x.1.2.1.2.2.2.1 x.1.2.1.2.2.2.2.1) [fe C.jv,fe C.iy,fe C.iY,fe C.qR,fe C.bI,fe Ov,fe C.dI] [] (by intros;unfold M.vY;repeat' first|with_reducible apply gG|with_reducible apply Gp|with_reducible apply Gq|with_reducible apply Gs|with_reducible apply Gt|(intro _)|apply gG|rfl)
def M.fA{R:Type}(nU:ak→Option (Int×Int×aF×ak×Int))(fM:Int→Int→aF→aF→ak→Int→Int→Bool→Bool→Bool→Bool→Option (Int×Int×aF×ak×Int))(xJ:Int→Int→aF→aF→ak→Int→Bool→Bool→Bool→Bool→Option (Int×Int×aF×ak×Int))(t' gX:Int)(iK jr:aF)(iM:ak)(p:Int)(p1 p2 p3 p4:Bool)(k:Int×Int×aF×ak×Int→Option R):Option R:=
 bif t'==1 then
 ((M.bI iK).bind fun aic=>
 (k ((aic.1,aic.2.1,aic.2.2.1,aA aic.2.2.2.1,aic.2.2.2.2)))) else
 (bif t'==2 then
 ((M.bI iK).bind fun aie=>
 (k ((aie.1,aie.2.1,aie.2.2.1,aA aie.2.2.2.1,aie.2.2.2.2)))) else
 (bif t'==3 then
 ((M.bI iK).bind fun aif=>
 (k ((aif.1,aif.2.1,aif.2.2.1,aA aif.2.2.2.1,aif.2.2.2.2)))) else
 (bif t'==4 then
 ((M.bI iK).bind fun aii=>
 (k ((aii.1,aii.2.1,aii.2.2.1,aA aii.2.2.2.1,aii.2.2.2.2)))) else
 (bif t'==5 then
 (bif(iK.length+1).ble 9223372036854775807 then
 ((M.bI (iK++[91])).bind fun aij=>
 ((nU iM).bind fun aik=>
 ((M.bI [93]).bind fun ail=>
 ((M.dI ([[D.int .i64 aij.1,D.int .i64 aij.2.1,D.str aij.2.2.1,D.sl false 5 (aA aij.2.2.2.1),D.int .i64 aij.2.2.2.2],[D.int .i64 aik.1,D.int .i64 aik.2.1,D.str aik.2.2.1,D.sl false 5 (aA aik.2.2.2.1),D.int .i64 aik.2.2.2.2],[D.int .i64 ail.1,D.int .i64 ail.2.1,D.str ail.2.2.1,D.sl false 5 (aA ail.2.2.2.1),D.int .i64 ail.2.2.2.2]])).bind fun ain=>
 (k ((ain.1,ain.2.1,ain.2.2.1,aA ain.2.2.2.1,ain.2.2.2.2))))))) else none) else
 (bif t'==7 then
 (bif(iK.length+1).ble 9223372036854775807 then
 ((M.bI (iK++[40])).bind fun aio=>
 ((nU iM).bind fun aip=>
 ((M.bI [41]).bind fun aiq=>
 ((M.dI ([[D.int .i64 aio.1,D.int .i64 aio.2.1,D.str aio.2.2.1,D.sl false 5 (aA aio.2.2.2.1),D.int .i64 aio.2.2.2.2],[D.int .i64 aip.1,D.int .i64 aip.2.1,D.str aip.2.2.1,D.sl false 5 (aA aip.2.2.2.1),D.int .i64 aip.2.2.2.2],[D.int .i64 aiq.1,D.int .i64 aiq.2.1,D.str aiq.2.2.1,D.sl false 5 (aA aiq.2.2.2.1),D.int .i64 aiq.2.2.2.2]])).bind fun air=>
 (k ((air.1,air.2.1,air.2.2.1,aA air.2.2.2.1,air.2.2.2.2))))))) else none) else
 (bif t'==8 then
 (bif(iK.length+1).ble 9223372036854775807 then
 ((M.bI (iK++[40])).bind fun ais=>
 ((nU iM).bind fun ait=>
 ((M.bI [41]).bind fun aiu=>
 ((M.dI ([[D.int .i64 ais.1,D.int .i64 ais.2.1,D.str ais.2.2.1,D.sl false 5 (aA ais.2.2.2.1),D.int .i64 ais.2.2.2.2],[D.int .i64 ait.1,D.int .i64 ait.2.1,D.str ait.2.2.1,D.sl false 5 (aA ait.2.2.2.1),D.int .i64 ait.2.2.2.2],[D.int .i64 aiu.1,D.int .i64 aiu.2.1,D.str aiu.2.2.1,D.sl false 5 (aA aiu.2.2.2.1),D.int .i64 aiu.2.2.2.2]])).bind fun aiv=>
 (k ((aiv.1,aiv.2.1,aiv.2.2.1,aA aiv.2.2.2.1,aiv.2.2.2.2))))))) else none) else
 (bif t'==9 then
 ((M.iy gX).bind fun aF3=>
 ((M.bI aF3).bind fun aiw=>
 ((fM t' gX iK jr iM 0 p p1 p2 p3 p4).bind fun aix=>
 ((M.dI ([[D.int .i64 aiw.1,D.int .i64 aiw.2.1,D.str aiw.2.2.1,D.sl false 5 (aA aiw.2.2.2.1),D.int .i64 aiw.2.2.2.2],[D.int .i64 aix.1,D.int .i64 aix.2.1,D.str aix.2.2.1,D.sl false 5 (aA aix.2.2.2.1),D.int .i64 aix.2.2.2.2]])).bind fun aiy=>
 (k ((aiy.1,aiy.2.1,aiy.2.2.1,aA aiy.2.2.2.1,aiy.2.2.2.2))))))) else
 (bif t'==10 then
 ((fM t' gX iK jr iM 0 p p1 p2 p3 p4).bind fun aiz=>
 ((M.iy gX).bind fun aF4=>
 ((M.bI aF4).bind fun aiA=>
 ((M.dI ([[D.int .i64 aiz.1,D.int .i64 aiz.2.1,D.str aiz.2.2.1,D.sl false 5 (aA aiz.2.2.2.1),D.int .i64 aiz.2.2.2.2],[D.int .i64 aiA.1,D.int .i64 aiA.2.1,D.str aiA.2.2.1,D.sl false 5 (aA aiA.2.2.2.1),D.int .i64 aiA.2.2.2.2]])).bind fun aiB=>
 (k ((aiB.1,aiB.2.1,aiB.2.2.1,aA aiB.2.2.2.1,aiB.2.2.2.2))))))) else
 (bif t'==6 then
 ((M.bI [36]).bind fun aiC=>
 ((fM t' gX iK jr iM 0 p p1 p2 p3 p4).bind fun aiD=>
 ((M.dI ([[D.int .i64 aiC.1,D.int .i64 aiC.2.1,D.str aiC.2.2.1,D.sl false 5 (aA aiC.2.2.2.1),D.int .i64 aiC.2.2.2.2],[D.int .i64 aiD.1,D.int .i64 aiD.2.1,D.str aiD.2.2.1,D.sl false 5 (aA aiD.2.2.2.1),D.int .i64 aiD.2.2.2.2]])).bind fun aiE=>
 (k ((aiE.1,aiE.2.1,aiE.2.2.1,aA aiE.2.2.2.1,aiE.2.2.2.2)))))) else
 (bif t'==11 then
 ((xJ t' gX iK jr iM p p1 p2 p3 p4).bind fun aiF=>
 (k ((aiF.1,aiF.2.1,aiF.2.2.1,aA aiF.2.2.2.1,aiF.2.2.2.2)))) else
 (bif t'==14 then
 ((fM t' gX iK jr iM 0 p p1 p2 p3 p4).bind fun aiG=>
 ((M.bI [32,63,32]).bind fun aiH=>
 ((fM t' gX iK jr iM 1 p p1 p2 p3 p4).bind fun aiI=>
 ((M.bI [32,58,32]).bind fun aiJ=>
 ((fM t' gX iK jr iM 2 p p1 p2 p3 p4).bind fun aiK=>
 ((M.dI ([[D.int .i64 aiG.1,D.int .i64 aiG.2.1,D.str aiG.2.2.1,D.sl false 5 (aA aiG.2.2.2.1),D.int .i64 aiG.2.2.2.2],[D.int .i64 aiH.1,D.int .i64 aiH.2.1,D.str aiH.2.2.1,D.sl false 5 (aA aiH.2.2.2.1),D.int .i64 aiH.2.2.2.2],[D.int .i64 aiI.1,D.int .i64 aiI.2.1,D.str aiI.2.2.1,D.sl false 5 (aA aiI.2.2.2.1),D.int .i64 aiI.2.2.2.2],[D.int .i64 aiJ.1,D.int .i64 aiJ.2.1,D.str aiJ.2.2.1,D.sl false 5 (aA aiJ.2.2.2.1),D.int .i64 aiJ.2.2.2.2],[D.int .i64 aiK.1,D.int .i64 aiK.2.1,D.str aiK.2.2.1,D.sl false 5 (aA aiK.2.2.2.1),D.int .i64 aiK.2.2.2.2]])).bind fun aiL=>
 (k ((aiL.1,aiL.2.1,aiL.2.2.1,aA aiL.2.2.2.1,aiL.2.2.2.2))))))))) else
 (bif t'==13 then
 (bif decide ((↑iM.length:Int)>1) then
 ((M.bI [40]).bind fun aiM=>
 ((nU iM).bind fun aiN=>
 (bif(5+iK.length).ble 9223372036854775807 then
 ((M.bI ([41,32,105,110,32]++iK)).bind fun aiO=>
 ((M.dI ([[D.int .i64 aiM.1,D.int .i64 aiM.2.1,D.str aiM.2.2.1,D.sl false 5 (aA aiM.2.2.2.1),D.int .i64 aiM.2.2.2.2],[D.int .i64 aiN.1,D.int .i64 aiN.2.1,D.str aiN.2.2.1,D.sl false 5 (aA aiN.2.2.2.1),D.int .i64 aiN.2.2.2.2],[D.int .i64 aiO.1,D.int .i64 aiO.2.1,D.str aiO.2.2.1,D.sl false 5 (aA aiO.2.2.2.1),D.int .i64 aiO.2.2.2.2]])).bind fun aiP=>
 (k ((aiP.1,aiP.2.1,aiP.2.2.1,aA aiP.2.2.2.1,aiP.2.2.2.2))))) else none))) else
 ((fM t' gX iK jr iM 0 p p1 p2 p3 p4).bind fun aiQ=>
 (bif(4+iK.length).ble 9223372036854775807 then
 ((M.bI ([32,105,110,32]++iK)).bind fun aiR=>
 ((M.dI ([[D.int .i64 aiQ.1,D.int .i64 aiQ.2.1,D.str aiQ.2.2.1,D.sl false 5 (aA aiQ.2.2.2.1),D.int .i64 aiQ.2.2.2.2],[D.int .i64 aiR.1,D.int .i64 aiR.2.1,D.str aiR.2.2.1,D.sl false 5 (aA aiR.2.2.2.1),D.int .i64 aiR.2.2.2.2]])).bind fun aiS=>
 (k ((aiS.1,aiS.2.1,aiS.2.2.1,aA aiS.2.2.2.1,aiS.2.2.2.2))))) else none))) else
 ((fM t' gX iK jr iM 0 p p1 p2 p3 p4).bind fun mD=>
 ((fM t' gX iK jr iM 1 p p1 p2 p3 p4).bind fun mF=>
 (bif t'==12 then
 (bif gX==99 then
 ((M.bI [32]).bind fun aiT=>
 ((M.dI ([[D.int .i64 mD.1,D.int .i64 mD.2.1,D.str mD.2.2.1,D.sl false 5 (aA mD.2.2.2.1),D.int .i64 mD.2.2.2.2],[D.int .i64 aiT.1,D.int .i64 aiT.2.1,D.str aiT.2.2.1,D.sl false 5 (aA aiT.2.2.2.1),D.int .i64 aiT.2.2.2.2],[D.int .i64 mF.1,D.int .i64 mF.2.1,D.str mF.2.2.1,D.sl false 5 (aA mF.2.2.2.1),D.int .i64 mF.2.2.2.2]])).bind fun aiU=>
 (k ((aiU.1,aiU.2.1,aiU.2.2.1,aA aiU.2.2.2.1,aiU.2.2.2.2))))) else
 (bif t'==12 then
 (bif gX==45 then
 ((M.iy gX).bind fun avc=>
 (bif(1+avc.length).ble 9223372036854775807 then
 ((M.bI ([32]++avc)).bind fun aiV=>
 (M.rY.bind fun aiW=>
 ((M.dI ([[D.int .i64 mD.1,D.int .i64 mD.2.1,D.str mD.2.2.1,D.sl false 5 (aA mD.2.2.2.1),D.int .i64 mD.2.2.2.2],[D.int .i64 aiV.1,D.int .i64 aiV.2.1,D.str aiV.2.2.1,D.sl false 5 (aA aiV.2.2.2.1),D.int .i64 aiV.2.2.2.2],[D.int .i64 aiW.1,D.int .i64 aiW.2.1,D.str aiW.2.2.1,D.sl false 5 (aA aiW.2.2.2.1),D.int .i64 aiW.2.2.2.2],[D.int .i64 mF.1,D.int .i64 mF.2.1,D.str mF.2.2.1,D.sl false 5 (aA mF.2.2.2.1),D.int .i64 mF.2.2.2.2]])).bind fun aiX=>
 ((M.pq aiX.1 aiX.2.1 aiX.2.2.1 (aA aiX.2.2.2.1) aiX.2.2.2.2).bind fun aiY=>
 ((M.oN aiY.1 aiY.2.1 aiY.2.2.1 (aA aiY.2.2.2.1) aiY.2.2.2.2).bind fun aiZ=>
 (k ((aiZ.1,aiZ.2.1,aiZ.2.2.1,aA aiZ.2.2.2.1,aiZ.2.2.2.2)))))))) else none)) else
 (bif gX==44 then
 ((M.iy gX).bind fun avd=>
 (bif(1+avd.length).ble 9223372036854775807 then
 ((M.bI ([32]++avd)).bind fun ai0=>
 (M.rY.bind fun ai1=>
 ((M.dI ([[D.int .i64 mD.1,D.int .i64 mD.2.1,D.str mD.2.2.1,D.sl false 5 (aA mD.2.2.2.1),D.int .i64 mD.2.2.2.2],[D.int .i64 ai0.1,D.int .i64 ai0.2.1,D.str ai0.2.2.1,D.sl false 5 (aA ai0.2.2.2.1),D.int .i64 ai0.2.2.2.2],[D.int .i64 ai1.1,D.int .i64 ai1.2.1,D.str ai1.2.2.1,D.sl false 5 (aA ai1.2.2.2.1),D.int .i64 ai1.2.2.2.2],[D.int .i64 mF.1,D.int .i64 mF.2.1,D.str mF.2.2.1,D.sl false 5 (aA mF.2.2.2.1),D.int .i64 mF.2.2.2.2]])).bind fun ai2=>
 ((M.pq ai2.1 ai2.2.1 ai2.2.2.1 (aA ai2.2.2.2.1) ai2.2.2.2.2).bind fun ai3=>
 ((M.oN ai3.1 ai3.2.1 ai3.2.2.1 (aA ai3.2.2.2.1) ai3.2.2.2.2).bind fun ai4=>
 (k ((ai4.1,ai4.2.1,ai4.2.2.1,aA ai4.2.2.2.1,ai4.2.2.2.2)))))))) else none)) else
 ((M.iy gX).bind fun arL=>
 (bif(1+arL.length).ble 9223372036854775807 then
 (bif(([32]++arL).length+1).ble 9223372036854775807 then
 ((M.bI ([32]++arL++[32])).bind fun ai5=>
 ((M.dI ([[D.int .i64 mD.1,D.int .i64 mD.2.1,D.str mD.2.2.1,D.sl false 5 (aA mD.2.2.2.1),D.int .i64 mD.2.2.2.2],[D.int .i64 ai5.1,D.int .i64 ai5.2.1,D.str ai5.2.2.1,D.sl false 5 (aA ai5.2.2.2.1),D.int .i64 ai5.2.2.2.2],[D.int .i64 mF.1,D.int .i64 mF.2.1,D.str mF.2.2.1,D.sl false 5 (aA mF.2.2.2.1),D.int .i64 mF.2.2.2.2]])).bind fun ai6=>
 (k ((ai6.1,ai6.2.1,ai6.2.2.1,aA ai6.2.2.2.1,ai6.2.2.2.2))))) else none) else none)))) else
 ((M.iy gX).bind fun arM=>
 (bif(1+arM.length).ble 9223372036854775807 then
 (bif(([32]++arM).length+1).ble 9223372036854775807 then
 ((M.bI ([32]++arM++[32])).bind fun ai7=>
 ((M.dI ([[D.int .i64 mD.1,D.int .i64 mD.2.1,D.str mD.2.2.1,D.sl false 5 (aA mD.2.2.2.1),D.int .i64 mD.2.2.2.2],[D.int .i64 ai7.1,D.int .i64 ai7.2.1,D.str ai7.2.2.1,D.sl false 5 (aA ai7.2.2.2.1),D.int .i64 ai7.2.2.2.2],[D.int .i64 mF.1,D.int .i64 mF.2.1,D.str mF.2.2.1,D.sl false 5 (aA mF.2.2.2.1),D.int .i64 mF.2.2.2.2]])).bind fun ai8=>
 (k ((ai8.1,ai8.2.1,ai8.2.2.1,aA ai8.2.2.2.1,ai8.2.2.2.2))))) else none) else none)))) else
 (bif t'==12 then
 (bif gX==45 then
 ((M.iy gX).bind fun ave=>
 (bif(1+ave.length).ble 9223372036854775807 then
 ((M.bI ([32]++ave)).bind fun ai9=>
 (M.rY.bind fun aja=>
 ((M.dI ([[D.int .i64 mD.1,D.int .i64 mD.2.1,D.str mD.2.2.1,D.sl false 5 (aA mD.2.2.2.1),D.int .i64 mD.2.2.2.2],[D.int .i64 ai9.1,D.int .i64 ai9.2.1,D.str ai9.2.2.1,D.sl false 5 (aA ai9.2.2.2.1),D.int .i64 ai9.2.2.2.2],[D.int .i64 aja.1,D.int .i64 aja.2.1,D.str aja.2.2.1,D.sl false 5 (aA aja.2.2.2.1),D.int .i64 aja.2.2.2.2],[D.int .i64 mF.1,D.int .i64 mF.2.1,D.str mF.2.2.1,D.sl false 5 (aA mF.2.2.2.1),D.int .i64 mF.2.2.2.2]])).bind fun ajb=>
 ((M.pq ajb.1 ajb.2.1 ajb.2.2.1 (aA ajb.2.2.2.1) ajb.2.2.2.2).bind fun ajc=>
 ((M.oN ajc.1 ajc.2.1 ajc.2.2.1 (aA ajc.2.2.2.1) ajc.2.2.2.2).bind fun ajd=>
 (k ((ajd.1,ajd.2.1,ajd.2.2.1,aA ajd.2.2.2.1,ajd.2.2.2.2)))))))) else none)) else
 (bif gX==44 then
 ((M.iy gX).bind fun avf=>
 (bif(1+avf.length).ble 9223372036854775807 then
 ((M.bI ([32]++avf)).bind fun aje=>
 (M.rY.bind fun ajf=>
 ((M.dI ([[D.int .i64 mD.1,D.int .i64 mD.2.1,D.str mD.2.2.1,D.sl false 5 (aA mD.2.2.2.1),D.int .i64 mD.2.2.2.2],[D.int .i64 aje.1,D.int .i64 aje.2.1,D.str aje.2.2.1,D.sl false 5 (aA aje.2.2.2.1),D.int .i64 aje.2.2.2.2],[D.int .i64 ajf.1,D.int .i64 ajf.2.1,D.str ajf.2.2.1,D.sl false 5 (aA ajf.2.2.2.1),D.int .i64 ajf.2.2.2.2],[D.int .i64 mF.1,D.int .i64 mF.2.1,D.str mF.2.2.1,D.sl false 5 (aA mF.2.2.2.1),D.int .i64 mF.2.2.2.2]])).bind fun ajg=>
 ((M.pq ajg.1 ajg.2.1 ajg.2.2.1 (aA ajg.2.2.2.1) ajg.2.2.2.2).bind fun ajh=>
 ((M.oN ajh.1 ajh.2.1 ajh.2.2.1 (aA ajh.2.2.2.1) ajh.2.2.2.2).bind fun aji=>
 (k ((aji.1,aji.2.1,aji.2.2.1,aA aji.2.2.2.1,aji.2.2.2.2)))))))) else none)) else
 ((M.iy gX).bind fun arN=>
 (bif(1+arN.length).ble 9223372036854775807 then
 (bif(([32]++arN).length+1).ble 9223372036854775807 then
 ((M.bI ([32]++arN++[32])).bind fun ajj=>
 ((M.dI ([[D.int .i64 mD.1,D.int .i64 mD.2.1,D.str mD.2.2.1,D.sl false 5 (aA mD.2.2.2.1),D.int .i64 mD.2.2.2.2],[D.int .i64 ajj.1,D.int .i64 ajj.2.1,D.str ajj.2.2.1,D.sl false 5 (aA ajj.2.2.2.1),D.int .i64 ajj.2.2.2.2],[D.int .i64 mF.1,D.int .i64 mF.2.1,D.str mF.2.2.1,D.sl false 5 (aA mF.2.2.2.1),D.int .i64 mF.2.2.2.2]])).bind fun ajk=>
 (k ((ajk.1,ajk.2.1,ajk.2.2.1,aA ajk.2.2.2.1,ajk.2.2.2.2))))) else none) else none)))) else
 ((M.iy gX).bind fun arO=>
 (bif(1+arO.length).ble 9223372036854775807 then
 (bif(([32]++arO).length+1).ble 9223372036854775807 then
 ((M.bI ([32]++arO++[32])).bind fun ajl=>
 ((M.dI ([[D.int .i64 mD.1,D.int .i64 mD.2.1,D.str mD.2.2.1,D.sl false 5 (aA mD.2.2.2.1),D.int .i64 mD.2.2.2.2],[D.int .i64 ajl.1,D.int .i64 ajl.2.1,D.str ajl.2.2.1,D.sl false 5 (aA ajl.2.2.2.1),D.int .i64 ajl.2.2.2.2],[D.int .i64 mF.1,D.int .i64 mF.2.1,D.str mF.2.2.1,D.sl false 5 (aA mF.2.2.2.1),D.int .i64 mF.2.2.2.2]])).bind fun ajm=>
 (k ((ajm.1,ajm.2.1,ajm.2.2.1,aA ajm.2.2.2.1,ajm.2.2.2.2))))) else none) else none))))))))))))))))))
theorem C.ZQ{nU:ak→Option (Int×Int×aF×ak×Int)}{fM:Int→Int→aF→aF→ak→Int→Int→Bool→Bool→Bool→Bool→Option (Int×Int×aF×ak×Int)}{xJ:Int→Int→aF→aF→ak→Int→Bool→Bool→Bool→Bool→Option (Int×Int×aF×ak×Int)}(abW:S.nC.ok X0 fun x=>nU x.1.1)(Ov:S.zW.ok X0 fun x=>fM x.1.1.1 x.1.1.2.1 x.1.1.2.2.1 x.1.1.2.2.2.1 x.1.1.2.2.2.2.1 x.1.2.1 x.1.2.2.1.1 x.1.2.2.1.2.1 x.1.2.2.1.2.2.1 x.1.2.2.1.2.2.2.1 x.1.2.2.1.2.2.2.2.1)(ZR:S.yw.ok X0 fun x=>xJ x.1.1.1 x.1.1.2.1 x.1.1.2.2.1 x.1.1.2.2.2.1 x.1.1.2.2.2.2.1 x.1.2.1.1 x.1.2.1.2.1 x.1.2.1.2.2.1 x.1.2.1.2.2.2.1 x.1.2.1.2.2.2.2.1):S.wP.ok X0 fun x=>M.fA nU fM xJ x.1.1.1 x.1.1.2.1 x.1.1.2.2.1 x.1.1.2.2.2.1 x.1.1.2.2.2.2.1 x.1.2.1.1 x.1.2.1.2.1 x.1.2.1.2.2.1 x.1.2.1.2.2.2.1 x.1.2.1.2.2.2.2.1 some:=fnS (fun x=>M.fA nU fM xJ x.1.1.1 x.1.1.2.1 x.1.1.2.2.1 x.1.1.2.2.2.1 x.1.1.2.2.2.2.1 x.1.2.1.1 x.1.2.1.2.1 x.1.2.1.2.2.1 x.1.2.1.2.2.2.1 x.1.2.1.2.2.2.2.1) [fe C.bI,fe abW,fe C.dI,fe C.iy,fe Ov,fe ZR,fe C.rY,fe C.pq,fe C.oN] [] (by intros;unfold M.fA;repeat' first|with_reducible apply gG|with_reducible apply Gp|with_reducible apply Gq|with_reducible apply Gs|with_reducible apply Gt|(intro _)|apply gG|rfl)
def M.zn{R:Type}(jO:Int→Int→aF→aF→ak→Int→Bool→Bool→Bool→Bool→Option (Int×Int×aF×ak×Int))(t' gX:Int)(iK jr:aF)(iM:ak)(p:Int)(p1 p2 p3 p4:Bool)(k:Int×Int×aF×ak×Int→Option R):Option R:=
 (M.jB t' gX iK jr iM).bind fun ajn=>
 ((M.BA ajn.1 ajn.2.1 ajn.2.2.1 ajn.2.2.2.1 ajn.2.2.2.2 p p1 p2 p3 p4).bind fun aF5=>
 (bif aF5 then
 ((jO t' gX iK jr iM p p1 p2 p3 p4).bind fun ajo=>
 (k ((ajo.1,ajo.2.1,ajo.2.2.1,aA ajo.2.2.2.1,ajo.2.2.2.2)))) else
 ((M.bI [40]).bind fun ajp=>
 (M.qo.bind fun ajq=>
 ((jO t' gX iK jr iM ajq.1 ajq.2.1 ajq.2.2.1 ajq.2.2.2.1 ajq.2.2.2.2).bind fun ajr=>
 ((M.bI [41]).bind fun ajs=>
 ((M.dI ([[D.int .i64 ajp.1,D.int .i64 ajp.2.1,D.str ajp.2.2.1,D.sl false 5 (aA ajp.2.2.2.1),D.int .i64 ajp.2.2.2.2],[D.int .i64 ajr.1,D.int .i64 ajr.2.1,D.str ajr.2.2.1,D.sl false 5 (aA ajr.2.2.2.1),D.int .i64 ajr.2.2.2.2],[D.int .i64 ajs.1,D.int .i64 ajs.2.1,D.str ajs.2.2.1,D.sl false 5 (aA ajs.2.2.2.1),D.int .i64 ajs.2.2.2.2]])).bind fun ajt=>
 (k ((ajt.1,ajt.2.1,ajt.2.2.1,aA ajt.2.2.2.1,ajt.2.2.2.2))))))))))
theorem C.ZT{jO:Int→Int→aF→aF→ak→Int→Bool→Bool→Bool→Bool→Option (Int×Int×aF×ak×Int)}(Ny:S.wP.ok X0 fun x=>jO x.1.1.1 x.1.1.2.1 x.1.1.2.2.1 x.1.1.2.2.2.1 x.1.1.2.2.2.2.1 x.1.2.1.1 x.1.2.1.2.1 x.1.2.1.2.2.1 x.1.2.1.2.2.2.1 x.1.2.1.2.2.2.2.1):S.gV.ok X0 fun x=>M.zn jO x.1.1.1 x.1.1.2.1 x.1.1.2.2.1 x.1.1.2.2.2.1 x.1.1.2.2.2.2.1 x.1.2.1.1 x.1.2.1.2.1 x.1.2.1.2.2.1 x.1.2.1.2.2.2.1 x.1.2.1.2.2.2.2.1 some:=fnS (fun x=>M.zn jO x.1.1.1 x.1.1.2.1 x.1.1.2.2.1 x.1.1.2.2.2.1 x.1.1.2.2.2.2.1 x.1.2.1.1 x.1.2.1.2.1 x.1.2.1.2.2.1 x.1.2.1.2.2.2.1 x.1.2.1.2.2.2.2.1) [fe C.jB,fe C.BA,fe Ny,fe C.bI,fe C.qo,fe C.dI] [] (by intros;unfold M.zn;repeat' first|with_reducible apply gG|with_reducible apply Gp|with_reducible apply Gq|with_reducible apply Gs|with_reducible apply Gt|(intro _)|apply gG|rfl)
def M.jS:Nat→(Int→Int→aF→aF→ak→Int→Bool→Bool→Bool→Bool→Option (Int×Int×aF×ak×Int))×(ak→Option (Int×Int×aF×ak×Int))×(Int→Int→aF→aF→ak→Int→Int→Bool→Bool→Bool→Bool→Option (Int×Int×aF×ak×Int))×(Int→Int→aF→aF→ak→Int→Bool→Bool→Bool→Bool→Option (Int×Int×aF×ak×Int))×(Int→Int→aF→aF→ak→Int→Bool→Bool→Bool→Bool→Option (Int×Int×aF×ak×Int)):=
 Nat.rec (fun _ _ _ _ _ _ _ _ _ _=>none,fun _=>none,fun _ _ _ _ _ _ _ _ _ _ _=>none,fun _ _ _ _ _ _ _ _ _ _=>none,fun _ _ _ _ _ _ _ _ _ _=>none) fun _ qz=>(fun t' gX iK jr iM p p1 p2 p3 p4=>M.zn qz.2.2.2.2 t' gX iK jr iM p p1 p2 p3 p4 some,fun kids=>M.zl qz.1 kids some,fun t' gX iK jr iM k' p p1 p2 p3 p4=>M.BF qz.2.2.2.2 qz.1 t' gX iK jr iM k' p p1 p2 p3 p4 some,fun t' gX iK jr iM p p1 p2 p3 p4=>M.vY qz.2.2.1 t' gX iK jr iM p p1 p2 p3 p4 some,fun t' gX iK jr iM p p1 p2 p3 p4=>M.fA qz.2.1 qz.2.2.1 qz.2.2.2.1 t' gX iK jr iM p p1 p2 p3 p4 some)
def M.vC(n:Nat):Int→Int→aF→aF→ak→Int→Bool→Bool→Bool→Bool→Option (Int×Int×aF×ak×Int):=(M.jS n).1
def M.zo(n:Nat):ak→Option (Int×Int×aF×ak×Int):=(M.jS n).2.1
def M.yB(n:Nat):Int→Int→aF→aF→ak→Int→Int→Bool→Bool→Bool→Bool→Option (Int×Int×aF×ak×Int):=(M.jS n).2.2.1
def M.Bh(n:Nat):Int→Int→aF→aF→ak→Int→Bool→Bool→Bool→Bool→Option (Int×Int×aF×ak×Int):=(M.jS n).2.2.2.1
def M.zq(n:Nat):Int→Int→aF→aF→ak→Int→Bool→Bool→Bool→Bool→Option (Int×Int×aF×ak×Int):=(M.jS n).2.2.2.2
theorem M.abX(n:Nat):M.vC (n+1)=fun t' gX iK jr iM p p1 p2 p3 p4=>M.zn (M.zq n) t' gX iK jr iM p p1 p2 p3 p4 some:=rfl
theorem M.abY(n:Nat):M.zo (n+1)=fun kids=>M.zl (M.vC n) kids some:=rfl
theorem M.adp(n:Nat):M.yB (n+1)=fun t' gX iK jr iM k' p p1 p2 p3 p4=>M.BF (M.zq n) (M.vC n) t' gX iK jr iM k' p p1 p2 p3 p4 some:=rfl
theorem M.ZU(n:Nat):M.Bh (n+1)=fun t' gX iK jr iM p p1 p2 p3 p4=>M.vY (M.yB n) t' gX iK jr iM p p1 p2 p3 p4 some:=rfl
theorem M.abZ(n:Nat):M.zq (n+1)=fun t' gX iK jr iM p p1 p2 p3 p4=>M.fA (M.zo n) (M.yB n) (M.Bh n) t' gX iK jr iM p p1 p2 p3 p4 some:=rfl
def M.gV(t' gX:Int)(iK jr:aF)(iM:ak)(p:Int)(p1 p2 p3 p4:Bool):Option (Int×Int×aF×ak×Int):=lim fun n=>M.vC n t' gX iK jr iM p p1 p2 p3 p4
def M.nC(kids:ak):Option (Int×Int×aF×ak×Int):=lim fun n=>M.zo n kids
def M.zW(t' gX:Int)(iK jr:aF)(iM:ak)(k' p:Int)(p1 p2 p3 p4:Bool):Option (Int×Int×aF×ak×Int):=lim fun n=>M.yB n t' gX iK jr iM k' p p1 p2 p3 p4
def M.yw(t' gX:Int)(iK jr:aF)(iM:ak)(p:Int)(p1 p2 p3 p4:Bool):Option (Int×Int×aF×ak×Int):=lim fun n=>M.Bh n t' gX iK jr iM p p1 p2 p3 p4
def M.wP(t' gX:Int)(iK jr:aF)(iM:ak)(p:Int)(p1 p2 p3 p4:Bool):Option (Int×Int×aF×ak×Int):=lim fun n=>M.zq n t' gX iK jr iM p p1 p2 p3 p4
theorem C.jS:∀n,(S.gV.ok X0 fun x=>M.vC n x.1.1.1 x.1.1.2.1 x.1.1.2.2.1 x.1.1.2.2.2.1 x.1.1.2.2.2.2.1 x.1.2.1.1 x.1.2.1.2.1 x.1.2.1.2.2.1 x.1.2.1.2.2.2.1 x.1.2.1.2.2.2.2.1)∧(S.nC.ok X0 fun x=>M.zo n x.1.1)∧(S.zW.ok X0 fun x=>M.yB n x.1.1.1 x.1.1.2.1 x.1.1.2.2.1 x.1.1.2.2.2.1 x.1.1.2.2.2.2.1 x.1.2.1 x.1.2.2.1.1 x.1.2.2.1.2.1 x.1.2.2.1.2.2.1 x.1.2.2.1.2.2.2.1 x.1.2.2.1.2.2.2.2.1)∧(S.yw.ok X0 fun x=>M.Bh n x.1.1.1 x.1.1.2.1 x.1.1.2.2.1 x.1.1.2.2.2.1 x.1.1.2.2.2.2.1 x.1.2.1.1 x.1.2.1.2.1 x.1.2.1.2.2.1 x.1.2.1.2.2.2.1 x.1.2.1.2.2.2.2.1)∧(S.wP.ok X0 fun x=>M.zq n x.1.1.1 x.1.1.2.1 x.1.1.2.2.1 x.1.1.2.2.2.1 x.1.1.2.2.2.2.1 x.1.2.1.1 x.1.2.1.2.1 x.1.2.1.2.2.1 x.1.2.1.2.2.2.1 x.1.2.1.2.2.2.2.1)
 |0=>⟨fH.zero,fH.zero,fH.zero,fH.zero,fH.zero⟩
 |n+1=>have h:=C.jS n;⟨C.ZT h.2.2.2.2,C.ZP h.1,C.abV h.2.2.2.2 h.1,C.X7 h.2.2.1,C.ZQ h.2.1 h.2.2.1 h.2.2.2.1⟩
theorem C.gV:S.gV.ok X0 fun x=>M.gV x.1.1.1 x.1.1.2.1 x.1.1.2.2.1 x.1.1.2.2.2.1 x.1.1.2.2.2.2.1 x.1.2.1.1 x.1.2.1.2.1 x.1.2.1.2.2.1 x.1.2.1.2.2.2.1 x.1.2.1.2.2.2.2.1:=fH.lim fun n=>(C.jS n).1
theorem M.ZV{n:Nat}{t' gX:Int}{iK jr:aF}{iM:ak}{p:Int}{p1 p2 p3 p4:Bool}{r:Int×Int×aF×ak×Int}(h:M.vC n t' gX iK jr iM p p1 p2 p3 p4=some r):M.gV t' gX iK jr iM p p1 p2 p3 p4=some r:=
 fH.EJ (fun n=>(C.jS n).1) (by intro a b h;simp[S.gV,sg] at h;first|exact h|simp[Prod.ext_iff,h]) (x:=(((t',gX,iK,jr,iM,()),(p,p1,p2,p3,p4,()),()),())) h
theorem C.nC:S.nC.ok X0 fun x=>M.nC x.1.1:=fH.lim fun n=>(C.jS n).2.1
theorem M.ZW{n:Nat}{kids:ak}{r:Int×Int×aF×ak×Int}(h:M.zo n kids=some r):M.nC kids=some r:=
 fH.EJ (fun n=>(C.jS n).2.1) (by intro a b h;simp[S.nC,sg] at h;first|exact h|simp[Prod.ext_iff,h]) (x:=((kids,((),()),()),())) h
theorem C.zW:S.zW.ok X0 fun x=>M.zW x.1.1.1 x.1.1.2.1 x.1.1.2.2.1 x.1.1.2.2.2.1 x.1.1.2.2.2.2.1 x.1.2.1 x.1.2.2.1.1 x.1.2.2.1.2.1 x.1.2.2.1.2.2.1 x.1.2.2.1.2.2.2.1 x.1.2.2.1.2.2.2.2.1:=fH.lim fun n=>(C.jS n).2.2.1
theorem C.yw:S.yw.ok X0 fun x=>M.yw x.1.1.1 x.1.1.2.1 x.1.1.2.2.1 x.1.1.2.2.2.1 x.1.1.2.2.2.2.1 x.1.2.1.1 x.1.2.1.2.1 x.1.2.1.2.2.1 x.1.2.1.2.2.2.1 x.1.2.1.2.2.2.2.1:=fH.lim fun n=>(C.jS n).2.2.2.1
theorem C.wP:S.wP.ok X0 fun x=>M.wP x.1.1.1 x.1.1.2.1 x.1.1.2.2.1 x.1.1.2.2.2.1 x.1.1.2.2.2.2.1 x.1.2.1.1 x.1.2.1.2.1 x.1.2.1.2.2.1 x.1.2.1.2.2.2.1 x.1.2.1.2.2.2.2.1:=fH.lim fun n=>(C.jS n).2.2.2.2
def M.KD{R:Type}(t' gX:Int)(iK jr:aF)(iM:ak)(k:Int×Int×aF×ak×Int→Option R):Option R:=
 M.qo.bind fun aju=>
 ((M.gV t' gX iK jr iM aju.1 aju.2.1 aju.2.2.1 aju.2.2.2.1 aju.2.2.2.2).bind fun ajv=>
 (k ((ajv.1,ajv.2.1,ajv.2.2.1,aA ajv.2.2.2.1,ajv.2.2.2.2))))
def M.mQ(t' gX:Int)(iK jr:aF)(iM:ak):Option (Int×Int×aF×ak×Int):=M.KD t' gX iK jr iM some
theorem C.mQ:S.mQ.ok X0 fun x=>M.mQ x.1.1.1 x.1.1.2.1 x.1.1.2.2.1 x.1.1.2.2.2.1 x.1.1.2.2.2.2.1:=fnS (fun x=>M.KD x.1.1.1 x.1.1.2.1 x.1.1.2.2.1 x.1.1.2.2.2.1 x.1.1.2.2.2.2.1) [fe C.qo,fe C.gV] [] (by intros;simp only[M.KD,nb]<;>rfl)
def M.Ar{R:Type}(v0:Int)(k:Int×Bool×Bool×Bool×Bool→Option R):Option R:=
 k ((1,false,false,true,false))
def M.nR(v0:Int):Option (Int×Bool×Bool×Bool×Bool):=M.Ar v0 some
theorem C.nR:S.nR.ok X0 fun x=>M.nR x.1.1:=fnS (fun x=>M.Ar x.1.1) [] [] (by intros;simp only[M.Ar,nb]<;>rfl)
def M.tq{R:Type}(v9:ak)(v10 x' uJ:Int)(xX:aF)(CV:Int)(s:Int×ak)(kn:Int×ak→Option R)(ke:Int×ak→Option R):Option R:=match s with
 |(v11,zC)=>
 bif decide (v11<v10) then
 ((idx v9 v11).bind fun Wv=>
 ((dn .i64 Wv 0).bind fun avg=>
 ((dn .i64 Wv 1).bind fun avh=>
 ((cStr Wv 2).bind fun avi=>
 ((cStr Wv 3).bind fun avj=>
 ((BK 5 Wv 4).bind fun ajw=>
 (bif decide (v11>0) then
 ((M.bI [44]).bind fun Bj=>
 (M.rY.bind fun Bl=>
 (bif((zC.length+[[D.int .i64 Bj.1,D.int .i64 Bj.2.1,D.str Bj.2.2.1,D.sl false 5 (aA Bj.2.2.2.1),D.int .i64 Bj.2.2.2.2],[D.int .i64 Bl.1,D.int .i64 Bl.2.1,D.str Bl.2.2.1,D.sl false 5 (aA Bl.2.2.2.1),D.int .i64 Bl.2.2.2.2]].length) * 64).ble 140737488355328 then
 (bif(zC.length+[[D.int .i64 Bj.1,D.int .i64 Bj.2.1,D.str Bj.2.2.1,D.sl false 5 (aA Bj.2.2.2.1),D.int .i64 Bj.2.2.2.2],[D.int .i64 Bl.1,D.int .i64 Bl.2.1,D.str Bl.2.2.1,D.sl false 5 (aA Bl.2.2.2.1),D.int .i64 Bl.2.2.2.2]].length).ble 140737488355328 then
 ((M.nR v11).bind fun ajx=>
 ((M.gV avg avh avi avj ajw ajx.1 ajx.2.1 ajx.2.2.1 ajx.2.2.2.1 ajx.2.2.2.2).bind fun Nz=>
 (bif(((zC++[[D.int .i64 Bj.1,D.int .i64 Bj.2.1,D.str Bj.2.2.1,D.sl false 5 (aA Bj.2.2.2.1),D.int .i64 Bj.2.2.2.2],[D.int .i64 Bl.1,D.int .i64 Bl.2.1,D.str Bl.2.2.1,D.sl false 5 (aA Bl.2.2.2.1),D.int .i64 Bl.2.2.2.2]]).length+[[D.int .i64 Nz.1,D.int .i64 Nz.2.1,D.str Nz.2.2.1,D.sl false 5 (aA Nz.2.2.2.1),D.int .i64 Nz.2.2.2.2]].length) * 64).ble 140737488355328 then
 (bif((zC++[[D.int .i64 Bj.1,D.int .i64 Bj.2.1,D.str Bj.2.2.1,D.sl false 5 (aA Bj.2.2.2.1),D.int .i64 Bj.2.2.2.2],[D.int .i64 Bl.1,D.int .i64 Bl.2.1,D.str Bl.2.2.1,D.sl false 5 (aA Bl.2.2.2.1),D.int .i64 Bl.2.2.2.2]]).length+[[D.int .i64 Nz.1,D.int .i64 Nz.2.1,D.str Nz.2.2.1,D.sl false 5 (aA Nz.2.2.2.1),D.int .i64 Nz.2.2.2.2]].length).ble 140737488355328 then
 (kn ((IntKind.i64.wrap (v11+1),zC++[[D.int .i64 Bj.1,D.int .i64 Bj.2.1,D.str Bj.2.2.1,D.sl false 5 (aA Bj.2.2.2.1),D.int .i64 Bj.2.2.2.2],[D.int .i64 Bl.1,D.int .i64 Bl.2.1,D.str Bl.2.2.1,D.sl false 5 (aA Bl.2.2.2.1),D.int .i64 Bl.2.2.2.2]]++[[D.int .i64 Nz.1,D.int .i64 Nz.2.1,D.str Nz.2.2.1,D.sl false 5 (aA Nz.2.2.2.1),D.int .i64 Nz.2.2.2.2]]))) else none) else none))) else none) else none))) else
 ((M.nR v11).bind fun ajy=>
 ((M.gV avg avh avi avj ajw ajy.1 ajy.2.1 ajy.2.2.1 ajy.2.2.2.1 ajy.2.2.2.2).bind fun NC=>
 (bif((zC.length+[[D.int .i64 NC.1,D.int .i64 NC.2.1,D.str NC.2.2.1,D.sl false 5 (aA NC.2.2.2.1),D.int .i64 NC.2.2.2.2]].length) * 64).ble 140737488355328 then
 (bif(zC.length+[[D.int .i64 NC.1,D.int .i64 NC.2.1,D.str NC.2.2.1,D.sl false 5 (aA NC.2.2.2.1),D.int .i64 NC.2.2.2.2]].length).ble 140737488355328 then
 (kn ((IntKind.i64.wrap (v11+1),zC++[[D.int .i64 NC.1,D.int .i64 NC.2.1,D.str NC.2.2.1,D.sl false 5 (aA NC.2.2.2.1),D.int .i64 NC.2.2.2.2]]))) else none) else none)))))))))) else(ke ((v11,zC)))
def M.EO(v9:ak)(v10 x' uJ:Int)(xX:aF)(CV:Int)(s:Int×ak):=M.tq v9 v10 x' uJ xX CV s (fun s=>some (Sum.inl s)) fun t=>some (Sum.inr t)
def M.CB(v9:ak)(v10 x' uJ:Int)(xX:aF)(CV:Int)(s:Int×ak):Option (Int×ak):=iR (M.EO v9 v10 x' uJ xX CV) s
def F.CB:LE X0 83:=le 3 (La [fU 1 (atz 123 [] []),fU 4 (pP 300000 0),fU 5 (pO 300001 0),fU 9 (pL false 5),fU 10 pI,fU 11 pI] [fU 300000 (cB 49 [pI,pI,pS,abk 5,pI]),fU 300001 (cA false false 0 5)]) (fun x=>(x.1.2.2.2.2.2.1,x.2.2.1)) (fun x s=>((((),()),(),(),x.1.2.2.2.1,x.1.2.2.2.2.1,s.1,()),((x.2.1.1,x.2.1.2.1,x.2.1.2.2.1,(),x.2.1.2.2.2.2.1,()),s.2,()))) (fun x=> .leaf (Int×ak) (fun t=>(Ex.exit 0,{tm:=[(1,V.clo 123 [] []),(4,V.ptr 300000 0),(5,V.own 300001 0),(9,V.d (D.sl false 5 x.1.2.2.2.1)),(10,V.d (D.int .i64 x.1.2.2.2.2.1)),(11,V.d (D.int .i64 t.1)),(12,V.d (D.bool false))],mem:=[(300000,Cell.box 49 [V.d (D.int .i64 x.2.1.1),V.d (D.int .i64 x.2.1.2.1),V.d (D.str x.2.1.2.2.1),V.nil 5,V.d (D.int .i64 x.2.1.2.2.2.2.1)]),(300001,Cell.arr false false 0 5 t.2)]}))) (fun x=>M.tq x.1.2.2.2.1 x.1.2.2.2.2.1 x.2.1.1 x.2.1.2.1 x.2.1.2.2.1 x.2.1.2.2.2.2.1) [fe C.bI,fe C.rY,fe C.nR,fe C.gV] [] (by rintro _ _ ⟨_,_⟩ _ _<;>simp only[M.tq,nb]<;>rfl)
def M.Em{R:Type}(kids:ak)(k:Int×Int×aF×ak×Int→Option R):Option R:=
 (M.CB kids ((↑kids.length:Int)) 0 0 [] 0 ((0,[]))).bind fun aF6=>
 ((M.dI aF6.2).bind fun ajz=>
 ((M.pq ajz.1 ajz.2.1 ajz.2.2.1 (aA ajz.2.2.2.1) ajz.2.2.2.2).bind fun ajA=>
 ((M.oN ajA.1 ajA.2.1 ajA.2.2.1 (aA ajA.2.2.2.1) ajA.2.2.2.2).bind fun ajB=>
 (k ((ajB.1,ajB.2.1,ajB.2.2.1,aA ajB.2.2.2.1,ajB.2.2.2.2))))))
def M.oP(kids:ak):Option (Int×Int×aF×ak×Int):=M.Em kids some
theorem C.oP:S.oP.ok X0 fun x=>M.oP x.1.1:=fnS (fun x=>M.Em x.1.1) [fe C.dI,fe C.pq,fe C.oN] [F.CB] (by intros;simp only[M.Em,nb]<;>rfl)
def M.FX{R:Type}(t' gX:Int)(iK jr:aF)(iM:ak)(k:Int×Int×aF×ak×Int→Option R):Option R:=
 bif decide (0≤gX) && decide (gX<2) then
 ((cStr [D.str [112,114,105,110,116],D.str [112,114,105,110,116,102]] gX.toNat).bind fun aF7=>
 ((M.bI aF7).bind fun nX=>
 (bif !jr==[] then
 ((cut iM 0 (IntKind.i64.wrap ((↑iM.length:Int) - 1))).bind fun ajC=>
 (bif decide ((↑ajC.length:Int)>0) then
 ((M.bI [32]).bind fun Ub=>
 ((M.oP ajC).bind fun Uc=>
 (bif !jr==[] then
 (bif(1+jr.length).ble 9223372036854775807 then
 (bif(([32]++jr).length+1).ble 9223372036854775807 then
 ((M.bI ([32]++jr++[32])).bind fun ajD=>
 ((idx iM (IntKind.i64.wrap ((↑iM.length:Int) - 1))).bind fun Wx=>
 ((dn .i64 Wx 0).bind fun aF8=>
 ((dn .i64 Wx 1).bind fun aF9=>
 ((cStr Wx 2).bind fun aGa=>
 ((cStr Wx 3).bind fun aGb=>
 ((BK 5 Wx 4).bind fun arP=>
 ((M.gV aF8 aF9 aGa aGb arP 9 false false false false).bind fun ajE=>
 ((M.dI ([[D.int .i64 nX.1,D.int .i64 nX.2.1,D.str nX.2.2.1,D.sl false 5 (aA nX.2.2.2.1),D.int .i64 nX.2.2.2.2]]++[[D.int .i64 Ub.1,D.int .i64 Ub.2.1,D.str Ub.2.2.1,D.sl false 5 (aA Ub.2.2.2.1),D.int .i64 Ub.2.2.2.2],[D.int .i64 Uc.1,D.int .i64 Uc.2.1,D.str Uc.2.2.1,D.sl false 5 (aA Uc.2.2.2.1),D.int .i64 Uc.2.2.2.2]]++[[D.int .i64 ajD.1,D.int .i64 ajD.2.1,D.str ajD.2.2.1,D.sl false 5 (aA ajD.2.2.2.1),D.int .i64 ajD.2.2.2.2],[D.int .i64 ajE.1,D.int .i64 ajE.2.1,D.str ajE.2.2.1,D.sl false 5 (aA ajE.2.2.2.1),D.int .i64 ajE.2.2.2.2]])).bind fun ajF=>
 (k ((ajF.1,ajF.2.1,ajF.2.2.1,aA ajF.2.2.2.1,ajF.2.2.2.2)))))))))))) else none) else none) else
 ((M.dI ([[D.int .i64 nX.1,D.int .i64 nX.2.1,D.str nX.2.2.1,D.sl false 5 (aA nX.2.2.2.1),D.int .i64 nX.2.2.2.2]]++[[D.int .i64 Ub.1,D.int .i64 Ub.2.1,D.str Ub.2.2.1,D.sl false 5 (aA Ub.2.2.2.1),D.int .i64 Ub.2.2.2.2],[D.int .i64 Uc.1,D.int .i64 Uc.2.1,D.str Uc.2.2.1,D.sl false 5 (aA Uc.2.2.2.1),D.int .i64 Uc.2.2.2.2]])).bind fun ajG=>
 (k ((ajG.1,ajG.2.1,ajG.2.2.1,aA ajG.2.2.2.1,ajG.2.2.2.2))))))) else
 (bif !jr==[] then
 (bif(1+jr.length).ble 9223372036854775807 then
 (bif(([32]++jr).length+1).ble 9223372036854775807 then
 ((M.bI ([32]++jr++[32])).bind fun ajH=>
 ((idx iM (IntKind.i64.wrap ((↑iM.length:Int) - 1))).bind fun Wy=>
 ((dn .i64 Wy 0).bind fun aGc=>
 ((dn .i64 Wy 1).bind fun aGd=>
 ((cStr Wy 2).bind fun aGe=>
 ((cStr Wy 3).bind fun aGf=>
 ((BK 5 Wy 4).bind fun arQ=>
 ((M.gV aGc aGd aGe aGf arQ 9 false false false false).bind fun ajI=>
 ((M.dI ([[D.int .i64 nX.1,D.int .i64 nX.2.1,D.str nX.2.2.1,D.sl false 5 (aA nX.2.2.2.1),D.int .i64 nX.2.2.2.2]]++[[D.int .i64 ajH.1,D.int .i64 ajH.2.1,D.str ajH.2.2.1,D.sl false 5 (aA ajH.2.2.2.1),D.int .i64 ajH.2.2.2.2],[D.int .i64 ajI.1,D.int .i64 ajI.2.1,D.str ajI.2.2.1,D.sl false 5 (aA ajI.2.2.2.1),D.int .i64 ajI.2.2.2.2]])).bind fun ajJ=>
 (k ((ajJ.1,ajJ.2.1,ajJ.2.2.1,aA ajJ.2.2.2.1,ajJ.2.2.2.2)))))))))))) else none) else none) else
 ((M.dI ([[D.int .i64 nX.1,D.int .i64 nX.2.1,D.str nX.2.2.1,D.sl false 5 (aA nX.2.2.2.1),D.int .i64 nX.2.2.2.2]])).bind fun ajK=>
 (k ((ajK.1,ajK.2.1,ajK.2.2.1,aA ajK.2.2.2.1,ajK.2.2.2.2))))))) else
 (bif decide ((↑iM.length:Int)>0) then
 ((M.bI [32]).bind fun Ud=>
 ((M.oP iM).bind fun Ue=>
 (bif !jr==[] then
 (bif(1+jr.length).ble 9223372036854775807 then
 (bif(([32]++jr).length+1).ble 9223372036854775807 then
 ((M.bI ([32]++jr++[32])).bind fun ajL=>
 ((idx iM (IntKind.i64.wrap ((↑iM.length:Int) - 1))).bind fun WA=>
 ((dn .i64 WA 0).bind fun aGg=>
 ((dn .i64 WA 1).bind fun aGh=>
 ((cStr WA 2).bind fun aGi=>
 ((cStr WA 3).bind fun aGj=>
 ((BK 5 WA 4).bind fun arR=>
 ((M.gV aGg aGh aGi aGj arR 9 false false false false).bind fun ajM=>
 ((M.dI ([[D.int .i64 nX.1,D.int .i64 nX.2.1,D.str nX.2.2.1,D.sl false 5 (aA nX.2.2.2.1),D.int .i64 nX.2.2.2.2]]++[[D.int .i64 Ud.1,D.int .i64 Ud.2.1,D.str Ud.2.2.1,D.sl false 5 (aA Ud.2.2.2.1),D.int .i64 Ud.2.2.2.2],[D.int .i64 Ue.1,D.int .i64 Ue.2.1,D.str Ue.2.2.1,D.sl false 5 (aA Ue.2.2.2.1),D.int .i64 Ue.2.2.2.2]]++[[D.int .i64 ajL.1,D.int .i64 ajL.2.1,D.str ajL.2.2.1,D.sl false 5 (aA ajL.2.2.2.1),D.int .i64 ajL.2.2.2.2],[D.int .i64 ajM.1,D.int .i64 ajM.2.1,D.str ajM.2.2.1,D.sl false 5 (aA ajM.2.2.2.1),D.int .i64 ajM.2.2.2.2]])).bind fun ajN=>
 (k ((ajN.1,ajN.2.1,ajN.2.2.1,aA ajN.2.2.2.1,ajN.2.2.2.2)))))))))))) else none) else none) else
 ((M.dI ([[D.int .i64 nX.1,D.int .i64 nX.2.1,D.str nX.2.2.1,D.sl false 5 (aA nX.2.2.2.1),D.int .i64 nX.2.2.2.2]]++[[D.int .i64 Ud.1,D.int .i64 Ud.2.1,D.str Ud.2.2.1,D.sl false 5 (aA Ud.2.2.2.1),D.int .i64 Ud.2.2.2.2],[D.int .i64 Ue.1,D.int .i64 Ue.2.1,D.str Ue.2.2.1,D.sl false 5 (aA Ue.2.2.2.1),D.int .i64 Ue.2.2.2.2]])).bind fun ajO=>
 (k ((ajO.1,ajO.2.1,ajO.2.2.1,aA ajO.2.2.2.1,ajO.2.2.2.2))))))) else
 (bif !jr==[] then
 (bif(1+jr.length).ble 9223372036854775807 then
 (bif(([32]++jr).length+1).ble 9223372036854775807 then
 ((M.bI ([32]++jr++[32])).bind fun ajP=>
 ((idx iM (IntKind.i64.wrap ((↑iM.length:Int) - 1))).bind fun WB=>
 ((dn .i64 WB 0).bind fun aGk=>
 ((dn .i64 WB 1).bind fun aGl=>
 ((cStr WB 2).bind fun aGm=>
 ((cStr WB 3).bind fun aGn=>
 ((BK 5 WB 4).bind fun arS=>
 ((M.gV aGk aGl aGm aGn arS 9 false false false false).bind fun ajQ=>
 ((M.dI ([[D.int .i64 nX.1,D.int .i64 nX.2.1,D.str nX.2.2.1,D.sl false 5 (aA nX.2.2.2.1),D.int .i64 nX.2.2.2.2]]++[[D.int .i64 ajP.1,D.int .i64 ajP.2.1,D.str ajP.2.2.1,D.sl false 5 (aA ajP.2.2.2.1),D.int .i64 ajP.2.2.2.2],[D.int .i64 ajQ.1,D.int .i64 ajQ.2.1,D.str ajQ.2.2.1,D.sl false 5 (aA ajQ.2.2.2.1),D.int .i64 ajQ.2.2.2.2]])).bind fun ajR=>
 (k ((ajR.1,ajR.2.1,ajR.2.2.1,aA ajR.2.2.2.1,ajR.2.2.2.2)))))))))))) else none) else none) else
 ((M.dI ([[D.int .i64 nX.1,D.int .i64 nX.2.1,D.str nX.2.2.1,D.sl false 5 (aA nX.2.2.2.1),D.int .i64 nX.2.2.2.2]])).bind fun ajS=>
 (k ((ajS.1,ajS.2.1,ajS.2.2.1,aA ajS.2.2.2.1,ajS.2.2.2.2))))))))) else none
def M.uw(t' gX:Int)(iK jr:aF)(iM:ak):Option (Int×Int×aF×ak×Int):=M.FX t' gX iK jr iM some
theorem C.uw:S.uw.ok X0 fun x=>M.uw x.1.1.1 x.1.1.2.1 x.1.1.2.2.1 x.1.1.2.2.2.1 x.1.1.2.2.2.2.1:=fnS (fun x=>M.FX x.1.1.1 x.1.1.2.1 x.1.1.2.2.1 x.1.1.2.2.2.1 x.1.1.2.2.2.2.1) [fe C.bI,fe C.oP,fe C.gV,fe C.dI] [] (by intros;simp only[M.FX,nb]<;>rfl)
def M.KE{R:Type}(t' gX:Int)(iK jr:aF)(iM:ak)(k:Int×Int×aF×ak×Int→Option R):Option R:=
 bif t'==16 then
 ((M.bI []).bind fun ajT=>
 (k ((ajT.1,ajT.2.1,ajT.2.2.1,aA ajT.2.2.2.1,ajT.2.2.2.2)))) else
 ((M.bI [32]).bind fun ajU=>
 ((M.mQ t' gX iK jr iM).bind fun ajV=>
 ((M.dI ([[D.int .i64 ajU.1,D.int .i64 ajU.2.1,D.str ajU.2.2.1,D.sl false 5 (aA ajU.2.2.2.1),D.int .i64 ajU.2.2.2.2],[D.int .i64 ajV.1,D.int .i64 ajV.2.1,D.str ajV.2.2.1,D.sl false 5 (aA ajV.2.2.2.1),D.int .i64 ajV.2.2.2.2]])).bind fun ajW=>
 (k ((ajW.1,ajW.2.1,ajW.2.2.1,aA ajW.2.2.2.1,ajW.2.2.2.2))))))
def M.nS(t' gX:Int)(iK jr:aF)(iM:ak):Option (Int×Int×aF×ak×Int):=M.KE t' gX iK jr iM some
theorem C.nS:S.nS.ok X0 fun x=>M.nS x.1.1.1 x.1.1.2.1 x.1.1.2.2.1 x.1.1.2.2.2.1 x.1.1.2.2.2.2.1:=fnS (fun x=>M.KE x.1.1.1 x.1.1.2.1 x.1.1.2.2.1 x.1.1.2.2.2.1 x.1.1.2.2.2.2.1) [fe C.bI,fe C.mQ,fe C.dI] [] (by intros;simp only[M.KE,nb]<;>rfl)
def M.IQ{R:Type}(word:aF)(t' gX:Int)(iK jr:aF)(iM:ak)(k:Int×Int×aF×ak×Int→Option R):Option R:=
 bif(↑iM.length:Int)==0 then
 ((M.bI word).bind fun ajX=>
 (k ((ajX.1,ajX.2.1,ajX.2.2.1,aA ajX.2.2.2.1,ajX.2.2.2.2)))) else
 ((M.bI word).bind fun ajY=>
 ((idx iM 0).bind fun WC=>
 ((dn .i64 WC 0).bind fun aGo=>
 ((dn .i64 WC 1).bind fun aGp=>
 ((cStr WC 2).bind fun aGq=>
 ((cStr WC 3).bind fun aGr=>
 ((BK 5 WC 4).bind fun arU=>
 ((M.nS aGo aGp aGq aGr arU).bind fun ajZ=>
 ((M.dI ([[D.int .i64 ajY.1,D.int .i64 ajY.2.1,D.str ajY.2.2.1,D.sl false 5 (aA ajY.2.2.2.1),D.int .i64 ajY.2.2.2.2],[D.int .i64 ajZ.1,D.int .i64 ajZ.2.1,D.str ajZ.2.2.1,D.sl false 5 (aA ajZ.2.2.2.1),D.int .i64 ajZ.2.2.2.2]])).bind fun aj0=>
 (k ((aj0.1,aj0.2.1,aj0.2.2.1,aA aj0.2.2.2.1,aj0.2.2.2.2))))))))))))
def M.tX(word:aF)(t' gX:Int)(iK jr:aF)(iM:ak):Option (Int×Int×aF×ak×Int):=M.IQ word t' gX iK jr iM some
theorem C.tX:S.tX.ok X0 fun x=>M.tX x.1.1 x.1.2.1.1 x.1.2.1.2.1 x.1.2.1.2.2.1 x.1.2.1.2.2.2.1 x.1.2.1.2.2.2.2.1:=fnS (fun x=>M.IQ x.1.1 x.1.2.1.1 x.1.2.1.2.1 x.1.2.1.2.2.1 x.1.2.1.2.2.2.1 x.1.2.1.2.2.2.2.1) [fe C.bI,fe C.nS,fe C.dI] [] (by intros;simp only[M.IQ,nb]<;>rfl)
def M.RN{R:Type}(k:Int×Int×aF×ak×Int→Option R):Option R:=
 k ((3,0,[],[],0))
def M.DV:Option (Int×Int×aF×ak×Int):=M.RN some
theorem C.DV:S.DV.ok X0 fun x=>M.DV:=fnS (fun x=>M.RN) [] [] (by intros;simp only[M.RN,nb]<;>rfl)
def M.vF{R:Type}(jf:Int→Int→aF→aF→ak→Option (Int×Int×aF×ak×Int))(v8:ak)(v9 x' uJ:Int)(xX:aF)(CV:Int)(s:Int×ak)(kn:Int×ak→Option R)(ke:Int×ak→Option R):Option R:=match s with
 |(v10,zC)=>
 bif decide (v10<v9) then
 ((idx v8 v10).bind fun WE=>
 ((dn .i64 WE 0).bind fun aGs=>
 ((dn .i64 WE 1).bind fun aGt=>
 ((cStr WE 2).bind fun aGu=>
 ((cStr WE 3).bind fun aGv=>
 ((BK 5 WE 4).bind fun arV=>
 (M.DV.bind fun ND=>
 ((jf aGs aGt aGu aGv arV).bind fun NG=>
 (bif((zC.length+[[D.int .i64 ND.1,D.int .i64 ND.2.1,D.str ND.2.2.1,D.sl false 5 (aA ND.2.2.2.1),D.int .i64 ND.2.2.2.2],[D.int .i64 NG.1,D.int .i64 NG.2.1,D.str NG.2.2.1,D.sl false 5 (aA NG.2.2.2.1),D.int .i64 NG.2.2.2.2]].length) * 64).ble 140737488355328 then
 (bif(zC.length+[[D.int .i64 ND.1,D.int .i64 ND.2.1,D.str ND.2.2.1,D.sl false 5 (aA ND.2.2.2.1),D.int .i64 ND.2.2.2.2],[D.int .i64 NG.1,D.int .i64 NG.2.1,D.str NG.2.2.1,D.sl false 5 (aA NG.2.2.2.1),D.int .i64 NG.2.2.2.2]].length).ble 140737488355328 then
 (kn ((IntKind.i64.wrap (v10+1),zC++[[D.int .i64 ND.1,D.int .i64 ND.2.1,D.str ND.2.2.1,D.sl false 5 (aA ND.2.2.2.1),D.int .i64 ND.2.2.2.2],[D.int .i64 NG.1,D.int .i64 NG.2.1,D.str NG.2.2.1,D.sl false 5 (aA NG.2.2.2.1),D.int .i64 NG.2.2.2.2]]))) else none) else none))))))))) else(ke ((v10,zC)))
def M.Au(jf:Int→Int→aF→aF→ak→Option (Int×Int×aF×ak×Int))(v8:ak)(v9 x' uJ:Int)(xX:aF)(CV:Int)(s:Int×ak):=M.vF jf v8 v9 x' uJ xX CV s (fun s=>some (Sum.inl s)) fun t=>some (Sum.inr t)
def M.En(jf:Int→Int→aF→aF→ak→Option (Int×Int×aF×ak×Int))(v8:ak)(v9 x' uJ:Int)(xX:aF)(CV:Int)(s:Int×ak):Option (Int×ak):=iR (M.Au jf v8 v9 x' uJ xX CV) s
def F.En{jf:Int→Int→aF→aF→ak→Option (Int×Int×aF×ak×Int)}(NH:S.nD.ok X0 fun x=>jf x.1.1.1 x.1.1.2.1 x.1.1.2.2.1 x.1.1.2.2.2.1 x.1.1.2.2.2.2.1):LE X0 86:=le 3 (La [fU 2 (pP 300000 0),fU 3 (pO 300001 0),fU 8 (pL false 5),fU 9 pI,fU 10 pI] [fU 300000 (cB 49 [pI,pI,pS,abk 5,pI]),fU 300001 (cA false false 0 5)]) (fun x=>(x.1.2.2.2.2.1,x.2.2.1)) (fun x s=>(((),(),x.1.2.2.1,x.1.2.2.2.1,s.1,()),((x.2.1.1,x.2.1.2.1,x.2.1.2.2.1,(),x.2.1.2.2.2.2.1,()),s.2,()))) (fun x=> .leaf (Int×ak) (fun t=>(Ex.exit 0,{tm:=[(2,V.ptr 300000 0),(3,V.own 300001 0),(8,V.d (D.sl false 5 x.1.2.2.1)),(9,V.d (D.int .i64 x.1.2.2.2.1)),(10,V.d (D.int .i64 t.1)),(11,V.d (D.bool false))],mem:=[(300000,Cell.box 49 [V.d (D.int .i64 x.2.1.1),V.d (D.int .i64 x.2.1.2.1),V.d (D.str x.2.1.2.2.1),V.nil 5,V.d (D.int .i64 x.2.1.2.2.2.2.1)]),(300001,Cell.arr false false 0 5 t.2)]}))) (fun x=>M.vF jf x.1.2.2.1 x.1.2.2.2.1 x.2.1.1 x.2.1.2.1 x.2.1.2.2.1 x.2.1.2.2.2.2.1) [fe C.DV,fe NH] [] (by rintro _ _ ⟨_,_⟩ _ _<;>simp only[M.vF,nb]<;>rfl)
def M.vZ{R:Type}(jf:Int→Int→aF→aF→ak→Option (Int×Int×aF×ak×Int))(t' gX:Int)(iK jr:aF)(iM:ak)(k:Int×Int×aF×ak×Int→Option R):Option R:=
 (M.En jf iM ((↑iM.length:Int)) 0 0 [] 0 ((0,[]))).bind fun aGw=>
 ((M.bI [123]).bind fun aj1=>
 ((M.dI aGw.2).bind fun aj2=>
 ((M.pq aj2.1 aj2.2.1 aj2.2.2.1 (aA aj2.2.2.2.1) aj2.2.2.2.2).bind fun aj3=>
 (M.DV.bind fun aj6=>
 ((M.bI [125]).bind fun aj7=>
 ((M.dI ([[D.int .i64 aj1.1,D.int .i64 aj1.2.1,D.str aj1.2.2.1,D.sl false 5 (aA aj1.2.2.2.1),D.int .i64 aj1.2.2.2.2],[D.int .i64 aj3.1,D.int .i64 aj3.2.1,D.str aj3.2.2.1,D.sl false 5 (aA aj3.2.2.2.1),D.int .i64 aj3.2.2.2.2],[D.int .i64 aj6.1,D.int .i64 aj6.2.1,D.str aj6.2.2.1,D.sl false 5 (aA aj6.2.2.2.1),D.int .i64 aj6.2.2.2.2],[D.int .i64 aj7.1,D.int .i64 aj7.2.1,D.str aj7.2.2.1,D.sl false 5 (aA aj7.2.2.2.1),D.int .i64 aj7.2.2.2.2]])).bind fun aj8=>
 (k ((aj8.1,aj8.2.1,aj8.2.2.1,aA aj8.2.2.2.1,aj8.2.2.2.2)))))))))
theorem C.X8{jf:Int→Int→aF→aF→ak→Option (Int×Int×aF×ak×Int)}(NH:S.nD.ok X0 fun x=>jf x.1.1.1 x.1.1.2.1 x.1.1.2.2.1 x.1.1.2.2.2.1 x.1.1.2.2.2.2.1):S.qU.ok X0 fun x=>M.vZ jf x.1.1.1 x.1.1.2.1 x.1.1.2.2.1 x.1.1.2.2.2.1 x.1.1.2.2.2.2.1 some:=fnS (fun x=>M.vZ jf x.1.1.1 x.1.1.2.1 x.1.1.2.2.1 x.1.1.2.2.2.1 x.1.1.2.2.2.2.1) [fe C.bI,fe C.dI,fe C.pq,fe C.DV] [F.En NH] (by intros;simp only[M.vZ,nb]<;>rfl)
def M.qG{R:Type}(eu:Int→Int→aF→aF→ak→Option (Int×Int×aF×ak×Int))(t' gX:Int)(iK jr:aF)(iM:ak)(k:Int×Int×aF×ak×Int→Option R):Option R:=
 (M.bI [105,102,32,40]).bind fun aj9=>
 ((idx iM 0).bind fun WG=>
 ((dn .i64 WG 0).bind fun aGx=>
 ((dn .i64 WG 1).bind fun aGy=>
 ((cStr WG 2).bind fun aGz=>
 ((cStr WG 3).bind fun aGA=>
 ((BK 5 WG 4).bind fun arW=>
 ((M.mQ aGx aGy aGz aGA arW).bind fun akb=>
 ((M.bI [41,32]).bind fun akc=>
 ((idx iM 1).bind fun WH=>
 ((dn .i64 WH 0).bind fun aGB=>
 ((dn .i64 WH 1).bind fun aGC=>
 ((cStr WH 2).bind fun aGD=>
 ((cStr WH 3).bind fun aGE=>
 ((BK 5 WH 4).bind fun arX=>
 ((eu aGB aGC aGD aGE arX).bind fun akd=>
 ((M.dI ([[D.int .i64 aj9.1,D.int .i64 aj9.2.1,D.str aj9.2.2.1,D.sl false 5 (aA aj9.2.2.2.1),D.int .i64 aj9.2.2.2.2],[D.int .i64 akb.1,D.int .i64 akb.2.1,D.str akb.2.2.1,D.sl false 5 (aA akb.2.2.2.1),D.int .i64 akb.2.2.2.2],[D.int .i64 akc.1,D.int .i64 akc.2.1,D.str akc.2.2.1,D.sl false 5 (aA akc.2.2.2.1),D.int .i64 akc.2.2.2.2],[D.int .i64 akd.1,D.int .i64 akd.2.1,D.str akd.2.2.1,D.sl false 5 (aA akd.2.2.2.1),D.int .i64 akd.2.2.2.2]])).bind fun Uf=>
 (bif decide ((↑iM.length:Int)>2) then
 ((M.bI [32,101,108,115,101,32]).bind fun ake=>
 ((idx iM 2).bind fun WI=>
 ((dn .i64 WI 0).bind fun aGF=>
 ((dn .i64 WI 1).bind fun aGG=>
 ((cStr WI 2).bind fun aGH=>
 ((cStr WI 3).bind fun aGI=>
 ((BK 5 WI 4).bind fun arY=>
 ((eu aGF aGG aGH aGI arY).bind fun akf=>
 ((M.dI ([[D.int .i64 Uf.1,D.int .i64 Uf.2.1,D.str Uf.2.2.1,D.sl false 5 (aA Uf.2.2.2.1),D.int .i64 Uf.2.2.2.2],[D.int .i64 ake.1,D.int .i64 ake.2.1,D.str ake.2.2.1,D.sl false 5 (aA ake.2.2.2.1),D.int .i64 ake.2.2.2.2],[D.int .i64 akf.1,D.int .i64 akf.2.1,D.str akf.2.2.1,D.sl false 5 (aA akf.2.2.2.1),D.int .i64 akf.2.2.2.2]])).bind fun akg=>
 (k ((akg.1,akg.2.1,akg.2.2.1,aA akg.2.2.2.1,akg.2.2.2.2)))))))))))) else
 (k ((Uf.1,Uf.2.1,Uf.2.2.1,aA Uf.2.2.2.1,Uf.2.2.2.2))))))))))))))))))))
theorem C.WJ{eu:Int→Int→aF→aF→ak→Option (Int×Int×aF×ak×Int)}(Bo:S.qU.ok X0 fun x=>eu x.1.1.1 x.1.1.2.1 x.1.1.2.2.1 x.1.1.2.2.2.1 x.1.1.2.2.2.2.1):S.uS.ok X0 fun x=>M.qG eu x.1.1.1 x.1.1.2.1 x.1.1.2.2.1 x.1.1.2.2.2.1 x.1.1.2.2.2.2.1 some:=fnS (fun x=>M.qG eu x.1.1.1 x.1.1.2.1 x.1.1.2.2.1 x.1.1.2.2.2.1 x.1.1.2.2.2.2.1) [fe C.bI,fe C.mQ,fe Bo,fe C.dI] [] (by intros;simp only[M.qG,nb]<;>rfl)
def M.vG{R:Type}(eu:Int→Int→aF→aF→ak→Option (Int×Int×aF×ak×Int))(t' gX:Int)(iK jr:aF)(iM:ak)(k:Int×Int×aF×ak×Int→Option R):Option R:=
 (M.bI []).bind fun akh=>
 ((idx iM 0).bind fun auk=>
 ((dn .i64 auk 0).bind fun aGJ=>
 (bif aGJ !=16 then
 ((idx iM 0).bind fun WM=>
 ((dn .i64 WM 0).bind fun aGK=>
 ((dn .i64 WM 1).bind fun aGL=>
 ((cStr WM 2).bind fun aGM=>
 ((cStr WM 3).bind fun aGN=>
 ((BK 5 WM 4).bind fun arZ=>
 ((M.gV aGK aGL aGM aGN arZ 1 false true false false).bind fun aki=>
 ((M.bI [102,111,114,32,40]).bind fun akj=>
 ((M.bI [59]).bind fun akk=>
 ((idx iM 1).bind fun WO=>
 ((dn .i64 WO 0).bind fun aGO=>
 ((dn .i64 WO 1).bind fun aGP=>
 ((cStr WO 2).bind fun aGQ=>
 ((cStr WO 3).bind fun aGR=>
 ((BK 5 WO 4).bind fun ar0=>
 ((M.nS aGO aGP aGQ aGR ar0).bind fun akl=>
 ((M.bI [59]).bind fun akm=>
 ((idx iM 2).bind fun WQ=>
 ((dn .i64 WQ 0).bind fun aGS=>
 ((dn .i64 WQ 1).bind fun aGT=>
 ((cStr WQ 2).bind fun aGU=>
 ((cStr WQ 3).bind fun aGV=>
 ((BK 5 WQ 4).bind fun ar1=>
 ((M.nS aGS aGT aGU aGV ar1).bind fun akn=>
 ((M.bI [41,32]).bind fun ako=>
 ((idx iM 3).bind fun WR=>
 ((dn .i64 WR 0).bind fun aGW=>
 ((dn .i64 WR 1).bind fun aGX=>
 ((cStr WR 2).bind fun aGY=>
 ((cStr WR 3).bind fun aGZ=>
 ((BK 5 WR 4).bind fun ar2=>
 ((eu aGW aGX aGY aGZ ar2).bind fun akp=>
 ((M.dI ([[D.int .i64 akj.1,D.int .i64 akj.2.1,D.str akj.2.2.1,D.sl false 5 (aA akj.2.2.2.1),D.int .i64 akj.2.2.2.2],[D.int .i64 aki.1,D.int .i64 aki.2.1,D.str aki.2.2.1,D.sl false 5 (aA aki.2.2.2.1),D.int .i64 aki.2.2.2.2],[D.int .i64 akk.1,D.int .i64 akk.2.1,D.str akk.2.2.1,D.sl false 5 (aA akk.2.2.2.1),D.int .i64 akk.2.2.2.2],[D.int .i64 akl.1,D.int .i64 akl.2.1,D.str akl.2.2.1,D.sl false 5 (aA akl.2.2.2.1),D.int .i64 akl.2.2.2.2],[D.int .i64 akm.1,D.int .i64 akm.2.1,D.str akm.2.2.1,D.sl false 5 (aA akm.2.2.2.1),D.int .i64 akm.2.2.2.2],[D.int .i64 akn.1,D.int .i64 akn.2.1,D.str akn.2.2.1,D.sl false 5 (aA akn.2.2.2.1),D.int .i64 akn.2.2.2.2],[D.int .i64 ako.1,D.int .i64 ako.2.1,D.str ako.2.2.1,D.sl false 5 (aA ako.2.2.2.1),D.int .i64 ako.2.2.2.2],[D.int .i64 akp.1,D.int .i64 akp.2.1,D.str akp.2.2.1,D.sl false 5 (aA akp.2.2.2.1),D.int .i64 akp.2.2.2.2]])).bind fun akq=>
 (k ((akq.1,akq.2.1,akq.2.2.1,aA akq.2.2.2.1,akq.2.2.2.2)))))))))))))))))))))))))))))))))))) else
 ((M.bI [102,111,114,32,40]).bind fun akr=>
 ((M.bI [59]).bind fun aks=>
 ((idx iM 1).bind fun WS=>
 ((dn .i64 WS 0).bind fun aG0=>
 ((dn .i64 WS 1).bind fun aG1=>
 ((cStr WS 2).bind fun aG2=>
 ((cStr WS 3).bind fun aG3=>
 ((BK 5 WS 4).bind fun ar4=>
 ((M.nS aG0 aG1 aG2 aG3 ar4).bind fun akt=>
 ((M.bI [59]).bind fun aku=>
 ((idx iM 2).bind fun WT=>
 ((dn .i64 WT 0).bind fun aG4=>
 ((dn .i64 WT 1).bind fun aG5=>
 ((cStr WT 2).bind fun aG6=>
 ((cStr WT 3).bind fun aG7=>
 ((BK 5 WT 4).bind fun ar5=>
 ((M.nS aG4 aG5 aG6 aG7 ar5).bind fun akv=>
 ((M.bI [41,32]).bind fun akw=>
 ((idx iM 3).bind fun WU=>
 ((dn .i64 WU 0).bind fun aG8=>
 ((dn .i64 WU 1).bind fun aG9=>
 ((cStr WU 2).bind fun aHa=>
 ((cStr WU 3).bind fun aHb=>
 ((BK 5 WU 4).bind fun ar6=>
 ((eu aG8 aG9 aHa aHb ar6).bind fun akx=>
 ((M.dI ([[D.int .i64 akr.1,D.int .i64 akr.2.1,D.str akr.2.2.1,D.sl false 5 (aA akr.2.2.2.1),D.int .i64 akr.2.2.2.2],[D.int .i64 akh.1,D.int .i64 akh.2.1,D.str akh.2.2.1,D.sl false 5 (aA akh.2.2.2.1),D.int .i64 akh.2.2.2.2],[D.int .i64 aks.1,D.int .i64 aks.2.1,D.str aks.2.2.1,D.sl false 5 (aA aks.2.2.2.1),D.int .i64 aks.2.2.2.2],[D.int .i64 akt.1,D.int .i64 akt.2.1,D.str akt.2.2.1,D.sl false 5 (aA akt.2.2.2.1),D.int .i64 akt.2.2.2.2],[D.int .i64 aku.1,D.int .i64 aku.2.1,D.str aku.2.2.1,D.sl false 5 (aA aku.2.2.2.1),D.int .i64 aku.2.2.2.2],[D.int .i64 akv.1,D.int .i64 akv.2.1,D.str akv.2.2.1,D.sl false 5 (aA akv.2.2.2.1),D.int .i64 akv.2.2.2.2],[D.int .i64 akw.1,D.int .i64 akw.2.1,D.str akw.2.2.1,D.sl false 5 (aA akw.2.2.2.1),D.int .i64 akw.2.2.2.2],[D.int .i64 akx.1,D.int .i64 akx.2.1,D.str akx.2.2.1,D.sl false 5 (aA akx.2.2.2.1),D.int .i64 akx.2.2.2.2]])).bind fun aky=>
 (k ((aky.1,aky.2.1,aky.2.2.1,aA aky.2.2.2.1,aky.2.2.2.2))))))))))))))))))))))))))))))))
theorem C.ZX{eu:Int→Int→aF→aF→ak→Option (Int×Int×aF×ak×Int)}(Bo:S.qU.ok X0 fun x=>eu x.1.1.1 x.1.1.2.1 x.1.1.2.2.1 x.1.1.2.2.2.1 x.1.1.2.2.2.2.1):S.Ac.ok X0 fun x=>M.vG eu x.1.1.1 x.1.1.2.1 x.1.1.2.2.1 x.1.1.2.2.2.1 x.1.1.2.2.2.2.1 some:=fnS (fun x=>M.vG eu x.1.1.1 x.1.1.2.1 x.1.1.2.2.1 x.1.1.2.2.2.1 x.1.1.2.2.2.2.1) [fe C.bI,fe C.gV,fe C.nS,fe Bo,fe C.dI] [] (by intros;simp only[M.vG,nb]<;>rfl)
def M.fF{R:Type}(vH:Int→Int→aF→aF→ak→Option (Int×Int×aF×ak×Int))(eu:Int→Int→aF→aF→ak→Option (Int×Int×aF×ak×Int))(zu:Int→Int→aF→aF→ak→Option (Int×Int×aF×ak×Int))(t' gX:Int)(iK jr:aF)(iM:ak)(k:Int×Int×aF×ak×Int→Option R):Option R:=
 bif t'==20 then
 ((idx iM 0).bind fun WV=>
 ((dn .i64 WV 0).bind fun aHc=>
 ((dn .i64 WV 1).bind fun aHd=>
 ((cStr WV 2).bind fun aHe=>
 ((cStr WV 3).bind fun aHf=>
 ((BK 5 WV 4).bind fun ar7=>
 ((M.mQ aHc aHd aHe aHf ar7).bind fun akz=>
 (k ((akz.1,akz.2.1,akz.2.2.1,aA akz.2.2.2.1,akz.2.2.2.2)))))))))) else
 (bif t'==21 then
 ((M.uw t' gX iK jr iM).bind fun akA=>
 (k ((akA.1,akA.2.1,akA.2.2.1,aA akA.2.2.2.1,akA.2.2.2.2)))) else
 (bif t'==22 then
 ((M.bI [110,101,120,116]).bind fun akB=>
 (k ((akB.1,akB.2.1,akB.2.2.1,aA akB.2.2.2.1,akB.2.2.2.2)))) else
 (bif t'==25 then
 ((M.bI [98,114,101,97,107]).bind fun akC=>
 (k ((akC.1,akC.2.1,akC.2.2.1,aA akC.2.2.2.1,akC.2.2.2.2)))) else
 (bif t'==26 then
 ((M.bI [99,111,110,116,105,110,117,101]).bind fun akD=>
 (k ((akD.1,akD.2.1,akD.2.2.1,aA akD.2.2.2.1,akD.2.2.2.2)))) else
 (bif t'==23 then
 ((M.tX [101,120,105,116] t' gX iK jr iM).bind fun akE=>
 (k ((akE.1,akE.2.1,akE.2.2.1,aA akE.2.2.2.1,akE.2.2.2.2)))) else
 (bif t'==24 then
 ((M.tX [114,101,116,117,114,110] t' gX iK jr iM).bind fun akF=>
 (k ((akF.1,akF.2.1,akF.2.2.1,aA akF.2.2.2.1,akF.2.2.2.2)))) else
 (bif t'==27 then
 (bif(↑iM.length:Int)==0 then
 (bif(7+iK.length).ble 9223372036854775807 then
 ((M.bI ([100,101,108,101,116,101,32]++iK)).bind fun akG=>
 (k ((akG.1,akG.2.1,akG.2.2.1,aA akG.2.2.2.1,akG.2.2.2.2)))) else none) else
 (bif(7+iK.length).ble 9223372036854775807 then
 (bif(([100,101,108,101,116,101,32]++iK).length+1).ble 9223372036854775807 then
 ((M.bI ([100,101,108,101,116,101,32]++iK++[91])).bind fun akH=>
 ((M.nC iM).bind fun akI=>
 ((M.bI [93]).bind fun akJ=>
 ((M.dI ([[D.int .i64 akH.1,D.int .i64 akH.2.1,D.str akH.2.2.1,D.sl false 5 (aA akH.2.2.2.1),D.int .i64 akH.2.2.2.2],[D.int .i64 akI.1,D.int .i64 akI.2.1,D.str akI.2.2.1,D.sl false 5 (aA akI.2.2.2.1),D.int .i64 akI.2.2.2.2],[D.int .i64 akJ.1,D.int .i64 akJ.2.1,D.str akJ.2.2.1,D.sl false 5 (aA akJ.2.2.2.1),D.int .i64 akJ.2.2.2.2]])).bind fun akK=>
 (k ((akK.1,akK.2.1,akK.2.2.1,aA akK.2.2.2.1,akK.2.2.2.2))))))) else none) else none)) else
 (bif t'==28 then
 ((vH t' gX iK jr iM).bind fun akL=>
 (k ((akL.1,akL.2.1,akL.2.2.1,aA akL.2.2.2.1,akL.2.2.2.2)))) else
 (bif t'==29 then
 ((M.bI [119,104,105,108,101,32,40]).bind fun akM=>
 ((idx iM 0).bind fun WW=>
 ((dn .i64 WW 0).bind fun aHg=>
 ((dn .i64 WW 1).bind fun aHh=>
 ((cStr WW 2).bind fun aHi=>
 ((cStr WW 3).bind fun aHj=>
 ((BK 5 WW 4).bind fun ar8=>
 ((M.mQ aHg aHh aHi aHj ar8).bind fun akN=>
 ((M.bI [41,32]).bind fun akO=>
 ((idx iM 1).bind fun WY=>
 ((dn .i64 WY 0).bind fun aHk=>
 ((dn .i64 WY 1).bind fun aHl=>
 ((cStr WY 2).bind fun aHm=>
 ((cStr WY 3).bind fun aHn=>
 ((BK 5 WY 4).bind fun ar9=>
 ((eu aHk aHl aHm aHn ar9).bind fun akP=>
 ((M.dI ([[D.int .i64 akM.1,D.int .i64 akM.2.1,D.str akM.2.2.1,D.sl false 5 (aA akM.2.2.2.1),D.int .i64 akM.2.2.2.2],[D.int .i64 akN.1,D.int .i64 akN.2.1,D.str akN.2.2.1,D.sl false 5 (aA akN.2.2.2.1),D.int .i64 akN.2.2.2.2],[D.int .i64 akO.1,D.int .i64 akO.2.1,D.str akO.2.2.1,D.sl false 5 (aA akO.2.2.2.1),D.int .i64 akO.2.2.2.2],[D.int .i64 akP.1,D.int .i64 akP.2.1,D.str akP.2.2.1,D.sl false 5 (aA akP.2.2.2.1),D.int .i64 akP.2.2.2.2]])).bind fun akQ=>
 (k ((akQ.1,akQ.2.1,akQ.2.2.1,aA akQ.2.2.2.1,akQ.2.2.2.2)))))))))))))))))))) else
 (bif t'==30 then
 ((M.bI [100,111,32]).bind fun akR=>
 ((idx iM 0).bind fun WZ=>
 ((dn .i64 WZ 0).bind fun aHo=>
 ((dn .i64 WZ 1).bind fun aHp=>
 ((cStr WZ 2).bind fun aHq=>
 ((cStr WZ 3).bind fun aHr=>
 ((BK 5 WZ 4).bind fun asa=>
 ((eu aHo aHp aHq aHr asa).bind fun akS=>
 ((M.bI [32,119,104,105,108,101,32,40]).bind fun akT=>
 ((idx iM 1).bind fun W9=>
 ((dn .i64 W9 0).bind fun aHs=>
 ((dn .i64 W9 1).bind fun aHt=>
 ((cStr W9 2).bind fun aHu=>
 ((cStr W9 3).bind fun aHv=>
 ((BK 5 W9 4).bind fun asb=>
 ((M.mQ aHs aHt aHu aHv asb).bind fun akU=>
 ((M.bI [41]).bind fun akV=>
 ((M.dI ([[D.int .i64 akR.1,D.int .i64 akR.2.1,D.str akR.2.2.1,D.sl false 5 (aA akR.2.2.2.1),D.int .i64 akR.2.2.2.2],[D.int .i64 akS.1,D.int .i64 akS.2.1,D.str akS.2.2.1,D.sl false 5 (aA akS.2.2.2.1),D.int .i64 akS.2.2.2.2],[D.int .i64 akT.1,D.int .i64 akT.2.1,D.str akT.2.2.1,D.sl false 5 (aA akT.2.2.2.1),D.int .i64 akT.2.2.2.2],[D.int .i64 akU.1,D.int .i64 akU.2.1,D.str akU.2.2.1,D.sl false 5 (aA akU.2.2.2.1),D.int .i64 akU.2.2.2.2],[D.int .i64 akV.1,D.int .i64 akV.2.1,D.str akV.2.2.1,D.sl false 5 (aA akV.2.2.2.1),D.int .i64 akV.2.2.2.2]])).bind fun akW=>
 (k ((akW.1,akW.2.1,akW.2.2.1,aA akW.2.2.2.1,akW.2.2.2.2))))))))))))))))))))) else
 (bif t'==31 then
 ((zu t' gX iK jr iM).bind fun akX=>
 (k ((akX.1,akX.2.1,akX.2.2.1,aA akX.2.2.2.1,akX.2.2.2.2)))) else
 (bif t'==32 then
 (bif(5+iK.length).ble 9223372036854775807 then
 (bif(([102,111,114,32,40]++iK).length+4).ble 9223372036854775807 then
 (bif(([102,111,114,32,40]++iK++[32,105,110,32]).length+jr.length).ble 9223372036854775807 then
 (bif(([102,111,114,32,40]++iK++[32,105,110,32]++jr).length+2).ble 9223372036854775807 then
 ((M.bI ([102,111,114,32,40]++iK++[32,105,110,32]++jr++[41,32])).bind fun akY=>
 ((idx iM 0).bind fun Xa=>
 ((dn .i64 Xa 0).bind fun aHw=>
 ((dn .i64 Xa 1).bind fun aHx=>
 ((cStr Xa 2).bind fun aHy=>
 ((cStr Xa 3).bind fun aHz=>
 ((BK 5 Xa 4).bind fun asc=>
 ((eu aHw aHx aHy aHz asc).bind fun akZ=>
 ((M.dI ([[D.int .i64 akY.1,D.int .i64 akY.2.1,D.str akY.2.2.1,D.sl false 5 (aA akY.2.2.2.1),D.int .i64 akY.2.2.2.2],[D.int .i64 akZ.1,D.int .i64 akZ.2.1,D.str akZ.2.2.1,D.sl false 5 (aA akZ.2.2.2.1),D.int .i64 akZ.2.2.2.2]])).bind fun ak0=>
 (k ((ak0.1,ak0.2.1,ak0.2.2.1,aA ak0.2.2.2.1,ak0.2.2.2.2)))))))))))) else none) else none) else none) else none) else
 (bif t'==33 then
 ((eu t' gX iK jr iM).bind fun ak1=>
 (k ((ak1.1,ak1.2.1,ak1.2.2.1,aA ak1.2.2.2.1,ak1.2.2.2.2)))) else
 ((M.bI iK).bind fun ak2=>
 (k ((ak2.1,ak2.2.1,ak2.2.2.1,aA ak2.2.2.2.1,ak2.2.2.2.2)))))))))))))))))
theorem C.ZY{vH:Int→Int→aF→aF→ak→Option (Int×Int×aF×ak×Int)}{eu:Int→Int→aF→aF→ak→Option (Int×Int×aF×ak×Int)}{zu:Int→Int→aF→aF→ak→Option (Int×Int×aF×ak×Int)}(X9:S.uS.ok X0 fun x=>vH x.1.1.1 x.1.1.2.1 x.1.1.2.2.1 x.1.1.2.2.2.1 x.1.1.2.2.2.2.1)(Bo:S.qU.ok X0 fun x=>eu x.1.1.1 x.1.1.2.1 x.1.1.2.2.1 x.1.1.2.2.2.1 x.1.1.2.2.2.2.1)(ab1:S.Ac.ok X0 fun x=>zu x.1.1.1 x.1.1.2.1 x.1.1.2.2.1 x.1.1.2.2.2.1 x.1.1.2.2.2.2.1):S.nD.ok X0 fun x=>M.fF vH eu zu x.1.1.1 x.1.1.2.1 x.1.1.2.2.1 x.1.1.2.2.2.1 x.1.1.2.2.2.2.1 some:=fnS (fun x=>M.fF vH eu zu x.1.1.1 x.1.1.2.1 x.1.1.2.2.1 x.1.1.2.2.2.1 x.1.1.2.2.2.2.1) [fe C.mQ,fe C.uw,fe C.bI,fe C.tX,fe C.nC,fe C.dI,fe X9,fe Bo,fe ab1] [] (by intros;unfold M.fF;repeat' first|with_reducible apply gG|with_reducible apply Gp|with_reducible apply Gq|with_reducible apply Gs|with_reducible apply Gt|(intro _)|apply gG|rfl)
def M.lS:Nat→(Int→Int→aF→aF→ak→Option (Int×Int×aF×ak×Int))×(Int→Int→aF→aF→ak→Option (Int×Int×aF×ak×Int))×(Int→Int→aF→aF→ak→Option (Int×Int×aF×ak×Int))×(Int→Int→aF→aF→ak→Option (Int×Int×aF×ak×Int)):=
 Nat.rec (fun _ _ _ _ _=>none,fun _ _ _ _ _=>none,fun _ _ _ _ _=>none,fun _ _ _ _ _=>none) fun _ qz=>(fun t' gX iK jr iM=>M.fF qz.2.2.1 qz.2.1 qz.2.2.2 t' gX iK jr iM some,fun t' gX iK jr iM=>M.vZ qz.1 t' gX iK jr iM some,fun t' gX iK jr iM=>M.qG qz.2.1 t' gX iK jr iM some,fun t' gX iK jr iM=>M.vG qz.2.1 t' gX iK jr iM some)
def M.rQ(n:Nat):Int→Int→aF→aF→ak→Option (Int×Int×aF×ak×Int):=(M.lS n).1
def M.qg(n:Nat):Int→Int→aF→aF→ak→Option (Int×Int×aF×ak×Int):=(M.lS n).2.1
def M.Eo(n:Nat):Int→Int→aF→aF→ak→Option (Int×Int×aF×ak×Int):=(M.lS n).2.2.1
def M.IU(n:Nat):Int→Int→aF→aF→ak→Option (Int×Int×aF×ak×Int):=(M.lS n).2.2.2
theorem M.ab2(n:Nat):M.rQ (n+1)=fun t' gX iK jr iM=>M.fF (M.Eo n) (M.qg n) (M.IU n) t' gX iK jr iM some:=rfl
theorem M.Z4(n:Nat):M.qg (n+1)=fun t' gX iK jr iM=>M.vZ (M.rQ n) t' gX iK jr iM some:=rfl
theorem M.O9(n:Nat):M.Eo (n+1)=fun t' gX iK jr iM=>M.qG (M.qg n) t' gX iK jr iM some:=rfl
theorem M.RP(n:Nat):M.IU (n+1)=fun t' gX iK jr iM=>M.vG (M.qg n) t' gX iK jr iM some:=rfl
def M.nD(t' gX:Int)(iK jr:aF)(iM:ak):Option (Int×Int×aF×ak×Int):=lim fun n=>M.rQ n t' gX iK jr iM
def M.qU(t' gX:Int)(iK jr:aF)(iM:ak):Option (Int×Int×aF×ak×Int):=lim fun n=>M.qg n t' gX iK jr iM
def M.uS(t' gX:Int)(iK jr:aF)(iM:ak):Option (Int×Int×aF×ak×Int):=lim fun n=>M.Eo n t' gX iK jr iM
def M.Ac(t' gX:Int)(iK jr:aF)(iM:ak):Option (Int×Int×aF×ak×Int):=lim fun n=>M.IU n t' gX iK jr iM
theorem C.lS:∀n,(S.nD.ok X0 fun x=>M.rQ n x.1.1.1 x.1.1.2.1 x.1.1.2.2.1 x.1.1.2.2.2.1 x.1.1.2.2.2.2.1)∧(S.qU.ok X0 fun x=>M.qg n x.1.1.1 x.1.1.2.1 x.1.1.2.2.1 x.1.1.2.2.2.1 x.1.1.2.2.2.2.1)∧(S.uS.ok X0 fun x=>M.Eo n x.1.1.1 x.1.1.2.1 x.1.1.2.2.1 x.1.1.2.2.2.1 x.1.1.2.2.2.2.1)∧(S.Ac.ok X0 fun x=>M.IU n x.1.1.1 x.1.1.2.1 x.1.1.2.2.1 x.1.1.2.2.2.1 x.1.1.2.2.2.2.1)
 |0=>⟨fH.zero,fH.zero,fH.zero,fH.zero⟩
 |n+1=>have h:=C.lS n;⟨C.ZY h.2.2.1 h.2.1 h.2.2.2,C.X8 h.1,C.WJ h.2.1,C.ZX h.2.1⟩
theorem C.nD:S.nD.ok X0 fun x=>M.nD x.1.1.1 x.1.1.2.1 x.1.1.2.2.1 x.1.1.2.2.2.1 x.1.1.2.2.2.2.1:=fH.lim fun n=>(C.lS n).1
theorem M.Z5{n:Nat}{t' gX:Int}{iK jr:aF}{iM:ak}{r:Int×Int×aF×ak×Int}(h:M.rQ n t' gX iK jr iM=some r):M.nD t' gX iK jr iM=some r:=
 fH.EJ (fun n=>(C.lS n).1) (by intro a b h;simp[S.nD,sg] at h;first|exact h|simp[Prod.ext_iff,h]) (x:=(((t',gX,iK,jr,iM,()),()),())) h
theorem C.qU:S.qU.ok X0 fun x=>M.qU x.1.1.1 x.1.1.2.1 x.1.1.2.2.1 x.1.1.2.2.2.1 x.1.1.2.2.2.2.1:=fH.lim fun n=>(C.lS n).2.1
theorem C.uS:S.uS.ok X0 fun x=>M.uS x.1.1.1 x.1.1.2.1 x.1.1.2.2.1 x.1.1.2.2.2.1 x.1.1.2.2.2.2.1:=fH.lim fun n=>(C.lS n).2.2.1
theorem C.Ac:S.Ac.ok X0 fun x=>M.Ac x.1.1.1 x.1.1.2.1 x.1.1.2.2.1 x.1.1.2.2.2.1 x.1.1.2.2.2.2.1:=fH.lim fun n=>(C.lS n).2.2.2
def M.oZ{R:Type}(iQ:Int→Int→aF→ak→Int→ak→Option (ak))(s:(ak×Int×Int×ak×Int×Int×aF)⊕(ak×Int×Int×ak×Int×Int×aF×ak))(kn:(ak×Int×Int×ak×Int×Int×aF)⊕(ak×Int×Int×ak×Int×Int×aF×ak)→Option R)(ke:(ak×Int×Int×ak×Int×Int×aF)⊕(ak×Int×Int×ak×Int×Int×aF×ak)→Option R):Option R:=match s with
 | .inl ((v16,v17,v18,x',uJ,xX,CV))=>
 bif decide (v18<v17) then
 ((idx v16 v18).bind fun Xb=>
 ((dn .i64 Xb 0).bind fun aHA=>
 ((dn .i64 Xb 1).bind fun aHB=>
 ((cStr Xb 2).bind fun aHC=>
 ((BK 5 Xb 3).bind fun ase=>
 ((dn .i64 Xb 4).bind fun aHD=>
 ((iQ aHA aHB aHC ase aHD x').bind fun avk=>
 (kn (.inr ((v16,v17,IntKind.i64.wrap (v18+1),avk,uJ,xX,CV,[[D.int .i64 (IntKind.i64.wrap ((↑avk.length:Int) - 1))]]))))))))))) else(ke (.inl ((v16,v17,v18,x',uJ,xX,CV))))
 | .inr ((v16,v17,v18,x',uJ,xX,CV,zC))=>
 bif decide (v18<v17) then
 ((idx v16 v18).bind fun Xc=>
 ((dn .i64 Xc 0).bind fun aHE=>
 ((dn .i64 Xc 1).bind fun aHF=>
 ((cStr Xc 2).bind fun aHG=>
 ((BK 5 Xc 3).bind fun asf=>
 ((dn .i64 Xc 4).bind fun aHH=>
 ((iQ aHE aHF aHG asf aHH x').bind fun anr=>
 (bif((zC.length+[[D.int .i64 (IntKind.i64.wrap ((↑anr.length:Int) - 1))]].length) * 8).ble 140737488355328 then
 (bif(zC.length+[[D.int .i64 (IntKind.i64.wrap ((↑anr.length:Int) - 1))]].length).ble 140737488355328 then
 (kn (.inr ((v16,v17,IntKind.i64.wrap (v18+1),anr,uJ,xX,CV,zC++[[D.int .i64 (IntKind.i64.wrap ((↑anr.length:Int) - 1))]])))) else none) else none)))))))) else(ke (.inr ((v16,v17,v18,x',uJ,xX,CV,zC))))
def M.sD(iQ:Int→Int→aF→ak→Int→ak→Option (ak))(s:(ak×Int×Int×ak×Int×Int×aF)⊕(ak×Int×Int×ak×Int×Int×aF×ak)):=M.oZ iQ s (fun s=>some (Sum.inl s)) fun t=>some (Sum.inr t)
def M.FY(iQ:Int→Int→aF→ak→Int→ak→Option (ak))(s:(ak×Int×Int×ak×Int×Int×aF)⊕(ak×Int×Int×ak×Int×Int×aF×ak)):Option ((ak×Int×Int×ak×Int×Int×aF)⊕(ak×Int×Int×ak×Int×Int×aF×ak)):=iR (M.sD iQ) s
def F.FY{iQ:Int→Int→aF→ak→Int→ak→Option (ak)}(NI:S.nG.ok X0 fun x=>iQ x.1.1.1 x.1.1.2.1 x.1.1.2.2.1 x.1.1.2.2.2.1 x.1.1.2.2.2.2.1 x.1.2.1):LE X0 89:=le 3 (pOr (La [fU 1 (pO 300000 0),fU 5 (pP 300001 0),fU 16 (pL false 5),fU 17 pI,fU 18 pI] [fU 300000 (cA false false 0 4),fU 300001 (cB 58 [pI,pI,pS,abk 1])]) (La [fU 1 (pO 300000 0),fU 5 (pP 300001 0),fU 16 (pL false 5),fU 17 pI,fU 18 pI] [fU 300000 (cA false false 0 4),fU 300001 (cB 58 [pI,pI,pS,pO 300002 0]),fU 300002 (cA false true 0 1)])) (σ:=(ak×Int×Int×ak×Int×Int×aF)⊕(ak×Int×Int×ak×Int×Int×aF×ak)) (fun x=>(match x with| .inl x=> .inl ((x.1.2.2.1,x.1.2.2.2.1,x.1.2.2.2.2.1,x.2.1,x.2.2.1.1,x.2.2.1.2.1,x.2.2.1.2.2.1))| .inr x=> .inr ((x.1.2.2.1,x.1.2.2.2.1,x.1.2.2.2.2.1,x.2.1,x.2.2.1.1,x.2.2.1.2.1,x.2.2.1.2.2.1,x.2.2.2.1)))) (fun x s=>(match s with| .inl s=> .inl ((((),(),s.1,s.2.1,s.2.2.1,()),(s.2.2.2.1,(s.2.2.2.2.1,s.2.2.2.2.2.1,s.2.2.2.2.2.2,(),()),())))| .inr s=> .inr ((((),(),s.1,s.2.1,s.2.2.1,()),(s.2.2.2.1,(s.2.2.2.2.1,s.2.2.2.2.2.1,s.2.2.2.2.2.2.1,(),()),s.2.2.2.2.2.2.2,()))))) (fun x=> .sum (.leaf (ak×Int×Int×ak×Int×Int×aF) (fun t=>(Ex.exit 0,{tm:=[(1,V.own 300000 0),(5,V.ptr 300001 0),(16,V.d (D.sl false 5 t.1)),(17,V.d (D.int .i64 t.2.1)),(18,V.d (D.int .i64 t.2.2.1)),(19,V.d (D.bool false))],mem:=[(300000,Cell.arr false false 0 4 t.2.2.2.1),(300001,Cell.box 58 [V.d (D.int .i64 t.2.2.2.2.1),V.d (D.int .i64 t.2.2.2.2.2.1),V.d (D.str t.2.2.2.2.2.2),V.nil 1])]}))) (.leaf (ak×Int×Int×ak×Int×Int×aF×ak) (fun t=>(Ex.exit 0,{tm:=[(1,V.own 300000 0),(5,V.ptr 300001 0),(16,V.d (D.sl false 5 t.1)),(17,V.d (D.int .i64 t.2.1)),(18,V.d (D.int .i64 t.2.2.1)),(19,V.d (D.bool false))],mem:=[(300000,Cell.arr false false 0 4 t.2.2.2.1),(300001,Cell.box 58 [V.d (D.int .i64 t.2.2.2.2.1),V.d (D.int .i64 t.2.2.2.2.2.1),V.d (D.str t.2.2.2.2.2.2.1),V.own 300002 0]),(300002,Cell.arr false true 0 1 t.2.2.2.2.2.2.2)]})))) (fun x=>M.oZ iQ) [fe NI] [] (by rintro _ _ (⟨_,_,_,_,_,_,_⟩|⟨_,_,_,_,_,_,_,_⟩) _ _<;>simp only[M.oZ,nb]<;>rfl) (hE:=by intro _ _ s _;rcases s with s|s<;>kernel_rfl)
def M.Dy{R:Type}(iQ:Int→Int→aF→ak→Int→ak→Option (ak))(d d1:Int)(d2:aF)(d3:ak)(d4:Int)(l:ak)(k:ak→Option R):Option R:=
 (M.FY iQ (.inl ((d3,(↑d3.length:Int),0,l,d,d1,d2)))).bind fun aHI=>
 xZ aHI (fun Qk=>
 (bif((Qk.2.2.2.1.length+[[D.int .i64 Qk.2.2.2.2.1,D.int .i64 Qk.2.2.2.2.2.1,D.str Qk.2.2.2.2.2.2,D.sl true 1 []]].length) * 56).ble 140737488355328 then
 (bif(Qk.2.2.2.1.length+[[D.int .i64 Qk.2.2.2.2.1,D.int .i64 Qk.2.2.2.2.2.1,D.str Qk.2.2.2.2.2.2,D.sl true 1 []]].length).ble 140737488355328 then
 (k (Qk.2.2.2.1++[[D.int .i64 Qk.2.2.2.2.1,D.int .i64 Qk.2.2.2.2.2.1,D.str Qk.2.2.2.2.2.2,D.sl true 1 []]])) else none) else none)) fun aHJ=>
 letE aHJ fun LG=>
 (bif aB LG.2.2.2.2.2.2.2 then
 (bif((LG.2.2.2.1.length+[[D.int .i64 LG.2.2.2.2.1,D.int .i64 LG.2.2.2.2.2.1,D.str LG.2.2.2.2.2.2.1,D.sl true 1 LG.2.2.2.2.2.2.2]].length) * 56).ble 140737488355328 then
 (bif(LG.2.2.2.1.length+[[D.int .i64 LG.2.2.2.2.1,D.int .i64 LG.2.2.2.2.2.1,D.str LG.2.2.2.2.2.2.1,D.sl true 1 LG.2.2.2.2.2.2.2]].length).ble 140737488355328 then
 (k (LG.2.2.2.1++[[D.int .i64 LG.2.2.2.2.1,D.int .i64 LG.2.2.2.2.2.1,D.str LG.2.2.2.2.2.2.1,D.sl true 1 LG.2.2.2.2.2.2.2]])) else none) else none) else none)
def M.jT:Nat→Int→Int→aF→ak→Int→ak→Option (ak)
 |0=>fun _ _ _ _ _ _=>none
 |n+1=>fun d d1 d2 d3 d4 l=>M.Dy (M.jT n) d d1 d2 d3 d4 l some
def M.nG(d d1:Int)(d2:aF)(d3:ak)(d4:Int)(l:ak):Option (ak):=lim fun n=>M.jT n d d1 d2 d3 d4 l
theorem C.Z7{iQ:Int→Int→aF→ak→Int→ak→Option (ak)}(NI:S.nG.ok X0 fun x=>iQ x.1.1.1 x.1.1.2.1 x.1.1.2.2.1 x.1.1.2.2.2.1 x.1.1.2.2.2.2.1 x.1.2.1):S.nG.ok X0 fun x=>M.Dy iQ x.1.1.1 x.1.1.2.1 x.1.1.2.2.1 x.1.1.2.2.2.1 x.1.1.2.2.2.2.1 x.1.2.1 some:=fnS (fun x=>M.Dy iQ x.1.1.1 x.1.1.2.1 x.1.1.2.2.1 x.1.1.2.2.2.1 x.1.1.2.2.2.2.1 x.1.2.1) [] [F.FY NI] (by intros;simp only[M.Dy,nb]<;>rfl)
theorem C.jT:∀n,S.nG.ok X0 fun x=>M.jT n x.1.1.1 x.1.1.2.1 x.1.1.2.2.1 x.1.1.2.2.2.1 x.1.1.2.2.2.2.1 x.1.2.1
 |0=>fH.zero
 |n+1=>C.Z7 (C.jT n)
theorem C.nG:S.nG.ok X0 fun x=>M.nG x.1.1.1 x.1.1.2.1 x.1.1.2.2.1 x.1.1.2.2.2.1 x.1.1.2.2.2.2.1 x.1.2.1:=fH.lim C.jT
theorem M.Z8{n:Nat}{d d1:Int}{d2:aF}{d3:ak}{d4:Int}{l r:ak}(h:M.jT n d d1 d2 d3 d4 l=some r):M.nG d d1 d2 d3 d4 l=some r:=
 fH.EJ C.jT (by intro a b h;simp[S.nG,sg] at h;first|exact h|simp[Prod.ext_iff,h]) (x:=(((d,d1,d2,d3,d4,()),l,()),())) h
def M.FZ{R:Type}(d d1:Int)(d2:aF)(d3:ak)(d4:Int)(k:ak→Option R):Option R:=
 (M.nG d d1 d2 d3 d4 []).bind fun aHK=>(k aHK)
def M.uy(d d1:Int)(d2:aF)(d3:ak)(d4:Int):Option (ak):=M.FZ d d1 d2 d3 d4 some
theorem C.uy:S.uy.ok X0 fun x=>M.uy x.1.1.1 x.1.1.2.1 x.1.1.2.2.1 x.1.1.2.2.2.1 x.1.1.2.2.2.2.1:=fnS (fun x=>M.FZ x.1.1.1 x.1.1.2.1 x.1.1.2.2.1 x.1.1.2.2.2.1 x.1.1.2.2.2.2.1) [fe C.nG] [] (by intros;simp only[M.FZ,nb]<;>rfl)
def M.IV{R:Type}(l:ak)(k:ak→Option R):Option R:=
 (M.zV l).bind fun aHL=>
 (bif !aHL then(k []) else
 ((idx l (IntKind.i64.wrap ((↑l.length:Int) - 1))).bind fun aul=>
 ((dn .i64 aul 0).bind fun aHM=>
 ((M.cO aHM).bind fun aHN=>
 (bif !aHN then(k []) else
 ((M.rJ l).bind fun ak3=>
 ((M.nD ak3.1 ak3.2.1 ak3.2.2.1 ak3.2.2.2.1 (aA ak3.2.2.2.2)).bind fun ak4=>
 ((M.uy ak4.1 ak4.2.1 ak4.2.2.1 (aA ak4.2.2.2.1) ak4.2.2.2.2).bind fun aHO=>(k aHO)))))))))
def M.tY(l:ak):Option (ak):=M.IV l some
theorem C.tY:S.tY.ok X0 fun x=>M.tY x.1.1:=fnS (fun x=>M.IV x.1.1) [fe C.zV,fe C.cO,fe C.rJ,fe C.nD,fe C.uy] [] (by intros;simp only[M.IV,nb]<;>rfl)
def M.zx{R:Type}(a b:ak)(s:Int)(kn:Int→Option R)(ke:(Unit)⊕(Int)→Option R):Option R:=match s with
 |i=>
 bif decide (i<(↑a.length:Int)) then
 ((idx a i).bind fun aum=>
 ((dn .i64 aum 0).bind fun aHP=>
 ((idx b i).bind fun aun=>
 ((dn .i64 aun 0).bind fun aHQ=>(bif aHP !=aHQ then(ke (.inl ())) else(kn (IntKind.i64.wrap (i+1)))))))) else(ke (.inr i))
def M.Ep(a b:ak)(s:Int):=M.zx a b s (fun s=>some (Sum.inl s)) fun t=>some (Sum.inr t)
def M.IW(a b:ak)(s:Int):Option ((Unit)⊕(Int)):=iR (M.Ep a b) s
def F.IW:LE X0 90:=le 4 (La [fU 0 (pL false 1),fU 1 (pL false 1),fU 5 pI] []) (fun x=>x.1.2.2.1) (fun x s=>((x.1.1,x.1.2.1,s,()),())) (fun x=> .sum (.leaf (Unit) (fun t=>(Ex.ret,{tm:=[(4,V.d (D.bool false))],mem:=[]}))) (.leaf (Int) (fun t=>(Ex.exit 0,{tm:=[(0,V.d (D.sl false 1 x.1.1)),(1,V.d (D.sl false 1 x.1.2.1)),(5,V.d (D.int .i64 t)),(14,V.d (D.bool false))],mem:=[]})))) (fun x=>M.zx x.1.1 x.1.2.1) [] [] (by rintro _ _ _ _ _<;>simp only[M.zx,nb]<;>rfl)
def M.KF{R:Type}(a b:ak)(k:Bool→Option R):Option R:=
 bif(↑a.length:Int) !=(↑b.length:Int) then(k false) else
 ((M.IW a b 0).bind fun aHR=>
 xZ aHR (fun aTU=>(k false)) fun aHS=>
 letE aHS fun aTV=>(k true))
def M.uz(a b:ak):Option (Bool):=M.KF a b some
theorem C.uz:S.uz.ok X0 fun x=>M.uz x.1.1 x.1.2.1:=fnS (fun x=>M.KF x.1.1 x.1.2.1) [] [F.IW] (by intros;simp only[M.KF,nb]<;>rfl)
def M.IX{R:Type}(a a1:Int)(a2:aF)(a3:ak)(b b1:Int)(b2:aF)(b3:ak)(k:Bool→Option R):Option R:=
 bif a !=b then(k false) else
 (bif a1 !=b1 then(k false) else
 (bif !a2==b2 then(k false) else((M.uz a3 b3).bind fun aHT=>(bif !aHT then(k false) else(k true)))))
def M.wQ(a a1:Int)(a2:aF)(a3:ak)(b b1:Int)(b2:aF)(b3:ak):Option (Bool):=M.IX a a1 a2 a3 b b1 b2 b3 some
theorem C.wQ:S.wQ.ok X0 fun x=>M.wQ x.1.1.1 x.1.1.2.1 x.1.1.2.2.1 x.1.1.2.2.2.1 x.1.2.1.1 x.1.2.1.2.1 x.1.2.1.2.2.1 x.1.2.1.2.2.2.1:=fnS (fun x=>M.IX x.1.1.1 x.1.1.2.1 x.1.1.2.2.1 x.1.1.2.2.2.1 x.1.2.1.1 x.1.2.1.2.1 x.1.2.1.2.2.1 x.1.2.1.2.2.2.1) [fe C.uz] [] (by intros;simp only[M.IX,nb]<;>rfl)
def M.vI{R:Type}(a b:ak)(s:Int)(kn:Int→Option R)(ke:(Unit)⊕(Int)→Option R):Option R:=match s with
 |i=>
 bif decide (i<(↑a.length:Int)) then
 ((idx a i).bind fun aan=>
 ((dn .i64 aan 0).bind fun aHU=>
 ((dn .i64 aan 1).bind fun aHV=>
 ((cStr aan 2).bind fun aHW=>
 ((BK 1 aan 3).bind fun ash=>
 ((idx b i).bind fun aao=>
 ((dn .i64 aao 0).bind fun aHX=>
 ((dn .i64 aao 1).bind fun aHY=>
 ((cStr aao 2).bind fun aHZ=>
 ((BK 1 aao 3).bind fun asi=>
 ((M.wQ aHU aHV aHW ash aHX aHY aHZ asi).bind fun aH0=>(bif !aH0 then(ke (.inl ())) else(kn (IntKind.i64.wrap (i+1))))))))))))))) else(ke (.inr i))
def M.Aw(a b:ak)(s:Int):=M.vI a b s (fun s=>some (Sum.inl s)) fun t=>some (Sum.inr t)
def M.Es(a b:ak)(s:Int):Option ((Unit)⊕(Int)):=iR (M.Aw a b) s
def F.Es:LE X0 13:=le 4 (La [fU 0 (pL false 4),fU 1 (pL false 4),fU 5 pI] []) (fun x=>x.1.2.2.1) (fun x s=>((x.1.1,x.1.2.1,s,()),())) (fun x=> .sum (.leaf (Unit) (fun t=>(Ex.ret,{tm:=[(4,V.d (D.bool false))],mem:=[]}))) (.leaf (Int) (fun t=>(Ex.exit 0,{tm:=[(0,V.d (D.sl false 4 x.1.1)),(1,V.d (D.sl false 4 x.1.2.1)),(5,V.d (D.int .i64 t)),(14,V.d (D.bool false))],mem:=[]})))) (fun x=>M.vI x.1.1 x.1.2.1) [fe C.wQ] [] (by rintro _ _ _ _ _<;>simp only[M.vI,nb]<;>rfl)
def M.F5{R:Type}(a b:ak)(k:Bool→Option R):Option R:=
 bif(↑a.length:Int) !=(↑b.length:Int) then(k false) else
 ((M.Es a b 0).bind fun aH1=>
 xZ aH1 (fun aTW=>(k false)) fun aH2=>
 letE aH2 fun aTX=>(k true))
def M.oC(a b:ak):Option (Bool):=M.F5 a b some
theorem C.oC:S.oC.ok X0 fun x=>M.oC x.1.1 x.1.2.1:=fnS (fun x=>M.F5 x.1.1 x.1.2.1) [] [F.Es] (by intros;simp only[M.F5,nb]<;>rfl)
def M.KG{R:Type}(a a1:Int)(a2 a3:aF)(a4:ak)(b b1:Int)(b2 b3:aF)(b4:ak)(k:Bool→Option R):Option R:=
 bif a !=b then(k false) else
 (bif a1 !=b1 then(k false) else
 (bif !a2==b2 then(k false) else
 (bif !a3==b3 then(k false) else((M.uz a4 b4).bind fun aH3=>(bif !aH3 then(k false) else(k true))))))
def M.zX(a a1:Int)(a2 a3:aF)(a4:ak)(b b1:Int)(b2 b3:aF)(b4:ak):Option (Bool):=M.KG a a1 a2 a3 a4 b b1 b2 b3 b4 some
theorem C.zX:S.zX.ok X0 fun x=>M.zX x.1.1.1 x.1.1.2.1 x.1.1.2.2.1 x.1.1.2.2.2.1 x.1.1.2.2.2.2.1 x.1.2.1.1 x.1.2.1.2.1 x.1.2.1.2.2.1 x.1.2.1.2.2.2.1 x.1.2.1.2.2.2.2.1:=fnS (fun x=>M.KG x.1.1.1 x.1.1.2.1 x.1.1.2.2.1 x.1.1.2.2.2.1 x.1.1.2.2.2.2.1 x.1.2.1.1 x.1.2.1.2.1 x.1.2.1.2.2.1 x.1.2.1.2.2.2.1 x.1.2.1.2.2.2.2.1) [fe C.uz] [] (by intros;simp only[M.KG,nb]<;>rfl)
def M.xK{R:Type}(a b:ak)(s:Int)(kn:Int→Option R)(ke:(Unit)⊕(Int)→Option R):Option R:=match s with
 |i=>
 bif decide (i<(↑a.length:Int)) then
 ((idx a i).bind fun Xd=>
 ((dn .i64 Xd 0).bind fun aH4=>
 ((dn .i64 Xd 1).bind fun aH5=>
 ((cStr Xd 2).bind fun aH6=>
 ((cStr Xd 3).bind fun aH7=>
 ((BK 1 Xd 4).bind fun asj=>
 ((idx b i).bind fun Xe=>
 ((dn .i64 Xe 0).bind fun aH8=>
 ((dn .i64 Xe 1).bind fun aH9=>
 ((cStr Xe 2).bind fun aIa=>
 ((cStr Xe 3).bind fun aIb=>
 ((BK 1 Xe 4).bind fun asl=>
 ((M.zX aH4 aH5 aH6 aH7 asj aH8 aH9 aIa aIb asl).bind fun aIc=>(bif !aIc then(ke (.inl ())) else(kn (IntKind.i64.wrap (i+1))))))))))))))))) else(ke (.inr i))
def M.CG(a b:ak)(s:Int):=M.xK a b s (fun s=>some (Sum.inl s)) fun t=>some (Sum.inr t)
def M.F6(a b:ak)(s:Int):Option ((Unit)⊕(Int)):=iR (M.CG a b) s
def F.F6:LE X0 14:=le 4 (La [fU 0 (pL false 5),fU 1 (pL false 5),fU 5 pI] []) (fun x=>x.1.2.2.1) (fun x s=>((x.1.1,x.1.2.1,s,()),())) (fun x=> .sum (.leaf (Unit) (fun t=>(Ex.ret,{tm:=[(4,V.d (D.bool false))],mem:=[]}))) (.leaf (Int) (fun t=>(Ex.exit 0,{tm:=[(0,V.d (D.sl false 5 x.1.1)),(1,V.d (D.sl false 5 x.1.2.1)),(5,V.d (D.int .i64 t)),(14,V.d (D.bool false))],mem:=[]})))) (fun x=>M.xK x.1.1 x.1.2.1) [fe C.zX] [] (by rintro _ _ _ _ _<;>simp only[M.xK,nb]<;>rfl)
def M.IY{R:Type}(a b:ak)(k:Bool→Option R):Option R:=
 bif(↑a.length:Int) !=(↑b.length:Int) then(k false) else
 ((M.F6 a b 0).bind fun aId=>
 xZ aId (fun aTY=>(k false)) fun aIe=>
 letE aIe fun aTZ=>(k true))
def M.wR(a b:ak):Option (Bool):=M.IY a b some
theorem C.wR:S.wR.ok X0 fun x=>M.wR x.1.1 x.1.2.1:=fnS (fun x=>M.IY x.1.1 x.1.2.1) [] [F.F6] (by intros;simp only[M.IY,nb]<;>rfl)
def M.vJ{R:Type}(s:Int×aF)(kn:Int×aF→Option R)(ke:Int×aF→Option R):Option R:=match s with
 |(k',out')=>
 bif decide (k'>0) then
 (bif([UInt8.ofNat (IntKind.u8.wrap (IntKind.i64.wrap (48+k'.tmod 10))).toNat].length+out'.length).ble 9223372036854775807 then
 (kn ((IntKind.i64.wrap (k'.tdiv 10),[UInt8.ofNat (IntKind.u8.wrap (IntKind.i64.wrap (48+k'.tmod 10))).toNat]++out'))) else none) else(ke ((k',out')))
def M.Az(s:Int×aF):=M.vJ s (fun s=>some (Sum.inl s)) fun t=>some (Sum.inr t)
def M.uI(s:Int×aF):Option (Int×aF):=iR (M.Az) s
def F.uI:LE X0 40:=le 4 (La [fU 0 pI,fU 3 pS] []) (fun x=>(x.1.1,x.1.2.1)) (fun x s=>((s.1,s.2,()),())) (fun x=> .leaf (Int×aF) (fun t=>(Ex.exit 0,{tm:=[(0,V.d (D.int .i64 t.1)),(3,V.d (D.str t.2)),(7,V.d (D.bool false))],mem:=[]}))) (fun x=>M.vJ) [] [] (by rintro _ _ ⟨_,_⟩ _ _<;>simp only[M.vJ,nb]<;>rfl)
def M.F7{R:Type}(k':Int)(k:aF→Option R):Option R:=
 bif decide (k'≤0) then(k [109,48]) else
 ((M.uI ((k',[]))).bind fun avl=>
 (bif(1+avl.2.length).ble 9223372036854775807 then(k ([109]++avl.2)) else none))
def M.jV(k':Int):Option (aF):=M.F7 k' some
theorem C.jV:S.jV.ok X0 fun x=>M.jV x.1.1:=fnS (fun x=>M.F7 x.1.1) [] [F.uI] (by intros;simp only[M.F7,nb]<;>rfl)
def M.vK{R:Type}(s:Int×Int×ak)(kn:Int×Int×ak→Option R)(ke:Int×Int×ak→Option R):Option R:=match s with
 |(k',i,v)=>
 bif decide (i<(↑v.length:Int)) then
 ((idx v i).bind fun aJ7=>
 (v[i.toNat]?.bind fun auo=>
 (kn ((IntKind.i64.wrap (k'+1),IntKind.i64.wrap (i+1),v.set i.toNat (splice auo 0 [D.int .i64 k'])))))) else(ke ((k',i,v)))
def M.AA(s:Int×Int×ak):=M.vK s (fun s=>some (Sum.inl s)) fun t=>some (Sum.inr t)
def M.Et(s:Int×Int×ak):Option (Int×Int×ak):=iR (M.AA) s
def F.Et:LE X0 41:=le 2 (La [fU 0 (pO 100000 0),fU 1 pI,fU 5 pI] [fU 100000 (cA false true 0 1)]) (fun x=>(x.1.2.1,x.1.2.2.1,x.2.1)) (fun x s=>(((),s.1,s.2.1,()),(s.2.2,()))) (fun x=> .leaf (Int×Int×ak) (fun t=>(Ex.exit 0,{tm:=[(0,V.own 100000 0),(1,V.d (D.int .i64 t.1)),(5,V.d (D.int .i64 t.2.1)),(9,V.d (D.bool false))],mem:=[(100000,Cell.arr false true 0 1 t.2.2)]}))) (fun x=>M.vK) [] [] (by rintro _ _ ⟨_,_,_⟩ _ _<;>simp only[M.vK,nb]<;>rfl)
def M.F8{R:Type}(k':Int)(c:ak)(k:Int×ak→Option R):Option R:=
 (M.Et ((k',0,c))).bind fun avm=>(k ((avm.1,avm.2.2)))
def M.oD(k':Int)(c:ak):Option (Int×ak):=M.F8 k' c some
theorem C.oD:S.oD.ok X0 fun x=>M.oD x.1.2.1 x.2.1:=fnS (fun x=>M.F8 x.1.2.1 x.2.1) [] [F.Et] (by intros;simp only[M.F8,nb]<;>rfl)
def M.tu{R:Type}(s:Int×Int×ak)(kn:Int×Int×ak→Option R)(ke:Int×Int×ak→Option R):Option R:=match s with
 |(k',i,v)=>
 bif decide (i<(↑v.length:Int)) then
 ((idx v i).bind fun aJ8=>
 (v[i.toNat]?.bind fun L9=>
 ((idx (v.set i.toNat (splice L9 0 [D.int .i64 k'])) i).bind fun aJ9=>
 (((v.set i.toNat (splice L9 0 [D.int .i64 k']))[i.toNat]?).bind fun P8=>
 ((M.jV (IntKind.i64.wrap (IntKind.i64.wrap (k'+1)+1))).bind fun ak5=>
 ((idx ((v.set i.toNat (splice L9 0 [D.int .i64 k'])).set i.toNat (splice P8 1 [D.int .i64 (IntKind.i64.wrap (k'+1))])) i).bind fun aKa=>
 ((((v.set i.toNat (splice L9 0 [D.int .i64 k'])).set i.toNat (splice P8 1 [D.int .i64 (IntKind.i64.wrap (k'+1))]))[i.toNat]?).bind fun Xf=>
 ((M.jV (IntKind.i64.wrap (IntKind.i64.wrap (IntKind.i64.wrap (k'+1)+1)+1))).bind fun asn=>
 ((idx (((v.set i.toNat (splice L9 0 [D.int .i64 k'])).set i.toNat (splice P8 1 [D.int .i64 (IntKind.i64.wrap (k'+1))])).set i.toNat (splice Xf 2 [D.str ak5])) i).bind fun aKb=>
 (((((v.set i.toNat (splice L9 0 [D.int .i64 k'])).set i.toNat (splice P8 1 [D.int .i64 (IntKind.i64.wrap (k'+1))])).set i.toNat (splice Xf 2 [D.str ak5]))[i.toNat]?).bind fun afk=>
 ((idx ((((v.set i.toNat (splice L9 0 [D.int .i64 k'])).set i.toNat (splice P8 1 [D.int .i64 (IntKind.i64.wrap (k'+1))])).set i.toNat (splice Xf 2 [D.str ak5])).set i.toNat (splice afk 3 [D.str asn])) i).bind fun aKc=>
 ((((((v.set i.toNat (splice L9 0 [D.int .i64 k'])).set i.toNat (splice P8 1 [D.int .i64 (IntKind.i64.wrap (k'+1))])).set i.toNat (splice Xf 2 [D.str ak5])).set i.toNat (splice afk 3 [D.str asn]))[i.toNat]?).bind fun ant=>
 ((aeC 1 ant 4).bind fun ak6=>
 (bif aB ak6 then
 ((M.oD (IntKind.i64.wrap (IntKind.i64.wrap (IntKind.i64.wrap (IntKind.i64.wrap (k'+1)+1)+1)+1)) ak6).bind fun anu=>
 (bif Nat.beq 1 1 &&(true==true &&(aB anu.2 && AQ anu.2)) then
 (kn ((anu.1,IntKind.i64.wrap (i+1),((((v.set i.toNat (splice L9 0 [D.int .i64 k'])).set i.toNat (splice P8 1 [D.int .i64 (IntKind.i64.wrap (k'+1))])).set i.toNat (splice Xf 2 [D.str ak5])).set i.toNat (splice afk 3 [D.str asn])).set i.toNat (splice ant 4 [D.sl true 1 anu.2])))) else none)) else none)))))))))))))) else(ke ((k',i,v)))
def M.yJ(s:Int×Int×ak):=M.tu s (fun s=>some (Sum.inl s)) fun t=>some (Sum.inr t)
def M.CJ(s:Int×Int×ak):Option (Int×Int×ak):=iR (M.yJ) s
def F.CJ:LE X0 15:=le 2 (La [fU 0 (pO 100000 0),fU 1 pI,fU 5 pI] [fU 100000 (cA false false 0 5)]) (fun x=>(x.1.2.1,x.1.2.2.1,x.2.1)) (fun x s=>(((),s.1,s.2.1,()),(s.2.2,()))) (fun x=> .leaf (Int×Int×ak) (fun t=>(Ex.exit 0,{tm:=[(0,V.own 100000 0),(1,V.d (D.int .i64 t.1)),(5,V.d (D.int .i64 t.2.1)),(9,V.d (D.bool false))],mem:=[(100000,Cell.arr false false 0 5 t.2.2)]}))) (fun x=>M.tu) [fe C.jV,fe C.oD] [] (by rintro _ _ ⟨_,_,_⟩ _ _<;>simp only[M.tu,nb]<;>rfl)
def M.Eu{R:Type}(k':Int)(c:ak)(k:Int×ak→Option R):Option R:=
 (M.CJ ((k',0,c))).bind fun avn=>(k ((avn.1,avn.2.2)))
def M.rM(k':Int)(c:ak):Option (Int×ak):=M.Eu k' c some
theorem C.rM:S.rM.ok X0 fun x=>M.rM x.1.2.1 x.2.1:=fnS (fun x=>M.Eu x.1.2.1 x.2.1) [] [F.CJ] (by intros;simp only[M.Eu,nb]<;>rfl)
def M.rU{R:Type}(s:Int×Int×ak)(kn:Int×Int×ak→Option R)(ke:Int×Int×ak→Option R):Option R:=match s with
 |(k',i,v)=>
 bif decide (i<(↑v.length:Int)) then
 ((idx v i).bind fun aKd=>
 (v[i.toNat]?.bind fun P9=>
 ((idx (v.set i.toNat (splice P9 0 [D.int .i64 k'])) i).bind fun aKe=>
 (((v.set i.toNat (splice P9 0 [D.int .i64 k']))[i.toNat]?).bind fun Xg=>
 ((M.jV (IntKind.i64.wrap (IntKind.i64.wrap (k'+1)+1))).bind fun aso=>
 ((idx ((v.set i.toNat (splice P9 0 [D.int .i64 k'])).set i.toNat (splice Xg 1 [D.int .i64 (IntKind.i64.wrap (k'+1))])) i).bind fun aKf=>
 ((((v.set i.toNat (splice P9 0 [D.int .i64 k'])).set i.toNat (splice Xg 1 [D.int .i64 (IntKind.i64.wrap (k'+1))]))[i.toNat]?).bind fun afl=>
 ((idx (((v.set i.toNat (splice P9 0 [D.int .i64 k'])).set i.toNat (splice Xg 1 [D.int .i64 (IntKind.i64.wrap (k'+1))])).set i.toNat (splice afl 2 [D.str aso])) i).bind fun aKg=>
 (((((v.set i.toNat (splice P9 0 [D.int .i64 k'])).set i.toNat (splice Xg 1 [D.int .i64 (IntKind.i64.wrap (k'+1))])).set i.toNat (splice afl 2 [D.str aso]))[i.toNat]?).bind fun anv=>
 ((aeC 1 anv 3).bind fun ak7=>
 (bif aB ak7 then
 ((M.oD (IntKind.i64.wrap (IntKind.i64.wrap (IntKind.i64.wrap (k'+1)+1)+1)) ak7).bind fun anw=>
 (bif Nat.beq 1 1 &&(true==true &&(aB anw.2 && AQ anw.2)) then
 (kn ((anw.1,IntKind.i64.wrap (i+1),(((v.set i.toNat (splice P9 0 [D.int .i64 k'])).set i.toNat (splice Xg 1 [D.int .i64 (IntKind.i64.wrap (k'+1))])).set i.toNat (splice afl 2 [D.str aso])).set i.toNat (splice anv 3 [D.sl true 1 anw.2])))) else none)) else none))))))))))) else(ke ((k',i,v)))
def M.xM(s:Int×Int×ak):=M.rU s (fun s=>some (Sum.inl s)) fun t=>some (Sum.inr t)
def M.AB(s:Int×Int×ak):Option (Int×Int×ak):=iR (M.xM) s
def F.AB:LE X0 16:=le 2 (La [fU 0 (pO 100000 0),fU 1 pI,fU 5 pI] [fU 100000 (cA false false 0 4)]) (fun x=>(x.1.2.1,x.1.2.2.1,x.2.1)) (fun x s=>(((),s.1,s.2.1,()),(s.2.2,()))) (fun x=> .leaf (Int×Int×ak) (fun t=>(Ex.exit 0,{tm:=[(0,V.own 100000 0),(1,V.d (D.int .i64 t.1)),(5,V.d (D.int .i64 t.2.1)),(9,V.d (D.bool false))],mem:=[(100000,Cell.arr false false 0 4 t.2.2)]}))) (fun x=>M.rU) [fe C.jV,fe C.oD] [] (by rintro _ _ ⟨_,_,_⟩ _ _<;>simp only[M.rU,nb]<;>rfl)
def M.CO{R:Type}(k':Int)(c:ak)(k:Int×ak→Option R):Option R:=
 (M.AB ((k',0,c))).bind fun avo=>(k ((avo.1,avo.2.2)))
def M.pX(k':Int)(c:ak):Option (Int×ak):=M.CO k' c some
theorem C.pX:S.pX.ok X0 fun x=>M.pX x.1.2.1 x.2.1:=fnS (fun x=>M.CO x.1.2.1 x.2.1) [] [F.AB] (by intros;simp only[M.CO,nb]<;>rfl)
def M.vM{R:Type}(a:ak)(s:Int×Int)(kn:Int×Int→Option R)(ke:(Unit)⊕(Int×Int)→Option R):Option R:=match s with
 |(k',i)=>
 bif decide (i<(↑a.length:Int)) then
 ((idx a i).bind fun aup=>
 ((dn .i64 aup 0).bind fun aIf=>
 (bif aIf !=k' then(ke (.inl ())) else(kn ((IntKind.i64.wrap (k'+1),IntKind.i64.wrap (i+1))))))) else(ke (.inr ((k',i))))
def M.AL(a:ak)(s:Int×Int):=M.vM a s (fun s=>some (Sum.inl s)) fun t=>some (Sum.inr t)
def M.Ew(a:ak)(s:Int×Int):Option ((Unit)⊕(Int×Int)):=iR (M.AL a) s
def F.Ew:LE X0 42:=le 2 (La [fU 0 (pL false 1),fU 1 pI,fU 5 pI] []) (fun x=>(x.1.2.1,x.1.2.2.1)) (fun x s=>((x.1.1,s.1,s.2,()),())) (fun x=> .sum (.leaf (Unit) (fun t=>(Ex.ret,{tm:=[(4,V.d (D.int .i64 (-1)))],mem:=[]}))) (.leaf (Int×Int) (fun t=>(Ex.exit 0,{tm:=[(0,V.d (D.sl false 1 x.1.1)),(1,V.d (D.int .i64 t.1)),(5,V.d (D.int .i64 t.2)),(9,V.d (D.bool false))],mem:=[]})))) (fun x=>M.vM x.1.1) [] [] (by rintro _ _ ⟨_,_⟩ _ _<;>simp only[M.vM,nb]<;>rfl)
def M.F9{R:Type}(a:ak)(k':Int)(k:Int→Option R):Option R:=
 (M.Ew a ((k',0))).bind fun aIg=>
 xZ aIg (fun aT0=>(k (-1))) fun aIh=>
 letE aIh fun aIi=>(k aIi.1)
def M.uD(a:ak)(k':Int):Option (Int):=M.F9 a k' some
theorem C.uD:S.uD.ok X0 fun x=>M.uD x.1.1 x.1.2.1:=fnS (fun x=>M.F9 x.1.1 x.1.2.1) [] [F.Ew] (by intros;simp only[M.F9,nb]<;>rfl)
def M.rV{R:Type}(a:ak)(s:Int×Int)(kn:Int×Int→Option R)(ke:(Unit)⊕(Int×Int)→Option R):Option R:=match s with
 |(k',i)=>
 bif decide (i<(↑a.length:Int)) then
 ((idx a i).bind fun auq=>
 ((dn .i64 auq 0).bind fun aIj=>
 (bif aIj !=k' then(ke (.inl ())) else
 ((idx a i).bind fun aur=>
 ((dn .i64 aur 1).bind fun aIk=>
 (bif aIk !=IntKind.i64.wrap (k'+1) then(ke (.inl ())) else
 ((idx a i).bind fun aus=>
 ((cStr aus 2).bind fun aIl=>
 ((M.jV (IntKind.i64.wrap (IntKind.i64.wrap (k'+1)+1))).bind fun aIm=>
 (bif !aIl==aIm then(ke (.inl ())) else
 ((idx a i).bind fun aut=>
 ((BK 1 aut 3).bind fun asq=>
 ((M.uD asq (IntKind.i64.wrap (IntKind.i64.wrap (IntKind.i64.wrap (k'+1)+1)+1))).bind fun avp=>(bif decide (avp<0) then(ke (.inl ())) else(kn ((avp,IntKind.i64.wrap (i+1)))))))))))))))))) else(ke (.inr ((k',i))))
def M.xO(a:ak)(s:Int×Int):=M.rV a s (fun s=>some (Sum.inl s)) fun t=>some (Sum.inr t)
def M.AO(a:ak)(s:Int×Int):Option ((Unit)⊕(Int×Int)):=iR (M.xO a) s
def F.AO:LE X0 17:=le 2 (La [fU 0 (pL false 4),fU 1 pI,fU 5 pI] []) (fun x=>(x.1.2.1,x.1.2.2.1)) (fun x s=>((x.1.1,s.1,s.2,()),())) (fun x=> .sum (.leaf (Unit) (fun t=>(Ex.ret,{tm:=[(4,V.d (D.int .i64 (-1)))],mem:=[]}))) (.leaf (Int×Int) (fun t=>(Ex.exit 0,{tm:=[(0,V.d (D.sl false 4 x.1.1)),(1,V.d (D.int .i64 t.1)),(5,V.d (D.int .i64 t.2)),(9,V.d (D.bool false))],mem:=[]})))) (fun x=>M.rV x.1.1) [fe C.jV,fe C.uD] [] (by rintro _ _ ⟨_,_⟩ _ _<;>simp only[M.rV,nb]<;>rfl)
def M.CP{R:Type}(a:ak)(k':Int)(k:Int→Option R):Option R:=
 (M.AO a ((k',0))).bind fun aIn=>
 xZ aIn (fun aT1=>(k (-1))) fun aIo=>
 letE aIo fun aIp=>(k aIp.1)
def M.nH(a:ak)(k':Int):Option (Int):=M.CP a k' some
theorem C.nH:S.nH.ok X0 fun x=>M.nH x.1.1 x.1.2.1:=fnS (fun x=>M.CP x.1.1 x.1.2.1) [] [F.AO] (by intros;simp only[M.CP,nb]<;>rfl)
def M.vO{R:Type}(aL:ak)(k:Bool→Option R):Option R:=
 (M.wC aL 1048576).bind fun r12=>
 (bif decide (r12<0) then(k true) else
 ((M.oJ aL).bind fun r29=>
 ((M.wM (aA r29)).bind fun auu=>
 (bif[[D.sl true 4 auu]].all dM then
 ((M.oJ aL).bind fun aym=>
 ((M.tY (aA aym)).bind fun anx=>
 (bif[[D.sl true 4 anx]].all dM then
 ((M.oC (aA anx) (aA auu)).bind fun aIq=>
 (bif !aIq then(k false) else
 ((M.oJ aL).bind fun aIr=>
 ((M.wR (aA aym) (aA aIr)).bind fun aIs=>
 (bif !aIs then(k false) else
 ((M.rM 1 aym).bind fun aIt=>
 (bif decide (aIt.1<0) then(k false) else
 ((M.oC (aA anx) (aA auu)).bind fun aIu=>
 (bif !aIu then(k false) else
 ((M.pX 1 anx).bind fun anz=>
 ((M.nH (aA anz.2) 1).bind fun avq=>
 (bif decide (avq<0) then(k false) else
 (bif avq !=anz.1 then(k false) else
 ((M.oJ aL).bind fun aIv=>
 ((M.tY (aA aIv)).bind fun avr=>
 (bif[[D.sl true 4 avr]].all dM then
 ((M.oC (aA avr) (aA auu)).bind fun aIw=>
 (bif !aIw then(k false) else
 ((M.nH (aA anz.2) 1).bind fun avs=>
 (bif decide (avs<0) then(k false) else(bif avs !=anz.1 then(k false) else(k true)))))) else none)))))))))))))))) else none))) else none))))
def M.mG(aL:ak):Option (Bool):=M.vO aL some
theorem C.mG:S.mG.ok X0 fun x=>M.mG x.1.1:=fnS (fun x=>M.vO x.1.1) [fe C.wC,fe C.oJ,fe C.wM,fe C.tY,fe C.oC,fe C.wR,fe C.rM,fe C.pX,fe C.nH] [] (by intros;simp only[M.vO,nb]<;>rfl)
end
end Go.Proofs.YtbpldgeajbfgnaaGreatDoor
