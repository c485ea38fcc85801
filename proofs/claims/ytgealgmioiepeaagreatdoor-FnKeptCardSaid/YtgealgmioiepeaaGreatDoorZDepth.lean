import Derived.Test.YtgealgmioiepeaaGreatDoorPForms2
import Derived.Lib.IndexLaws
set_option linter.defProp false
set_option linter.unusedVariables false
set_option linter.unusedSimpArgs false
set_option linter.unusedSectionVars false
open Go.IntKind (i64)
namespace Go.Proofs.YtgealgmioiepeaaGreatDoor
open Go Go.Vm
noncomputable section
variable {R:Type}
def M.rF(aT:zag)(c:ak)(c1:Int)(c2:Bool)(c3:ak)(k:Int×Int×aC×aC×Bool×ak×Bool×ak×Int×Bool×ak->Option R):=cond (aj c3) ((M.fE c c1 c2 c3).bind λb=>cond (aj b.2.2.2.2) ((M.aA b.2.1 b.2.2.1 b.2.2.2.1 b.2.2.2.2).bind λa=>cond (a.1==34) (cond (aj a.2.2.2.2) ((aT 35 a.2.1 (i64.wrap (a.2.2.1+1)) a.2.2.2.1 a.2.2.2.2).bind λd=>cond (aj d.2.2.2.2.2) (k (5,0,b.1,[],false,aB d.2.1,true,d.2.2)) none) none) (cond (aj a.2.2.2.2) (k (1,0,b.1,[],true,[],true,a.2)) none)) none) none
def C.Yd{aT:zag}(uF:S.jg.ok X0 λx=>aT x.1.2.1 x.2.1.1 x.2.1.2.1 x.2.1.2.2.1 x.2.1.va.1):S.oG.ok X0 λx=>M.rF aT x.2.1.1 x.2.1.2.1 x.2.1.2.2.1 x.2.1.va.1 some:=fnS (λx=>zbJ (M.rF aT) x.2.1) [fe C.fE,fe C.aA,fe uF] [] (by intros;unfold M.rF;exact zbK)
abbrev M.xH(Ye:Bool×ak×Int×Bool×ak)(aT:zag)(k:Int×Int×aC×aC×Bool×ak×Bool×ak×Int×Bool×ak->Option R)(JZ:aC×ak×Int×Bool×ak):=cond Ye.1 (cond (aj Ye.2.2.2.2) ((aT 33 Ye.2.1 Ye.2.2.1 Ye.2.2.2.1 Ye.2.2.2.2).bind λa=>cond (aj a.2.2.2.2.2) (k (8,0,JZ.1,[],false,aB a.2.1,false,a.2.2)) none) none) (cond (aj Ye.2.2.2.2) (k (8,0,JZ.1,[],true,[],false,Ye.2)) none)
abbrev M.wO(qY:Int×ak×Int×Bool×ak)(k:Int×Int×aC×aC×Bool×ak×Bool×ak×Int×Bool×ak->Option R)(aT:zag):=cond (aj qY.2.2.2.2) ((M.fE qY.2.1 qY.2.2.1 qY.2.2.2.1 qY.2.2.2.2).bind λc=>cond (qY.1==8) (cond (c.1==[108,101,110,103,116,104]) (cond (aj c.2.2.2.2) ((M.aA c.2.1 c.2.2.1 c.2.2.2.1 c.2.2.2.2).bind λa=>cond (a.1 !=32) (cond (aj a.2.2.2.2) (k (8,0,c.1,[],true,[],false,a.2)) none) (cond (aj a.2.2.2.2) ((M.aO 32 a.2.1 a.2.2.1 a.2.2.2.1 a.2.2.2.2).bind λf=>M.xH f aT k c) none)) none) (cond (aj c.2.2.2.2) ((M.aO 32 c.2.1 c.2.2.1 c.2.2.2.1 c.2.2.2.2).bind λe=>M.xH e aT k c) none)) (cond (aj c.2.2.2.2) ((M.aO 32 c.2.1 c.2.2.1 c.2.2.2.1 c.2.2.2.2).bind λb=>cond b.1 (cond (aj b.2.2.2.2) ((aT 33 b.2.1 b.2.2.1 b.2.2.2.1 b.2.2.2.2).bind λd=>cond (aj d.2.2.2.2.2) (k (7,0,c.1,[],false,aB d.2.1,false,d.2.2)) none) none) (cond (aj b.2.2.2.2) (k (7,0,c.1,[],true,[],false,b.2)) none)) none)) none
def M.pR(iq:zad)(aT:zag)(bJ:zaa)(c:ak)(c1:Int)(c2:Bool)(c3:ak)(k:Int×Int×aC×aC×Bool×ak×Bool×ak×Int×Bool×ak->Option R):=cond c2 (cond (aj c3) (k (0,0,[],[],true,[],false,c,c1,c2,c3)) none) (cond (aj c3) ((M.aA c c1 c2 c3).bind λa=>cond (a.1==3) (cond (aj a.2.2.2.2) ((M.fE a.2.1 a.2.2.1 a.2.2.2.1 a.2.2.2.2).bind λf=>cond (aj f.2.2.2.2) (k (2,0,f.1,[],true,[],false,f.2)) none) none) (cond (a.1==4) (cond (aj a.2.2.2.2) ((M.fE a.2.1 a.2.2.1 a.2.2.2.1 a.2.2.2.2).bind λg=>cond (aj g.2.2.2.2) (k (3,0,g.1,[],true,[],false,g.2)) none) none) (cond (a.1==5) (cond (aj a.2.2.2.2) ((M.fE a.2.1 a.2.2.1 a.2.2.2.1 a.2.2.2.2).bind λh=>cond (aj h.2.2.2.2) (k (4,0,h.1,[],true,[],false,h.2)) none) none) (cond (a.1==6) (cond (aj a.2.2.2.2) ((iq a.2.1 a.2.2.1 a.2.2.2.1 a.2.2.2.2).bind λb=>cond (aj b.2.2.2.2.2.2.2.2.2.2) (k (b.1,b.2.1,b.2.2.1,b.2.2.2.1,false,aB b.2.2.2.2.2.1,b.2.2.2.2.2.2)) none) none) (cond (a.1==7) (M.wO a k aT) (cond (a.1==8) (M.wO a k aT) (cond (a.1==32) (cond (aj a.2.2.2.2) ((bJ false false a.2.1 (i64.wrap (a.2.2.1+1)) a.2.2.2.1 a.2.2.2.2).bind λe=>cond (aj e.2.2.2.2.2.2.2.2.2.2) ((M.aO 33 e.2.2.2.2.2.2.2.1 e.2.2.2.2.2.2.2.2.1 e.2.2.2.2.2.2.2.2.2.1 e.2.2.2.2.2.2.2.2.2.2).bind λi=>cond (aj i.2.2.2.2) (k (e.1,e.2.1,e.2.2.1,e.2.2.2.1,false,aB e.2.2.2.2.2.1,false,i.2)) none) none) none) (cond (aj a.2.2.2.2) ((M.jB a.2.1 a.2.2.1 a.2.2.2.1 a.2.2.2.2).bind λd=>cond (aj d.2.2.2.2.2.2.2.2.2.2) (k (d.1,d.2.1,d.2.2.1,d.2.2.2.1,false,aB d.2.2.2.2.2.1,d.2.2.2.2.2.2)) none) none)))))))) none)
def C.YX{iq:zad}{aT:zag}{bJ:zaa}(IK:S.oG.ok X0 λx=>iq x.2.1.1 x.2.1.2.1 x.2.1.2.2.1 x.2.1.va.1)(uF:S.jg.ok X0 λx=>aT x.1.2.1 x.2.1.1 x.2.1.2.1 x.2.1.2.2.1 x.2.1.va.1)(qJ:S.bP.ok X0 λx=>bJ x.1.2.1.1 x.1.2.1.2.1 x.2.1.1 x.2.1.2.1 x.2.1.2.2.1 x.2.1.va.1):S.lH.ok X0 λx=>M.pR iq aT bJ x.2.1.1 x.2.1.2.1 x.2.1.2.2.1 x.2.1.va.1 some:=fnS (λx=>zbJ (M.pR iq aT bJ) x.2.1) [fe C.aA,fe C.fE,fe IK,fe C.aO,fe uF,fe qJ,fe C.jB] [] (by intros;unfold M.pR M.wO;exact zbK)
abbrev M.yV(Zq:Int×Int×aC×aC×Bool×ak×Bool×ak×Int×Bool×ak)(k:Int×Int×aC×aC×Bool×ak×Bool×ak×Int×Bool×ak->Option R):=cond (aj Zq.2.2.2.2.2.2.2.2.2.2) (k (6,0,[],[],true,[[D.int .i64 Zq.1,D.int .i64 Zq.2.1,D.str Zq.2.2.1,D.str Zq.2.2.2.1,D.sl false 5 (aB Zq.2.2.2.2.2.1)]],true,Zq.2.2.2.2.2.2.2)) none
def M.rU(qp:zad)(iZ:zad)(dW:zad)(c:ak)(c1:Int)(c2:Bool)(c3:ak)(k:Int×Int×aC×aC×Bool×ak×Bool×ak×Int×Bool×ak->Option R):=cond c2 (cond (aj c3) ((qp c c1 c2 c3).bind λd=>cond (aj d.2.2.2.2.2.2.2.2.2.2) (k (d.1,d.2.1,d.2.2.1,d.2.2.2.1,false,aB d.2.2.2.2.2.1,d.2.2.2.2.2.2)) none) none) (cond (aj c3) ((M.aA c c1 c2 c3).bind λe=>cond (e.1 !=68) (cond (aj e.2.2.2.2) ((qp e.2.1 e.2.2.1 e.2.2.2.1 e.2.2.2.2).bind λb=>cond (aj b.2.2.2.2.2.2.2.2.2.2) (k (b.1,b.2.1,b.2.2.1,b.2.2.2.1,false,aB b.2.2.2.2.2.1,b.2.2.2.2.2.2)) none) none) (cond (aj e.2.2.2.2) ((M.aA e.2.1 (i64.wrap (e.2.2.1+1)) e.2.2.2.1 e.2.2.2.2).bind λa=>(M.iw a.1).bind λf=>cond f (cond (aj a.2.2.2.2) ((iZ a.2.1 a.2.2.1 a.2.2.2.1 a.2.2.2.2).bind λh=>M.yV h k) none) (cond (aj a.2.2.2.2) ((dW a.2.1 a.2.2.1 a.2.2.2.1 a.2.2.2.2).bind λg=>M.yV g k) none)) none)) none)
def C.aaD{qp:zad}{iZ:zad}{dW:zad}(ZK:S.lH.ok X0 λx=>qp x.2.1.1 x.2.1.2.1 x.2.1.2.2.1 x.2.1.va.1)(KO:S.kW.ok X0 λx=>iZ x.2.1.1 x.2.1.2.1 x.2.1.2.2.1 x.2.1.va.1)(Af:S.jy.ok X0 λx=>dW x.2.1.1 x.2.1.2.1 x.2.1.2.2.1 x.2.1.va.1):S.jy.ok X0 λx=>M.rU qp iZ dW x.2.1.1 x.2.1.2.1 x.2.1.2.2.1 x.2.1.va.1 some:=fnS (λx=>zbJ (M.rU qp iZ dW) x.2.1) [fe ZK,fe C.aA,fe C.iw,fe KO,fe Af] [] (by intros;unfold M.rU M.yV;exact zbK)
abbrev M.sH(Yf:Int×Int×aC×aC×Bool×ak×Bool×ak×Int×Bool×ak)(k:Int×Int×aC×aC×Bool×ak×Bool×ak×Int×Bool×ak->Option R):=cond (aj Yf.2.2.2.2.2.2.2.2.2.2) (k (Yf.1,Yf.2.1,Yf.2.2.1,Yf.2.2.2.1,false,aB Yf.2.2.2.2.2.1,Yf.2.2.2.2.2.2)) none
def M.uQ(dW:zad)(iq:zad)(c:ak)(c1:Int)(c2:Bool)(c3:ak)(k:Int×Int×aC×aC×Bool×ak×Bool×ak×Int×Bool×ak->Option R):=cond c2 (cond (aj c3) ((M.jB c c1 c2 c3).bind λg=>M.sH g k) none) (cond (aj c3) ((M.aA c c1 c2 c3).bind λb=>cond (b.1==68) (cond (aj b.2.2.2.2) ((dW b.2.1 b.2.2.1 b.2.2.2.1 b.2.2.2.2).bind λe=>M.sH e k) none) (cond (aj b.2.2.2.2) ((M.aA b.2.1 b.2.2.1 b.2.2.2.1 b.2.2.2.2).bind λa=>cond (a.1==6) (cond (aj a.2.2.2.2) ((iq a.2.1 a.2.2.1 a.2.2.2.1 a.2.2.2.2).bind λf=>M.sH f k) none) (cond (aj a.2.2.2.2) ((M.jB a.2.1 a.2.2.1 a.2.2.2.1 a.2.2.2.2).bind λd=>M.sH d k) none)) none)) none)
def C.ZL{dW:zad}{iq:zad}(Af:S.jy.ok X0 λx=>dW x.2.1.1 x.2.1.2.1 x.2.1.2.2.1 x.2.1.va.1)(IK:S.oG.ok X0 λx=>iq x.2.1.1 x.2.1.2.1 x.2.1.2.2.1 x.2.1.va.1):S.uo.ok X0 λx=>M.uQ dW iq x.2.1.1 x.2.1.2.1 x.2.1.2.2.1 x.2.1.va.1 some:=fnS (λx=>zbJ (M.uQ dW iq) x.2.1) [fe C.jB,fe C.aA,fe Af,fe IK] [] (by intros;unfold M.uQ M.sH;exact zbK)
def M.uS(wP:zad)(c:ak)(c1:Int)(c2:Bool)(c3:ak)(k:Int×Int×aC×aC×Bool×ak×Bool×ak×Int×Bool×ak->Option R):=cond (aj c3) ((M.aA c c1 c2 c3).bind λb=>cond (aj b.2.2.2.2) ((wP b.2.1 (i64.wrap (b.2.2.1+1)) b.2.2.2.1 b.2.2.2.2).bind λa=>cond (aj a.2.2.2.2.2.2.2.2.2.2) (k (9,b.1,[],[],true,[[D.int .i64 a.1,D.int .i64 a.2.1,D.str a.2.2.1,D.str a.2.2.2.1,D.sl false 5 (aB a.2.2.2.2.2.1)]],false,a.2.2.2.2.2.2.2)) none) none) none
def C.ZM{wP:zad}(aaG:S.uo.ok X0 λx=>wP x.2.1.1 x.2.1.2.1 x.2.1.2.2.1 x.2.1.va.1):S.kW.ok X0 λx=>M.uS wP x.2.1.1 x.2.1.2.1 x.2.1.2.2.1 x.2.1.va.1 some:=fnS (λx=>zbJ (M.uS wP) x.2.1) [fe C.aA,fe aaG] [] (by intros;unfold M.uS;exact zbK)
abbrev M.Ag(uf:Int×Int×aC×aC×Bool×ak×Bool×ak×Int×Bool×ak)(k:Int×Int×aC×aC×Bool×ak×Bool×ak×Int×Bool×ak->Option R):=cond uf.2.2.2.2.2.2.2.2.2.1 (cond (aj uf.2.2.2.2.2.2.2.2.2.2) (k (uf.1,uf.2.1,uf.2.2.1,uf.2.2.2.1,false,aB uf.2.2.2.2.2.1,uf.2.2.2.2.2.2)) none) (cond (!uf.2.2.2.2.2.2.1) (cond (aj uf.2.2.2.2.2.2.2.2.2.2) (k (uf.1,uf.2.1,uf.2.2.1,uf.2.2.2.1,false,aB uf.2.2.2.2.2.1,uf.2.2.2.2.2.2)) none) (cond (aj uf.2.2.2.2.2.2.2.2.2.2) ((M.aA uf.2.2.2.2.2.2.2.1 uf.2.2.2.2.2.2.2.2.1 uf.2.2.2.2.2.2.2.2.2.1 uf.2.2.2.2.2.2.2.2.2.2).bind λa=>(M.iw a.1).bind λc=>cond (!c) (cond (aj a.2.2.2.2) (k (uf.1,uf.2.1,uf.2.2.1,uf.2.2.2.1,false,aB uf.2.2.2.2.2.1,uf.2.2.2.2.2.2.1,a.2)) none) (cond (aj a.2.2.2.2) ((M.aA a.2.1 a.2.2.1 a.2.2.2.1 a.2.2.2.2).bind λb=>cond (aj b.2.2.2.2) (k (10,b.1,[],[],true,[[D.int .i64 uf.1,D.int .i64 uf.2.1,D.str uf.2.2.1,D.str uf.2.2.2.1,D.sl false 5 (aB uf.2.2.2.2.2.1)]],false,b.2.1,i64.wrap (b.2.2.1+1),b.2.2.2)) none) none)) none))
def M.uG(iZ:zad)(dW:zad)(c:ak)(c1:Int)(c2:Bool)(c3:ak)(k:Int×Int×aC×aC×Bool×ak×Bool×ak×Int×Bool×ak->Option R):=cond (!c2) (cond (aj c3) ((M.aA c c1 c2 c3).bind λa=>(M.iw a.1).bind λd=>cond d (cond (aj a.2.2.2.2) ((iZ a.2.1 a.2.2.1 a.2.2.2.1 a.2.2.2.2).bind λb=>cond (aj b.2.2.2.2.2.2.2.2.2.2) (k (b.1,b.2.1,b.2.2.1,b.2.2.2.1,false,aB b.2.2.2.2.2.1,b.2.2.2.2.2.2)) none) none) (cond (aj a.2.2.2.2) ((dW a.2.1 a.2.2.1 a.2.2.2.1 a.2.2.2.2).bind λf=>M.Ag f k) none)) none) (cond (aj c3) ((dW c c1 c2 c3).bind λe=>M.Ag e k) none)
def C.ach{iZ:zad}{dW:zad}(KO:S.kW.ok X0 λx=>iZ x.2.1.1 x.2.1.2.1 x.2.1.2.2.1 x.2.1.va.1)(Af:S.jy.ok X0 λx=>dW x.2.1.1 x.2.1.2.1 x.2.1.2.2.1 x.2.1.va.1):S.o9.ok X0 λx=>M.uG iZ dW x.2.1.1 x.2.1.2.1 x.2.1.2.2.1 x.2.1.va.1 some:=fnS (λx=>zbJ (M.uG iZ dW) x.2.1) [fe C.aA,fe C.iw,fe KO,fe Af] [] (by intros;unfold M.uG M.Ag;exact zbK)
abbrev M.CU(op' a a1:Int)(a2 a3:aC)(a4:ak)(a5:Bool)(b b1:Int)(b2 b3:aC)(b4:ak)(b5:Bool)(k:Int×Int×aC×aC×Bool×ak×Bool->Option R):=k (12,op',[],[],true,[[D.int .i64 a,D.int .i64 a1,D.str a2,D.str a3,D.sl false 5 a4],[D.int .i64 b,D.int .i64 b1,D.str b2,D.str b3,D.sl false 5 b4]],false)
def M.mY op' a a1 a2 a3 a4 a5 b b1 b2 b3 b4 b5:=M.CU op' a a1 a2 a3 a4 a5 b b1 b2 b3 b4 b5 some
def C.mY:=fTa S.mY (λx=>M.CU x.1.1 x.1.2.1.1 x.1.2.1.2.1 x.1.2.1.2.2.1 x.1.2.1.va.1 x.1.2.1.va.2.1 x.1.2.1.va.2.2.1 x.1.2.2.1.1 x.1.2.2.1.2.1 x.1.2.2.1.2.2.1 x.1.2.2.1.va.1 x.1.2.2.1.va.2.1 x.1.2.2.1.va.2.2.1)
def M.wQ(yX:zad)(bC:zaa)(r' oZ:Bool)(c:ak)(c1:Int)(c2:Bool)(c3:ak)(k:Int×Int×aC×aC×Bool×ak×Bool×ak×Int×Bool×ak->Option R):=cond (aj c3) ((yX c c1 c2 c3).bind λa=>cond a.2.2.2.2.2.2.2.2.2.1 (cond (aj a.2.2.2.2.2.2.2.2.2.2) (k (a.1,a.2.1,a.2.2.1,a.2.2.2.1,false,aB a.2.2.2.2.2.1,a.2.2.2.2.2.2)) none) (cond (aj a.2.2.2.2.2.2.2.2.2.2) ((M.aA a.2.2.2.2.2.2.2.1 a.2.2.2.2.2.2.2.2.1 a.2.2.2.2.2.2.2.2.2.1 a.2.2.2.2.2.2.2.2.2.2).bind λd=>cond (d.1 !=60) (cond (aj d.2.2.2.2) (k (a.1,a.2.1,a.2.2.1,a.2.2.2.1,false,aB a.2.2.2.2.2.1,a.2.2.2.2.2.2.1,d.2)) none) (cond (aj d.2.2.2.2) ((bC r' oZ d.2.1 (i64.wrap (d.2.2.1+1)) d.2.2.2.1 d.2.2.2.2).bind λb=>(M.mY 60 a.1 a.2.1 a.2.2.1 a.2.2.2.1 (aB a.2.2.2.2.2.1) a.2.2.2.2.2.2.1 b.1 b.2.1 b.2.2.1 b.2.2.2.1 (aB b.2.2.2.2.2.1) b.2.2.2.2.2.2.1).bind λe=>cond (aj b.2.2.2.2.2.2.2.2.2.2) (k (e.1,e.2.1,e.2.2.1,e.2.2.2.1,false,aB e.2.2.2.2.2.1,e.2.2.2.2.2.2,b.2.2.2.2.2.2.2)) none) none)) none)) none
def C.aeF{yX:zad}{bC:zaa}(aeG:S.o9.ok X0 λx=>yX x.2.1.1 x.2.1.2.1 x.2.1.2.2.1 x.2.1.va.1)(pF:S.jK.ok X0 λx=>bC x.1.2.1.1 x.1.2.1.2.1 x.2.1.1 x.2.1.2.1 x.2.1.2.2.1 x.2.1.va.1):S.qU.ok X0 λx=>M.wQ yX bC x.1.2.1.1 x.1.2.1.2.1 x.2.1.1 x.2.1.2.1 x.2.1.2.2.1 x.2.1.va.1 some:=fnS (λx=>zbJ (M.wQ yX bC x.1.2.1.1 x.1.2.1.2.1) x.2.1) [fe aeG,fe C.aA,fe pF,fe C.mY] [] (by intros;unfold M.wQ;exact zbK)
abbrev M.yY(MQ:Int×ak×Int×Bool×ak)(pG:zaa)(r' oZ:Bool)(k:Int×Int×aC×aC×Bool×ak×Bool×ak×Int×Bool×ak->Option R):=cond (aj MQ.2.2.2.2) ((pG r' oZ MQ.2.1 MQ.2.2.1 MQ.2.2.2.1 MQ.2.2.2.2).bind λa=>cond (aj a.2.2.2.2.2.2.2.2.2.2) (k (a.1,a.2.1,a.2.2.1,a.2.2.2.1,false,aB a.2.2.2.2.2.1,a.2.2.2.2.2.2)) none) none
abbrev M.uT(MQ:Int×ak×Int×Bool×ak)(bC:zaa)(r' oZ:Bool)(k:Int×Int×aC×aC×Bool×ak×Bool×ak×Int×Bool×ak->Option R):=cond (aj MQ.2.2.2.2) ((bC r' oZ MQ.2.1 (i64.wrap (MQ.2.2.1+1)) MQ.2.2.2.1 MQ.2.2.2.2).bind λa=>cond (aj a.2.2.2.2.2.2.2.2.2.2) (k (11,MQ.1,[],[],true,[[D.int .i64 a.1,D.int .i64 a.2.1,D.str a.2.2.1,D.str a.2.2.2.1,D.sl false 5 (aB a.2.2.2.2.2.1)]],false,a.2.2.2.2.2.2.2)) none) none
def M.rV(pG:zaa)(bC:zaa)(r' oZ:Bool)(c:ak)(c1:Int)(c2:Bool)(c3:ak)(k:Int×Int×aC×aC×Bool×ak×Bool×ak×Int×Bool×ak->Option R):=cond (aj c3) ((M.aA c c1 c2 c3).bind λa=>cond a.2.2.2.1 (M.yY a pG r' oZ k) (cond (a.1 !=55) (cond (a.1 !=56) (cond (a.1 !=61) (M.yY a pG r' oZ k) (M.uT a bC r' oZ k)) (M.uT a bC r' oZ k)) (M.uT a bC r' oZ k))) none
def C.aaN{pG:zaa}{bC:zaa}(afw:S.qU.ok X0 λx=>pG x.1.2.1.1 x.1.2.1.2.1 x.2.1.1 x.2.1.2.1 x.2.1.2.2.1 x.2.1.va.1)(pF:S.jK.ok X0 λx=>bC x.1.2.1.1 x.1.2.1.2.1 x.2.1.1 x.2.1.2.1 x.2.1.2.2.1 x.2.1.va.1):S.jK.ok X0 λx=>M.rV pG bC x.1.2.1.1 x.1.2.1.2.1 x.2.1.1 x.2.1.2.1 x.2.1.2.2.1 x.2.1.va.1 some:=fnS (λx=>zbJ (M.rV pG bC x.1.2.1.1 x.1.2.1.2.1) x.2.1) [fe C.aA,fe afw,fe pF] [] (by intros;unfold M.rV M.uT M.yY;exact zbK)
abbrev M.KP(op':Int)(k:Int->Option R):=cond (op'==44) (k 3) (cond (op'==45) (k 4) (cond (op'==67) (k 6) (cond (op'==46) (k 6) (cond (op'==63) (k 7) (cond (op'==48) (k 7) (cond (op'==47) (k 7) (cond (op'==50) (k 7) (cond (op'==62) (k 7) (cond (op'==49) (k 7) (cond (op'==99) (k 8) (cond (op'==55) (k 9) (cond (op'==56) (k 9) (cond (op'==57) (k 10) (cond (op'==58) (k 10) (cond (op'==59) (k 10) (cond (op'==60) (k 12) (k 0)))))))))))))))))
def M.nM op':=M.KP op' some
def C.nM:=fTa S.nM (λx=>M.KP x.1.1)
def M.yZ(bC:zaa)(x' oO:Bool)(pX tZ:Int)(xg BI:aC)(F7:Bool)(s:ak×Int×Bool×Int×Int×aC×aC×ak×Bool×ak)(kn:ak×Int×Bool×Int×Int×aC×aC×ak×Bool×ak->Option R)(ke:ak×Int×Bool×Int×Int×aC×aC×ak×Bool×ak->Option R):Option R:=match s with
 |(v,v1,v2,Jw,NG,Rf,IL,NH,OM,QZ)=>bif !v2 then(bif aj QZ then((M.aA v v1 v2 QZ).bind λb=>(M.nM b.1).bind λe=>bif e==10 then(bif aj b.2.2.2.2 then((M.aA b.2.1 b.2.2.1 b.2.2.2.1 b.2.2.2.2).bind λd=>bif aj d.2.2.2.2 then((bC x' oO d.2.1 (i64.wrap (d.2.2.1+1)) d.2.2.2.1 d.2.2.2.2).bind λa=>(M.mY d.1 Jw NG Rf IL NH OM a.1 a.2.1 a.2.2.1 a.2.2.2.1 (aB a.2.2.2.2.2.1) a.2.2.2.2.2.2.1).bind λc=>kn (a.2.2.2.2.2.2.2.1,a.2.2.2.2.2.2.2.2.1,a.2.2.2.2.2.2.2.2.2.1,c.1,c.2.1,c.2.2.1,c.2.2.2.1,aB c.2.2.2.2.2.1,c.2.2.2.2.2.2,a.2.2.2.2.2.2.2.2.2.2)) else none) else none) else ke (b.2.1,b.2.2.1,b.2.2.2.1,Jw,NG,Rf,IL,NH,OM,b.2.2.2.2)) else none) else ke (v,v1,v2,Jw,NG,Rf,IL,NH,OM,QZ)
def M.KQ bC x' oO pX tZ xg BI F7 s:=M.yZ bC x' oO pX tZ xg BI F7 s (λs=>some (Sum.inl s)) λt=>some (Sum.inr t)
def M.yg bC x' oO pX tZ xg BI F7 s:=fH (M.KQ bC x' oO pX tZ xg BI F7) s
def F.yg{bC:zaa}(pF:S.jK.ok X0 λx=>bC x.1.2.1.1 x.1.2.1.2.1 x.2.1.1 x.2.1.2.1 x.2.1.2.2.1 x.2.1.va.1):LE X0 215:=le 2 (Ik zbn zbk) (λx=>(x.2.1.1,x.2.1.2.1,x.2.1.2.2.1,x.va.2.1.1,x.va.2.1.2.1,x.va.2.1.2.2.1,x.va.2.1.va.1,x.va.2.1.va.2.1,x.va.2.1.va.2.2.1,x.va.2.2.1)) (λx s=>(((),(),(),(),()),((s.1,s.2.1,s.2.2.1,(),()),(x.2.2.1.1,x.2.2.1.2.1,()),(x.va.1.1,x.va.1.2.1,x.va.1.2.2.1,x.va.1.va.1,(),x.va.1.va.2.2.1,()),(s.va.1,s.va.2.1,s.va.2.2.1,s.va.va.1,s.va.va.2.1,s.wc.1,()),s.wc.2,()))) (λx=> .leaf zaA (λt=>(Ex.exit 0,⟨[(0,V.ptr 100000 0),(3,V.ptr 300000 0),(4,V.ptr 300001 0),(5,V.ptr 300002 0),(20,oC false)],[(100000,zba t 300003),(300000,Cell.box 90 [oC x.2.2.1.1,oC x.2.2.1.2.1]),(300001,Cell.box 87 [iE x.va.1.1,iE x.va.1.2.1,qw x.va.1.2.2.1,qw x.va.1.va.1,V.nil 5,oC x.va.1.va.2.2.1]),(300002,Cell.box 87 [iE t.va.1,iE t.va.2.1,qw t.va.2.2.1,qw t.va.va.1,DC 5 t.va.va.2.1,oC t.wc.1]),(300003,Cell.arr false true 0 1 t.wc.2)]⟩))) (λx=>M.yZ bC x.2.2.1.1 x.2.2.1.2.1 x.va.1.1 x.va.1.2.1 x.va.1.2.2.1 x.va.1.va.1 x.va.1.va.2.2.1) [fe C.aA,fe C.nM,fe pF,fe C.mY] [] (by rintro _ _ ⟨_,_,_,_,_,_,_,_,_,_⟩ _ _<;>unfold M.yZ<;>exact zbK)
def M.wR(bC:zaa)(r' oZ:Bool)(c:ak)(c1:Int)(c2:Bool)(c3:ak)(k:Int×Int×aC×aC×Bool×ak×Bool×ak×Int×Bool×ak->Option R):=cond (aj c3) ((bC r' oZ c c1 c2 c3).bind λb=>(M.yg bC r' oZ 0 0 [] [] false (b.2.2.2.2.2.2.2.1,b.2.2.2.2.2.2.2.2.1,b.2.2.2.2.2.2.2.2.2.1,b.1,b.2.1,b.2.2.1,b.2.2.2.1,aB b.2.2.2.2.2.1,b.2.2.2.2.2.2.1,b.2.2.2.2.2.2.2.2.2.2)).bind λa=>cond (aj a.2.2.2.2.2.2.2.2.2) (k (a.2.2.2.1,a.2.2.2.2.1,a.2.2.2.2.2.1,a.2.2.2.2.2.2.1,false,a.2.2.2.2.2.2.2.1,a.2.2.2.2.2.2.2.2.1,a.1,a.2.1,a.2.2.1,a.2.2.2.2.2.2.2.2.2)) none) none
def C.aeH{bC:zaa}(pF:S.jK.ok X0 λx=>bC x.1.2.1.1 x.1.2.1.2.1 x.2.1.1 x.2.1.2.1 x.2.1.2.2.1 x.2.1.va.1):S.oU.ok X0 λx=>M.wR bC x.1.2.1.1 x.1.2.1.2.1 x.2.1.1 x.2.1.2.1 x.2.1.2.2.1 x.2.1.va.1 some:=fnS (λx=>zbJ (M.wR bC x.1.2.1.1 x.1.2.1.2.1) x.2.1) [fe pF] [F.yg pF] (by intros;unfold M.wR;exact zbK)
def M.y5(gU:zaa)(x' oO:Bool)(pX tZ:Int)(xg BI:aC)(F7:Bool)(s:ak×Int×Bool×Int×Int×aC×aC×ak×Bool×ak)(kn:ak×Int×Bool×Int×Int×aC×aC×ak×Bool×ak->Option R)(ke:ak×Int×Bool×Int×Int×aC×aC×ak×Bool×ak->Option R):Option R:=match s with
 |(v,v1,v2,Jw,NG,Rf,IL,NH,OM,QZ)=>bif !v2 then(bif aj QZ then((M.aA v v1 v2 QZ).bind λb=>(M.nM b.1).bind λe=>bif e==9 then(bif aj b.2.2.2.2 then((M.aA b.2.1 b.2.2.1 b.2.2.2.1 b.2.2.2.2).bind λd=>bif aj d.2.2.2.2 then((gU x' oO d.2.1 (i64.wrap (d.2.2.1+1)) d.2.2.2.1 d.2.2.2.2).bind λa=>(M.mY d.1 Jw NG Rf IL NH OM a.1 a.2.1 a.2.2.1 a.2.2.2.1 (aB a.2.2.2.2.2.1) a.2.2.2.2.2.2.1).bind λc=>kn (a.2.2.2.2.2.2.2.1,a.2.2.2.2.2.2.2.2.1,a.2.2.2.2.2.2.2.2.2.1,c.1,c.2.1,c.2.2.1,c.2.2.2.1,aB c.2.2.2.2.2.1,c.2.2.2.2.2.2,a.2.2.2.2.2.2.2.2.2.2)) else none) else none) else ke (b.2.1,b.2.2.1,b.2.2.2.1,Jw,NG,Rf,IL,NH,OM,b.2.2.2.2)) else none) else ke (v,v1,v2,Jw,NG,Rf,IL,NH,OM,QZ)
def M.KR gU x' oO pX tZ xg BI F7 s:=M.y5 gU x' oO pX tZ xg BI F7 s (λs=>some (Sum.inl s)) λt=>some (Sum.inr t)
def M.yh gU x' oO pX tZ xg BI F7 s:=fH (M.KR gU x' oO pX tZ xg BI F7) s
def F.yh{gU:zaa}(J3:S.oU.ok X0 λx=>gU x.1.2.1.1 x.1.2.1.2.1 x.2.1.1 x.2.1.2.1 x.2.1.2.2.1 x.2.1.va.1):LE X0 214:=le 2 (Ik zbn zbk) (λx=>(x.2.1.1,x.2.1.2.1,x.2.1.2.2.1,x.va.2.1.1,x.va.2.1.2.1,x.va.2.1.2.2.1,x.va.2.1.va.1,x.va.2.1.va.2.1,x.va.2.1.va.2.2.1,x.va.2.2.1)) (λx s=>(((),(),(),(),()),((s.1,s.2.1,s.2.2.1,(),()),(x.2.2.1.1,x.2.2.1.2.1,()),(x.va.1.1,x.va.1.2.1,x.va.1.2.2.1,x.va.1.va.1,(),x.va.1.va.2.2.1,()),(s.va.1,s.va.2.1,s.va.2.2.1,s.va.va.1,s.va.va.2.1,s.wc.1,()),s.wc.2,()))) (λx=> .leaf zaA (λt=>(Ex.exit 0,⟨[(0,V.ptr 100000 0),(3,V.ptr 300000 0),(4,V.ptr 300001 0),(5,V.ptr 300002 0),(20,oC false)],[(100000,zba t 300003),(300000,Cell.box 90 [oC x.2.2.1.1,oC x.2.2.1.2.1]),(300001,Cell.box 87 [iE x.va.1.1,iE x.va.1.2.1,qw x.va.1.2.2.1,qw x.va.1.va.1,V.nil 5,oC x.va.1.va.2.2.1]),(300002,Cell.box 87 [iE t.va.1,iE t.va.2.1,qw t.va.2.2.1,qw t.va.va.1,DC 5 t.va.va.2.1,oC t.wc.1]),(300003,Cell.arr false true 0 1 t.wc.2)]⟩))) (λx=>M.y5 gU x.2.2.1.1 x.2.2.1.2.1 x.va.1.1 x.va.1.2.1 x.va.1.2.2.1 x.va.1.va.1 x.va.1.va.2.2.1) [fe C.aA,fe C.nM,fe J3,fe C.mY] [] (by rintro _ _ ⟨_,_,_,_,_,_,_,_,_,_⟩ _ _<;>unfold M.y5<;>exact zbK)
def M.wS(gU:zaa)(r' oZ:Bool)(c:ak)(c1:Int)(c2:Bool)(c3:ak)(k:Int×Int×aC×aC×Bool×ak×Bool×ak×Int×Bool×ak->Option R):=cond (aj c3) ((gU r' oZ c c1 c2 c3).bind λb=>(M.yh gU r' oZ 0 0 [] [] false (b.2.2.2.2.2.2.2.1,b.2.2.2.2.2.2.2.2.1,b.2.2.2.2.2.2.2.2.2.1,b.1,b.2.1,b.2.2.1,b.2.2.2.1,aB b.2.2.2.2.2.1,b.2.2.2.2.2.2.1,b.2.2.2.2.2.2.2.2.2.2)).bind λa=>cond (aj a.2.2.2.2.2.2.2.2.2) (k (a.2.2.2.1,a.2.2.2.2.1,a.2.2.2.2.2.1,a.2.2.2.2.2.2.1,false,a.2.2.2.2.2.2.2.1,a.2.2.2.2.2.2.2.2.1,a.1,a.2.1,a.2.2.1,a.2.2.2.2.2.2.2.2.2)) none) none
def C.aeI{gU:zaa}(J3:S.oU.ok X0 λx=>gU x.1.2.1.1 x.1.2.1.2.1 x.2.1.1 x.2.1.2.1 x.2.1.2.2.1 x.2.1.va.1):S.jQ.ok X0 λx=>M.wS gU x.1.2.1.1 x.1.2.1.2.1 x.2.1.1 x.2.1.2.1 x.2.1.2.2.1 x.2.1.va.1 some:=fnS (λx=>zbJ (M.wS gU x.1.2.1.1 x.1.2.1.2.1) x.2.1) [fe J3] [F.yh J3] (by intros;unfold M.wS;exact zbK)
abbrev M.EP(kind:Int)(k:Bool->Option R):=cond (kind==3) (k true) (cond (kind==4) (k true) (cond (kind==6) (k true) (cond (kind==7) (k true) (cond (kind==8) (k true) (cond (kind==32) (k true) (cond (kind==68) (k true) (k false)))))))
def M.mP kind:=M.EP kind some
def C.mP:=fTa S.mP (λx=>M.EP x.1.1)
def M.y7(gV:zaa)(x' oO:Bool)(pX tZ:Int)(xg BI:aC)(F7:Bool)(s:ak×Int×Bool×Int×Int×aC×aC×ak×Bool×ak)(kn:ak×Int×Bool×Int×Int×aC×aC×ak×Bool×ak->Option R)(ke:ak×Int×Bool×Int×Int×aC×aC×ak×Bool×ak->Option R):Option R:=match s with
 |(v,v1,v2,Jw,NG,Rf,IL,NH,OM,QZ)=>bif !v2 then(bif aj QZ then((M.aA v v1 v2 QZ).bind λb=>(M.mP b.1).bind λd=>bif d then(bif aj b.2.2.2.2 then((gV x' oO b.2.1 b.2.2.1 b.2.2.2.1 b.2.2.2.2).bind λa=>(M.mY 99 Jw NG Rf IL NH OM a.1 a.2.1 a.2.2.1 a.2.2.2.1 (aB a.2.2.2.2.2.1) a.2.2.2.2.2.2.1).bind λc=>kn (a.2.2.2.2.2.2.2.1,a.2.2.2.2.2.2.2.2.1,a.2.2.2.2.2.2.2.2.2.1,c.1,c.2.1,c.2.2.1,c.2.2.2.1,aB c.2.2.2.2.2.1,c.2.2.2.2.2.2,a.2.2.2.2.2.2.2.2.2.2)) else none) else ke (b.2.1,b.2.2.1,b.2.2.2.1,Jw,NG,Rf,IL,NH,OM,b.2.2.2.2)) else none) else ke (v,v1,v2,Jw,NG,Rf,IL,NH,OM,QZ)
def M.KT gV x' oO pX tZ xg BI F7 s:=M.y7 gV x' oO pX tZ xg BI F7 s (λs=>some (Sum.inl s)) λt=>some (Sum.inr t)
def M.yj gV x' oO pX tZ xg BI F7 s:=fH (M.KT gV x' oO pX tZ xg BI F7) s
def F.yj{gV:zaa}(J4:S.jQ.ok X0 λx=>gV x.1.2.1.1 x.1.2.1.2.1 x.2.1.1 x.2.1.2.1 x.2.1.2.2.1 x.2.1.va.1):LE X0 213:=le 2 (Ik zbn zbk) (λx=>(x.2.1.1,x.2.1.2.1,x.2.1.2.2.1,x.va.2.1.1,x.va.2.1.2.1,x.va.2.1.2.2.1,x.va.2.1.va.1,x.va.2.1.va.2.1,x.va.2.1.va.2.2.1,x.va.2.2.1)) (λx s=>(((),(),(),(),()),((s.1,s.2.1,s.2.2.1,(),()),(x.2.2.1.1,x.2.2.1.2.1,()),(x.va.1.1,x.va.1.2.1,x.va.1.2.2.1,x.va.1.va.1,(),x.va.1.va.2.2.1,()),(s.va.1,s.va.2.1,s.va.2.2.1,s.va.va.1,s.va.va.2.1,s.wc.1,()),s.wc.2,()))) (λx=> .leaf zaA (λt=>(Ex.exit 0,⟨[(0,V.ptr 100000 0),(3,V.ptr 300000 0),(4,V.ptr 300001 0),(5,V.ptr 300002 0),(18,oC false)],[(100000,zba t 300003),(300000,Cell.box 90 [oC x.2.2.1.1,oC x.2.2.1.2.1]),(300001,Cell.box 87 [iE x.va.1.1,iE x.va.1.2.1,qw x.va.1.2.2.1,qw x.va.1.va.1,V.nil 5,oC x.va.1.va.2.2.1]),(300002,Cell.box 87 [iE t.va.1,iE t.va.2.1,qw t.va.2.2.1,qw t.va.va.1,DC 5 t.va.va.2.1,oC t.wc.1]),(300003,Cell.arr false true 0 1 t.wc.2)]⟩))) (λx=>M.y7 gV x.2.2.1.1 x.2.2.1.2.1 x.va.1.1 x.va.1.2.1 x.va.1.2.2.1 x.va.1.va.1 x.va.1.va.2.2.1) [fe C.aA,fe C.mP,fe J4,fe C.mY] [] (by rintro _ _ ⟨_,_,_,_,_,_,_,_,_,_⟩ _ _<;>unfold M.y7<;>exact zbK)
def M.wU(gV:zaa)(r' oZ:Bool)(c:ak)(c1:Int)(c2:Bool)(c3:ak)(k:Int×Int×aC×aC×Bool×ak×Bool×ak×Int×Bool×ak->Option R):=cond (aj c3) ((gV r' oZ c c1 c2 c3).bind λb=>(M.yj gV r' oZ 0 0 [] [] false (b.2.2.2.2.2.2.2.1,b.2.2.2.2.2.2.2.2.1,b.2.2.2.2.2.2.2.2.2.1,b.1,b.2.1,b.2.2.1,b.2.2.2.1,aB b.2.2.2.2.2.1,b.2.2.2.2.2.2.1,b.2.2.2.2.2.2.2.2.2.2)).bind λa=>cond (aj a.2.2.2.2.2.2.2.2.2) (k (a.2.2.2.1,a.2.2.2.2.1,a.2.2.2.2.2.1,a.2.2.2.2.2.2.1,false,a.2.2.2.2.2.2.2.1,a.2.2.2.2.2.2.2.2.1,a.1,a.2.1,a.2.2.1,a.2.2.2.2.2.2.2.2.2)) none) none
def C.aeJ{gV:zaa}(J4:S.jQ.ok X0 λx=>gV x.1.2.1.1 x.1.2.1.2.1 x.2.1.1 x.2.1.2.1 x.2.1.2.2.1 x.2.1.va.1):S.qV.ok X0 λx=>M.wU gV x.1.2.1.1 x.1.2.1.2.1 x.2.1.1 x.2.1.2.1 x.2.1.2.2.1 x.2.1.va.1 some:=fnS (λx=>zbJ (M.wU gV x.1.2.1.1 x.1.2.1.2.1) x.2.1) [fe J4] [F.yj J4] (by intros;unfold M.wU;exact zbK)
abbrev M.wV(Yg:Int×ak×Int×Bool×ak)(nN:zaa)(r' oZ:Bool)(xA:Int×Int×aC×aC×Bool×ak×Bool×ak×Int×Bool×ak)(k:Int×Int×aC×aC×Bool×ak×Bool×ak×Int×Bool×ak->Option R):=cond (aj Yg.2.2.2.2) ((M.aA Yg.2.1 Yg.2.2.1 Yg.2.2.2.1 Yg.2.2.2.2).bind λb=>cond (aj b.2.2.2.2) ((nN r' oZ b.2.1 (i64.wrap (b.2.2.1+1)) b.2.2.2.1 b.2.2.2.2).bind λa=>(M.mY b.1 xA.1 xA.2.1 xA.2.2.1 xA.2.2.2.1 (aB xA.2.2.2.2.2.1) xA.2.2.2.2.2.2.1 a.1 a.2.1 a.2.2.1 a.2.2.2.1 (aB a.2.2.2.2.2.1) a.2.2.2.2.2.2.1).bind λc=>cond (aj a.2.2.2.2.2.2.2.2.2.2) (k (c.1,c.2.1,c.2.2.1,c.2.2.2.1,false,aB c.2.2.2.2.2.1,c.2.2.2.2.2.2,a.2.2.2.2.2.2.2)) none) none) none
def M.pU(nN:zaa)(r' oZ:Bool)(c:ak)(c1:Int)(c2:Bool)(c3:ak)(k:Int×Int×aC×aC×Bool×ak×Bool×ak×Int×Bool×ak->Option R):=cond (aj c3) ((nN r' oZ c c1 c2 c3).bind λa=>cond a.2.2.2.2.2.2.2.2.2.1 (cond (aj a.2.2.2.2.2.2.2.2.2.2) (k (a.1,a.2.1,a.2.2.1,a.2.2.2.1,false,aB a.2.2.2.2.2.1,a.2.2.2.2.2.2)) none) (cond (aj a.2.2.2.2.2.2.2.2.2.2) ((M.aA a.2.2.2.2.2.2.2.1 a.2.2.2.2.2.2.2.2.1 a.2.2.2.2.2.2.2.2.2.1 a.2.2.2.2.2.2.2.2.2.2).bind λb=>(M.nM b.1).bind λe=>cond (e !=7) (cond (aj b.2.2.2.2) (k (a.1,a.2.1,a.2.2.1,a.2.2.2.1,false,aB a.2.2.2.2.2.1,a.2.2.2.2.2.2.1,b.2)) none) (cond oZ (cond (aj b.2.2.2.2) ((M.aA b.2.1 b.2.2.1 b.2.2.2.1 b.2.2.2.2).bind λd=>cond (d.1==62) (cond (aj d.2.2.2.2) (k (a.1,a.2.1,a.2.2.1,a.2.2.2.1,false,aB a.2.2.2.2.2.1,a.2.2.2.2.2.2.1,d.2)) none) (M.wV d nN r' oZ a k)) none) (M.wV b nN r' oZ a k))) none)) none
def C.YZ{nN:zaa}(afx:S.qV.ok X0 λx=>nN x.1.2.1.1 x.1.2.1.2.1 x.2.1.1 x.2.1.2.1 x.2.1.2.2.1 x.2.1.va.1):S.lI.ok X0 λx=>M.pU nN x.1.2.1.1 x.1.2.1.2.1 x.2.1.1 x.2.1.2.1 x.2.1.2.2.1 x.2.1.va.1 some:=fnS (λx=>zbJ (M.pU nN x.1.2.1.1 x.1.2.1.2.1) x.2.1) [fe afx,fe C.aA,fe C.nM,fe C.mY] [] (by intros;unfold M.pU M.wV;exact zbK)
abbrev M.y8(Yh:Int×ak×Int×Bool×ak)(jM:zaa)(r' oZ:Bool)(BJ:Int×Int×aC×aC×Bool×ak×Bool×ak×Int×Bool×ak)(k:Int×Int×aC×aC×Bool×ak×Bool×ak×Int×Bool×ak->Option R):=cond (aj Yh.2.2.2.2) ((M.aA Yh.2.1 Yh.2.2.1 Yh.2.2.2.1 Yh.2.2.2.2).bind λb=>cond (aj b.2.2.2.2) ((jM r' oZ b.2.1 (i64.wrap (b.2.2.1+1)) b.2.2.2.1 b.2.2.2.2).bind λa=>(M.mY b.1 BJ.1 BJ.2.1 BJ.2.2.1 BJ.2.2.2.1 (aB BJ.2.2.2.2.2.1) BJ.2.2.2.2.2.2.1 a.1 a.2.1 a.2.2.1 a.2.2.2.1 (aB a.2.2.2.2.2.1) a.2.2.2.2.2.2.1).bind λc=>cond (aj a.2.2.2.2.2.2.2.2.2.2) (k (c.1,c.2.1,c.2.2.1,c.2.2.2.1,false,aB c.2.2.2.2.2.1,c.2.2.2.2.2.2,a.2.2.2.2.2.2.2)) none) none) none
def M.rW(jM:zaa)(r' oZ:Bool)(c:ak)(c1:Int)(c2:Bool)(c3:ak)(k:Int×Int×aC×aC×Bool×ak×Bool×ak×Int×Bool×ak->Option R):=cond (aj c3) ((jM r' oZ c c1 c2 c3).bind λa=>cond a.2.2.2.2.2.2.2.2.2.1 (cond (aj a.2.2.2.2.2.2.2.2.2.2) (k (a.1,a.2.1,a.2.2.1,a.2.2.2.1,false,aB a.2.2.2.2.2.1,a.2.2.2.2.2.2)) none) (cond (aj a.2.2.2.2.2.2.2.2.2.2) ((M.aA a.2.2.2.2.2.2.2.1 a.2.2.2.2.2.2.2.2.1 a.2.2.2.2.2.2.2.2.2.1 a.2.2.2.2.2.2.2.2.2.2).bind λb=>cond (b.1 !=67) (cond (aj b.2.2.2.2) ((M.aA b.2.1 b.2.2.1 b.2.2.2.1 b.2.2.2.2).bind λd=>cond (d.1 !=46) (cond (aj d.2.2.2.2) (k (a.1,a.2.1,a.2.2.1,a.2.2.2.1,false,aB a.2.2.2.2.2.1,a.2.2.2.2.2.2.1,d.2)) none) (M.y8 d jM r' oZ a k)) none) (M.y8 b jM r' oZ a k)) none)) none
def C.aaT{jM:zaa}(ZN:S.lI.ok X0 λx=>jM x.1.2.1.1 x.1.2.1.2.1 x.2.1.1 x.2.1.2.1 x.2.1.2.2.1 x.2.1.va.1):S.mG.ok X0 λx=>M.rW jM x.1.2.1.1 x.1.2.1.2.1 x.2.1.1 x.2.1.2.1 x.2.1.2.2.1 x.2.1.va.1 some:=fnS (λx=>zbJ (M.rW jM x.1.2.1.1 x.1.2.1.2.1) x.2.1) [fe ZN,fe C.aA,fe C.mY] [] (by intros;unfold M.rW M.y8;exact zbK)
def M.lK(aT:zag)(cO:zaa)(s:zaO⊕zaB⊕zaC)(kn:zaO⊕zaB⊕zaC->Option R)(ke:zaS⊕zaB⊕zaC->Option R):Option R:=match s with
 | .inl (group,v45,v,v1,v2,x',oO,pX,tZ,xg,BI,F7,Jw,NG,Rf,IL,NH,OM)=>bif !v2 then(bif aj OM then((M.aA v v1 v2 OM).bind λa=>bif a.1==24 then(bif !x' then(bif Nat.ble 1 group.length then(bif aj a.2.2.2.2 then((M.bF a.2.1 (i64.wrap (a.2.2.1+1)) a.2.2.2.1 a.2.2.2.2).bind λe=>kn (.inr (.inl (e.2.1,e.2.2.1,e.2.2.2.1,x',oO,pX,tZ,xg,BI,F7,13,0,e.1,[],group,false,e.2.2.2.2)))) else none) else none) else ke (.inl (group,a.2.1,a.2.2.1,a.2.2.2.1,x',oO,pX,tZ,xg,BI,F7,Jw,NG,Rf,IL,NH,a.2.2.2.2))) else ke (.inl (group,a.2.1,a.2.2.1,a.2.2.2.1,x',oO,pX,tZ,xg,BI,F7,Jw,NG,Rf,IL,NH,a.2.2.2.2))) else none) else(ke (.inl (group,v,v1,v2,x',oO,pX,tZ,xg,BI,F7,Jw,NG,Rf,IL,NH,OM)))
 | .inr (.inl (v,v1,v2,x',oO,pX,tZ,xg,BI,F7,Jw,NG,Rf,IL,NH,OM,QZ))=>bif !v2 then(bif aj QZ then((M.aA v v1 v2 QZ).bind λc=>bif c.1==24 then(bif !x' then(bif aj c.2.2.2.2 then((M.bF c.2.1 (i64.wrap (c.2.2.1+1)) c.2.2.2.1 c.2.2.2.2).bind λd=>kn (.inr (.inr (d.2.1,d.2.2.1,d.2.2.2.1,x',oO,pX,tZ,xg,BI,F7,13,0,d.1,[],false,d.2.2.2.2,[[D.int .i64 Jw,D.int .i64 NG,D.str Rf,D.str IL,D.sl false 5 NH]])))) else none) else ke (.inr (.inl (c.2.1,c.2.2.1,c.2.2.2.1,x',oO,pX,tZ,xg,BI,F7,Jw,NG,Rf,IL,NH,OM,c.2.2.2.2)))) else ke (.inr (.inl (c.2.1,c.2.2.1,c.2.2.2.1,x',oO,pX,tZ,xg,BI,F7,Jw,NG,Rf,IL,NH,OM,c.2.2.2.2)))) else none) else(ke (.inr (.inl (v,v1,v2,x',oO,pX,tZ,xg,BI,F7,Jw,NG,Rf,IL,NH,OM,QZ))))
 | .inr (.inr (v,v1,v2,x',oO,pX,tZ,xg,BI,F7,Jw,NG,Rf,IL,NH,OM,QZ))=>bif !v2 then(bif aj OM then((M.aA v v1 v2 OM).bind λb=>bif b.1==24 then(bif !x' then(bif aj b.2.2.2.2 then((M.bF b.2.1 (i64.wrap (b.2.2.1+1)) b.2.2.2.1 b.2.2.2.2).bind λf=>kn (.inr (.inr (f.2.1,f.2.2.1,f.2.2.2.1,x',oO,pX,tZ,xg,BI,F7,13,0,f.1,[],false,f.2.2.2.2,[[D.int .i64 Jw,D.int .i64 NG,D.str Rf,D.str IL,D.sl true 5 QZ]])))) else none) else ke (.inr (.inr (b.2.1,b.2.2.1,b.2.2.2.1,x',oO,pX,tZ,xg,BI,F7,Jw,NG,Rf,IL,NH,b.2.2.2.2,QZ)))) else ke (.inr (.inr (b.2.1,b.2.2.1,b.2.2.2.1,x',oO,pX,tZ,xg,BI,F7,Jw,NG,Rf,IL,NH,b.2.2.2.2,QZ)))) else none) else ke (.inr (.inr (v,v1,v2,x',oO,pX,tZ,xg,BI,F7,Jw,NG,Rf,IL,NH,OM,QZ)))
def M.gW aT cO s:=M.lK aT cO s (λs=>some (Sum.inl s)) λt=>some (Sum.inr t)
def M.jc aT cO s:=fH (M.gW aT cO) s
def F.jc{aT:zag}{cO:zaa}(uF:S.jg.ok X0 λx=>aT x.1.2.1 x.2.1.1 x.2.1.2.1 x.2.1.2.2.1 x.2.1.va.1)(Nh:S.mG.ok X0 λx=>cO x.1.2.1.1 x.1.2.1.2.1 x.2.1.1 x.2.1.2.1 x.2.1.2.2.1 x.2.1.va.1):LE X0 195:=le 8 (pOr (Ik [dA 0 (pP 100000 0),dA 3 (pP 300000 0),dA 4 (pP 300001 0),dA 5 (pP 300002 0),dA 6 (pL false 5),dA 45 pB] [dA 100000 zby,dA 300000 (cB 90 [pB,pB]),dA 300001 (cB 87 [pI,pI,pS,pS,Ve 5,pB]),dA 300002 (cB 87 [pI,pI,pS,pS,Ve 5,pB]),dA 300003 zbl]) (pOr (Ik zbB zbk) (Ik zbB [dA 100000 zby,dA 300000 (cB 90 [pB,pB]),dA 300001 (cB 87 [pI,pI,pS,pS,Ve 5,pB]),dA 300002 (cB 87 [pI,pI,pS,pS,pO 300004 0,pB]),dA 300003 zbl,dA 300004 zbr]))) (σ:=zaO⊕zaB⊕zaC) (λx=>(match x with| .inl x=> .inl ((x.1.va.2.1,x.1.va.2.2.1,x.2.1.1,x.2.1.2.1,x.2.1.2.2.1,x.2.2.1.1,x.2.2.1.2.1,x.va.1.1,x.va.1.2.1,x.va.1.2.2.1,x.va.1.va.1,x.va.1.va.2.2.1,x.va.2.1.1,x.va.2.1.2.1,x.va.2.1.2.2.1,x.va.2.1.va.1,x.va.2.1.va.2.2.1,x.va.2.2.1))| .inr x=>(match x with| .inl x=> .inr (.inl ((x.2.1.1,x.2.1.2.1,x.2.1.2.2.1,x.2.2.1.1,x.2.2.1.2.1,x.va.1.1,x.va.1.2.1,x.va.1.2.2.1,x.va.1.va.1,x.va.1.va.2.2.1,x.va.2.1.1,x.va.2.1.2.1,x.va.2.1.2.2.1,x.va.2.1.va.1,x.va.2.1.va.2.1,x.va.2.1.va.2.2.1,x.va.2.2.1)))| .inr x=> .inr (.inr ((x.2.1.1,x.2.1.2.1,x.2.1.2.2.1,x.2.2.1.1,x.2.2.1.2.1,x.va.1.1,x.va.1.2.1,x.va.1.2.2.1,x.va.1.va.1,x.va.1.va.2.2.1,x.va.2.1.1,x.va.2.1.2.1,x.va.2.1.2.2.1,x.va.2.1.va.1,x.va.2.1.va.2.2.1,x.va.2.2.1,x.va.va.1)))))) (λx s=>(match s with| .inl s=> .inl ((((),(),(),(),s.1,s.2.1,()),((s.2.2.1,s.va.1,s.va.2.1,(),()),(s.va.2.2.1,s.va.va.1,()),(s.va.va.2.1,s.wc.1,s.wc.2.1,s.wc.2.2.1,(),s.wc.va.1,()),(s.wc.va.2.1,s.wc.va.2.2.1,s.wc.va.va.1,s.wc.va.va.2.1,(),s.wc.wc.1,()),s.wc.wc.2,())))| .inr s=>(match s with| .inl s=> .inr (.inl ((((),(),(),(),(),()),((s.1,s.2.1,s.2.2.1,(),()),(s.va.1,s.va.2.1,()),(s.va.2.2.1,s.va.va.1,s.va.va.2.1,s.wc.1,(),s.wc.2.1,()),(s.wc.2.2.1,s.wc.va.1,s.wc.va.2.1,s.wc.va.2.2.1,s.wc.va.va.1,s.wc.va.va.2.1,()),s.wc.wc,()))))| .inr s=> .inr (.inr ((((),(),(),(),(),()),((s.1,s.2.1,s.2.2.1,(),()),(s.va.1,s.va.2.1,()),(s.va.2.2.1,s.va.va.1,s.va.va.2.1,s.wc.1,(),s.wc.2.1,()),(s.wc.2.2.1,s.wc.va.1,s.wc.va.2.1,s.wc.va.2.2.1,(),s.wc.va.va.1,()),s.wc.va.va.2.1,s.wc.wc,()))))))) (λx=> .sum (.leaf zaS (λt=>(Ex.exit 0,⟨[(0,V.ptr 100000 0),(3,V.ptr 300000 0),(4,V.ptr 300001 0),(5,V.ptr 300002 0),(6,DC 5 t.1),(65,oC false)],[(100000,Cell.box 65 [DC 3 t.2.1,iE t.2.2.1,oC t.va.1,V.own 300003 0]),(300000,Cell.box 90 [oC t.va.2.1,oC t.va.2.2.1]),(300001,Cell.box 87 [iE t.va.va.1,iE t.va.va.2.1,qw t.wc.1,qw t.wc.2.1,V.nil 5,oC t.wc.2.2.1]),(300002,Cell.box 87 [iE t.wc.va.1,iE t.wc.va.2.1,qw t.wc.va.2.2.1,qw t.wc.va.va.1,V.nil 5,oC t.wc.va.va.2.1]),(300003,Cell.arr false true 0 1 t.wc.wc)]⟩))) (.sum (.leaf zaB (λt=>(Ex.exit 0,⟨[(0,V.ptr 100000 0),(3,V.ptr 300000 0),(4,V.ptr 300001 0),(5,V.ptr 300002 0),(6,V.nil 5),(65,oC false)],[(100000,zba t 300003),(300000,Cell.box 90 [oC t.va.1,oC t.va.2.1]),(300001,Cell.box 87 [iE t.va.2.2.1,iE t.va.va.1,qw t.va.va.2.1,qw t.wc.1,V.nil 5,oC t.wc.2.1]),(300002,Cell.box 87 [iE t.wc.2.2.1,iE t.wc.va.1,qw t.wc.va.2.1,qw t.wc.va.2.2.1,DC 5 t.wc.va.va.1,oC t.wc.va.va.2.1]),(300003,Cell.arr false true 0 1 t.wc.wc)]⟩))) (.leaf zaC (λt=>(Ex.exit 0,⟨[(0,V.ptr 100000 0),(3,V.ptr 300000 0),(4,V.ptr 300001 0),(5,V.ptr 300002 0),(6,V.nil 5),(65,oC false)],[(100000,zba t 300003),(300000,Cell.box 90 [oC t.va.1,oC t.va.2.1]),(300001,Cell.box 87 [iE t.va.2.2.1,iE t.va.va.1,qw t.va.va.2.1,qw t.wc.1,V.nil 5,oC t.wc.2.1]),(300002,Cell.box 87 [iE t.wc.2.2.1,iE t.wc.va.1,qw t.wc.va.2.1,qw t.wc.va.2.2.1,V.own 300004 0,oC t.wc.va.va.1]),(300003,Cell.arr false true 0 1 t.wc.va.va.2.1),(300004,Cell.arr false false 0 5 t.wc.wc)]⟩))))) (λx=>M.lK aT cO) [fe C.aA,fe C.bF] [] (by rintro _ _ (⟨_,_,_,_,_,_,_,_,_,_,_,_,_,_,_,_,_,_⟩|⟨_,_,_,_,_,_,_,_,_,_,_,_,_,_,_,_,_⟩|⟨_,_,_,_,_,_,_,_,_,_,_,_,_,_,_,_,_⟩) _ _<;>unfold M.lK<;>exact zbK) (hE:=by intro _ _ s _;rcases s with s|s|s<;>kernel_rfl)
abbrev M.ER(Zt:ak×ak×Int×Bool×Bool×Bool×Int×Int×aC×aC×Bool×Int×Int×aC×aC×Bool×ak)(k:Int×Int×aC×aC×Bool×ak×Bool×ak×Int×Bool×ak->Option R):=cond (aj Zt.2.2.2.2.2.2.2.2.2.2.2.2.2.2.2.2) (k (Zt.2.2.2.2.2.2.2.2.2.2.2.1,Zt.2.2.2.2.2.2.2.2.2.2.2.2.1,Zt.2.2.2.2.2.2.2.2.2.2.2.2.2.1,Zt.2.2.2.2.2.2.2.2.2.2.2.2.2.2.1,true,[],Zt.2.2.2.2.2.2.2.2.2.2.2.2.2.2.2.1,Zt.2.1,Zt.2.2.1,Zt.2.2.2.1,Zt.2.2.2.2.2.2.2.2.2.2.2.2.2.2.2.2)) none
abbrev M.ES(Yi:ak×Int×Bool×Bool×Bool×Int×Int×aC×aC×Bool×Int×Int×aC×aC×Bool×ak×ak)(k:Int×Int×aC×aC×Bool×ak×Bool×ak×Int×Bool×ak->Option R):=cond (aj Yi.2.2.2.2.2.2.2.2.2.2.2.2.2.2.2.1) (k (Yi.2.2.2.2.2.2.2.2.2.2.1,Yi.2.2.2.2.2.2.2.2.2.2.2.1,Yi.2.2.2.2.2.2.2.2.2.2.2.2.1,Yi.2.2.2.2.2.2.2.2.2.2.2.2.2.1,true,Yi.2.2.2.2.2.2.2.2.2.2.2.2.2.2.2.2,Yi.2.2.2.2.2.2.2.2.2.2.2.2.2.2.1,Yi.1,Yi.2.1,Yi.2.2.1,Yi.2.2.2.2.2.2.2.2.2.2.2.2.2.2.2.1)) none
abbrev M.ET(Yj:ak×Int×Bool×Bool×Bool×Int×Int×aC×aC×Bool×Int×Int×aC×aC×ak×Bool×ak)(k:Int×Int×aC×aC×Bool×ak×Bool×ak×Int×Bool×ak->Option R):=cond (aj Yj.2.2.2.2.2.2.2.2.2.2.2.2.2.2.2.2) (k (Yj.2.2.2.2.2.2.2.2.2.2.1,Yj.2.2.2.2.2.2.2.2.2.2.2.1,Yj.2.2.2.2.2.2.2.2.2.2.2.2.1,Yj.2.2.2.2.2.2.2.2.2.2.2.2.2.1,false,Yj.2.2.2.2.2.2.2.2.2.2.2.2.2.2.1,Yj.2.2.2.2.2.2.2.2.2.2.2.2.2.2.2.1,Yj.1,Yj.2.1,Yj.2.2.1,Yj.2.2.2.2.2.2.2.2.2.2.2.2.2.2.2.2)) none
abbrev M.wW(aT:zag)(cO:zaa)(Zu:Int×Int×aC×aC×Bool×ak×Bool×ak×Int×Bool×ak)(r' oZ:Bool)(k:Int×Int×aC×aC×Bool×ak×Bool×ak×Int×Bool×ak->Option R):=(M.jc aT cO (.inr (.inl (Zu.2.2.2.2.2.2.2.1,Zu.2.2.2.2.2.2.2.2.1,Zu.2.2.2.2.2.2.2.2.2.1,r',oZ,0,0,[],[],false,Zu.1,Zu.2.1,Zu.2.2.1,Zu.2.2.2.1,aB Zu.2.2.2.2.2.1,Zu.2.2.2.2.2.2.1,Zu.2.2.2.2.2.2.2.2.2.2)))).bind λf=>jX f (λc=>cond (aj c.2.2.2.2.2.2.2.2.2.2.2.2.2.2.2.2) (k (c.2.2.2.2.2.2.2.2.2.2.2.1,c.2.2.2.2.2.2.2.2.2.2.2.2.1,c.2.2.2.2.2.2.2.2.2.2.2.2.2.1,c.2.2.2.2.2.2.2.2.2.2.2.2.2.2.1,true,[],c.2.2.2.2.2.2.2.2.2.2.2.2.2.2.2.1,c.2.1,c.2.2.1,c.2.2.2.1,c.2.2.2.2.2.2.2.2.2.2.2.2.2.2.2.2)) none) λe=>jX e (λa=>cond (aj a.2.2.2.2.2.2.2.2.2.2.2.2.2.2.2.2) (k (a.2.2.2.2.2.2.2.2.2.2.1,a.2.2.2.2.2.2.2.2.2.2.2.1,a.2.2.2.2.2.2.2.2.2.2.2.2.1,a.2.2.2.2.2.2.2.2.2.2.2.2.2.1,false,a.2.2.2.2.2.2.2.2.2.2.2.2.2.2.1,a.2.2.2.2.2.2.2.2.2.2.2.2.2.2.2.1,a.1,a.2.1,a.2.2.1,a.2.2.2.2.2.2.2.2.2.2.2.2.2.2.2.2)) none) λd=>letE d λb=>cond (aj b.2.2.2.2.2.2.2.2.2.2.2.2.2.2.2.1) (k (b.2.2.2.2.2.2.2.2.2.2.1,b.2.2.2.2.2.2.2.2.2.2.2.1,b.2.2.2.2.2.2.2.2.2.2.2.2.1,b.2.2.2.2.2.2.2.2.2.2.2.2.2.1,true,b.2.2.2.2.2.2.2.2.2.2.2.2.2.2.2.2,b.2.2.2.2.2.2.2.2.2.2.2.2.2.2.1,b.1,b.2.1,b.2.2.1,b.2.2.2.2.2.2.2.2.2.2.2.2.2.2.2.1)) none
def M.yt(aT:zag)(cO:zaa)(r' oZ:Bool)(c:ak)(c1:Int)(c2:Bool)(c3:ak)(k:Int×Int×aC×aC×Bool×ak×Bool×ak×Int×Bool×ak->Option R):=cond (!c2) (cond (aj c3) ((M.aA c c1 c2 c3).bind λe=>cond (e.1==32) (cond (!r') (cond (aj e.2.2.2.2) ((M.nC e.2.1 e.2.2.1 e.2.2.2.1 e.2.2.2.2).bind λb=>cond b.1 (cond (aj b.2.2.2.2) ((aT 33 b.2.1 (i64.wrap (b.2.2.1+1)) b.2.2.2.1 b.2.2.2.2).bind λf=>cond (!f.2.2.2.2.1) (cond (aj f.2.2.2.2.2) ((M.aA f.2.2.1 f.2.2.2.1 f.2.2.2.2.1 f.2.2.2.2.2).bind λd=>cond (d.1 !=24) (cond (aj d.2.2.2.2) ((M.jB d.2.1 d.2.2.1 d.2.2.2.1 d.2.2.2.2).bind λa=>cond (aj a.2.2.2.2.2.2.2.2.2.2) (k (a.1,a.2.1,a.2.2.1,a.2.2.2.1,false,aB a.2.2.2.2.2.1,a.2.2.2.2.2.2)) none) none) ((M.jc aT cO (.inl (aB f.2.1,false,d.2.1,d.2.2.1,d.2.2.2.1,r',oZ,0,0,[],[],false,0,0,[],[],false,d.2.2.2.2))).bind λj=>jX j (λu=>M.ER u k) λl=>jX l (λw=>M.ET w k) λh=>letE h λv=>M.ES v k)) none) ((M.jc aT cO (.inl (aB f.2.1,false,f.2.2.1,f.2.2.2.1,f.2.2.2.2.1,r',oZ,0,0,[],[],false,0,0,[],[],false,f.2.2.2.2.2))).bind λm=>jX m (λo=>M.ER o k) λg=>jX g (λr=>M.ET r k) λp=>letE p λq=>M.ES q k)) none) (cond (aj b.2.2.2.2) ((cO r' oZ b.2.1 b.2.2.1 b.2.2.2.1 b.2.2.2.2).bind λt=>M.wW aT cO t r' oZ k) none)) none) (cond (aj e.2.2.2.2) ((cO r' oZ e.2.1 e.2.2.1 e.2.2.2.1 e.2.2.2.2).bind λs=>M.wW aT cO s r' oZ k) none)) (cond (aj e.2.2.2.2) ((cO r' oZ e.2.1 e.2.2.1 e.2.2.2.1 e.2.2.2.2).bind λi=>M.wW aT cO i r' oZ k) none)) none) (cond (aj c3) ((cO r' oZ c c1 c2 c3).bind λn=>M.wW aT cO n r' oZ k) none)
def C.afy{aT:zag}{cO:zaa}(uF:S.jg.ok X0 λx=>aT x.1.2.1 x.2.1.1 x.2.1.2.1 x.2.1.2.2.1 x.2.1.va.1)(Nh:S.mG.ok X0 λx=>cO x.1.2.1.1 x.1.2.1.2.1 x.2.1.1 x.2.1.2.1 x.2.1.2.2.1 x.2.1.va.1):S.qI.ok X0 λx=>M.yt aT cO x.1.2.1.1 x.1.2.1.2.1 x.2.1.1 x.2.1.2.1 x.2.1.2.2.1 x.2.1.va.1 some:=fnS (λx=>zbJ (M.yt aT cO x.1.2.1.1 x.1.2.1.2.1) x.2.1) [fe C.aA,fe C.nC,fe uF,fe C.jB,fe Nh] [F.jc uF Nh] (by intros;unfold M.yt M.wW M.ET M.ES M.ER;exact zbK)
def M.y9(iH:zaa)(x' oO:Bool)(pX tZ:Int)(xg BI:aC)(F7:Bool)(s:ak×Int×Bool×Int×Int×aC×aC×ak×Bool×ak)(kn:ak×Int×Bool×Int×Int×aC×aC×ak×Bool×ak->Option R)(ke:ak×Int×Bool×Int×Int×aC×aC×ak×Bool×ak->Option R):Option R:=match s with
 |(v,v1,v2,Jw,NG,Rf,IL,NH,OM,QZ)=>bif !v2 then(bif aj QZ then((M.aA v v1 v2 QZ).bind λa=>bif a.1==45 then(bif aj a.2.2.2.2 then((M.aQ a.2.1 (i64.wrap (a.2.2.1+1)) a.2.2.2.1 a.2.2.2.2).bind λd=>bif aj d.2.2.2 then((iH x' oO d.1 d.2.1 d.2.2.1 d.2.2.2).bind λb=>(M.mY 45 Jw NG Rf IL NH OM b.1 b.2.1 b.2.2.1 b.2.2.2.1 (aB b.2.2.2.2.2.1) b.2.2.2.2.2.2.1).bind λc=>kn (b.2.2.2.2.2.2.2.1,b.2.2.2.2.2.2.2.2.1,b.2.2.2.2.2.2.2.2.2.1,c.1,c.2.1,c.2.2.1,c.2.2.2.1,aB c.2.2.2.2.2.1,c.2.2.2.2.2.2,b.2.2.2.2.2.2.2.2.2.2)) else none) else none) else ke (a.2.1,a.2.2.1,a.2.2.2.1,Jw,NG,Rf,IL,NH,OM,a.2.2.2.2)) else none) else ke (v,v1,v2,Jw,NG,Rf,IL,NH,OM,QZ)
def M.KU iH x' oO pX tZ xg BI F7 s:=M.y9 iH x' oO pX tZ xg BI F7 s (λs=>some (Sum.inl s)) λt=>some (Sum.inr t)
def M.yu iH x' oO pX tZ xg BI F7 s:=fH (M.KU iH x' oO pX tZ xg BI F7) s
def F.yu{iH:zaa}(MH:S.qI.ok X0 λx=>iH x.1.2.1.1 x.1.2.1.2.1 x.2.1.1 x.2.1.2.1 x.2.1.2.2.1 x.2.1.va.1):LE X0 183:=le 2 (Ik zbn zbk) (λx=>(x.2.1.1,x.2.1.2.1,x.2.1.2.2.1,x.va.2.1.1,x.va.2.1.2.1,x.va.2.1.2.2.1,x.va.2.1.va.1,x.va.2.1.va.2.1,x.va.2.1.va.2.2.1,x.va.2.2.1)) (λx s=>(((),(),(),(),()),((s.1,s.2.1,s.2.2.1,(),()),(x.2.2.1.1,x.2.2.1.2.1,()),(x.va.1.1,x.va.1.2.1,x.va.1.2.2.1,x.va.1.va.1,(),x.va.1.va.2.2.1,()),(s.va.1,s.va.2.1,s.va.2.2.1,s.va.va.1,s.va.va.2.1,s.wc.1,()),s.wc.2,()))) (λx=> .leaf zaA (λt=>(Ex.exit 0,⟨[(0,V.ptr 100000 0),(3,V.ptr 300000 0),(4,V.ptr 300001 0),(5,V.ptr 300002 0),(18,oC false)],[(100000,zba t 300003),(300000,Cell.box 90 [oC x.2.2.1.1,oC x.2.2.1.2.1]),(300001,Cell.box 87 [iE x.va.1.1,iE x.va.1.2.1,qw x.va.1.2.2.1,qw x.va.1.va.1,V.nil 5,oC x.va.1.va.2.2.1]),(300002,Cell.box 87 [iE t.va.1,iE t.va.2.1,qw t.va.2.2.1,qw t.va.va.1,DC 5 t.va.va.2.1,oC t.wc.1]),(300003,Cell.arr false true 0 1 t.wc.2)]⟩))) (λx=>M.y9 iH x.2.2.1.1 x.2.2.1.2.1 x.va.1.1 x.va.1.2.1 x.va.1.2.2.1 x.va.1.va.1 x.va.1.va.2.2.1) [fe C.aA,fe C.aQ,fe MH,fe C.mY] [] (by rintro _ _ ⟨_,_,_,_,_,_,_,_,_,_⟩ _ _<;>unfold M.y9<;>exact zbK)
def M.wX(iH:zaa)(r' oZ:Bool)(c:ak)(c1:Int)(c2:Bool)(c3:ak)(k:Int×Int×aC×aC×Bool×ak×Bool×ak×Int×Bool×ak->Option R):=cond (aj c3) ((iH r' oZ c c1 c2 c3).bind λb=>(M.yu iH r' oZ 0 0 [] [] false (b.2.2.2.2.2.2.2.1,b.2.2.2.2.2.2.2.2.1,b.2.2.2.2.2.2.2.2.2.1,b.1,b.2.1,b.2.2.1,b.2.2.2.1,aB b.2.2.2.2.2.1,b.2.2.2.2.2.2.1,b.2.2.2.2.2.2.2.2.2.2)).bind λa=>cond (aj a.2.2.2.2.2.2.2.2.2) (k (a.2.2.2.1,a.2.2.2.2.1,a.2.2.2.2.2.1,a.2.2.2.2.2.2.1,false,a.2.2.2.2.2.2.2.1,a.2.2.2.2.2.2.2.2.1,a.1,a.2.1,a.2.2.1,a.2.2.2.2.2.2.2.2.2)) none) none
def C.aeK{iH:zaa}(MH:S.qI.ok X0 λx=>iH x.1.2.1.1 x.1.2.1.2.1 x.2.1.1 x.2.1.2.1 x.2.1.2.2.1 x.2.1.va.1):S.oV.ok X0 λx=>M.wX iH x.1.2.1.1 x.1.2.1.2.1 x.2.1.1 x.2.1.2.1 x.2.1.2.2.1 x.2.1.va.1 some:=fnS (λx=>zbJ (M.wX iH x.1.2.1.1 x.1.2.1.2.1) x.2.1) [fe MH] [F.yu MH] (by intros;unfold M.wX;exact zbK)
def M.Ah(gX:zaa)(x' oO:Bool)(pX tZ:Int)(xg BI:aC)(F7:Bool)(s:ak×Int×Bool×Int×Int×aC×aC×ak×Bool×ak)(kn:ak×Int×Bool×Int×Int×aC×aC×ak×Bool×ak->Option R)(ke:ak×Int×Bool×Int×Int×aC×aC×ak×Bool×ak->Option R):Option R:=match s with
 |(v,v1,v2,Jw,NG,Rf,IL,NH,OM,QZ)=>bif !v2 then(bif aj QZ then((M.aA v v1 v2 QZ).bind λa=>bif a.1==44 then(bif aj a.2.2.2.2 then((M.aQ a.2.1 (i64.wrap (a.2.2.1+1)) a.2.2.2.1 a.2.2.2.2).bind λd=>bif aj d.2.2.2 then((gX x' oO d.1 d.2.1 d.2.2.1 d.2.2.2).bind λb=>(M.mY 44 Jw NG Rf IL NH OM b.1 b.2.1 b.2.2.1 b.2.2.2.1 (aB b.2.2.2.2.2.1) b.2.2.2.2.2.2.1).bind λc=>kn (b.2.2.2.2.2.2.2.1,b.2.2.2.2.2.2.2.2.1,b.2.2.2.2.2.2.2.2.2.1,c.1,c.2.1,c.2.2.1,c.2.2.2.1,aB c.2.2.2.2.2.1,c.2.2.2.2.2.2,b.2.2.2.2.2.2.2.2.2.2)) else none) else none) else ke (a.2.1,a.2.2.1,a.2.2.2.1,Jw,NG,Rf,IL,NH,OM,a.2.2.2.2)) else none) else ke (v,v1,v2,Jw,NG,Rf,IL,NH,OM,QZ)
def M.Nj gX x' oO pX tZ xg BI F7 s:=M.Ah gX x' oO pX tZ xg BI F7 s (λs=>some (Sum.inl s)) λt=>some (Sum.inr t)
def M.zD gX x' oO pX tZ xg BI F7 s:=fH (M.Nj gX x' oO pX tZ xg BI F7) s
def F.zD{gX:zaa}(J5:S.oV.ok X0 λx=>gX x.1.2.1.1 x.1.2.1.2.1 x.2.1.1 x.2.1.2.1 x.2.1.2.2.1 x.2.1.va.1):LE X0 166:=le 2 (Ik zbn zbk) (λx=>(x.2.1.1,x.2.1.2.1,x.2.1.2.2.1,x.va.2.1.1,x.va.2.1.2.1,x.va.2.1.2.2.1,x.va.2.1.va.1,x.va.2.1.va.2.1,x.va.2.1.va.2.2.1,x.va.2.2.1)) (λx s=>(((),(),(),(),()),((s.1,s.2.1,s.2.2.1,(),()),(x.2.2.1.1,x.2.2.1.2.1,()),(x.va.1.1,x.va.1.2.1,x.va.1.2.2.1,x.va.1.va.1,(),x.va.1.va.2.2.1,()),(s.va.1,s.va.2.1,s.va.2.2.1,s.va.va.1,s.va.va.2.1,s.wc.1,()),s.wc.2,()))) (λx=> .leaf zaA (λt=>(Ex.exit 0,⟨[(0,V.ptr 100000 0),(3,V.ptr 300000 0),(4,V.ptr 300001 0),(5,V.ptr 300002 0),(18,oC false)],[(100000,zba t 300003),(300000,Cell.box 90 [oC x.2.2.1.1,oC x.2.2.1.2.1]),(300001,Cell.box 87 [iE x.va.1.1,iE x.va.1.2.1,qw x.va.1.2.2.1,qw x.va.1.va.1,V.nil 5,oC x.va.1.va.2.2.1]),(300002,Cell.box 87 [iE t.va.1,iE t.va.2.1,qw t.va.2.2.1,qw t.va.va.1,DC 5 t.va.va.2.1,oC t.wc.1]),(300003,Cell.arr false true 0 1 t.wc.2)]⟩))) (λx=>M.Ah gX x.2.2.1.1 x.2.2.1.2.1 x.va.1.1 x.va.1.2.1 x.va.1.2.2.1 x.va.1.va.1 x.va.1.va.2.2.1) [fe C.aA,fe C.aQ,fe J5,fe C.mY] [] (by rintro _ _ ⟨_,_,_,_,_,_,_,_,_,_⟩ _ _<;>unfold M.Ah<;>exact zbK)
def M.yw(gX:zaa)(r' oZ:Bool)(c:ak)(c1:Int)(c2:Bool)(c3:ak)(k:Int×Int×aC×aC×Bool×ak×Bool×ak×Int×Bool×ak->Option R):=cond (aj c3) ((gX r' oZ c c1 c2 c3).bind λb=>(M.zD gX r' oZ 0 0 [] [] false (b.2.2.2.2.2.2.2.1,b.2.2.2.2.2.2.2.2.1,b.2.2.2.2.2.2.2.2.2.1,b.1,b.2.1,b.2.2.1,b.2.2.2.1,aB b.2.2.2.2.2.1,b.2.2.2.2.2.2.1,b.2.2.2.2.2.2.2.2.2.2)).bind λa=>cond (aj a.2.2.2.2.2.2.2.2.2) (k (a.2.2.2.1,a.2.2.2.2.1,a.2.2.2.2.2.1,a.2.2.2.2.2.2.1,false,a.2.2.2.2.2.2.2.1,a.2.2.2.2.2.2.2.2.1,a.1,a.2.1,a.2.2.1,a.2.2.2.2.2.2.2.2.2)) none) none
def C.afz{gX:zaa}(J5:S.oV.ok X0 λx=>gX x.1.2.1.1 x.1.2.1.2.1 x.2.1.1 x.2.1.2.1 x.2.1.2.2.1 x.2.1.va.1):S.sU.ok X0 λx=>M.yw gX x.1.2.1.1 x.1.2.1.2.1 x.2.1.1 x.2.1.2.1 x.2.1.2.2.1 x.2.1.va.1 some:=fnS (λx=>zbJ (M.yw gX x.1.2.1.1 x.1.2.1.2.1) x.2.1) [fe J5] [F.zD J5] (by intros;unfold M.yw;exact zbK)
def M.uH(CV:zaa)(jl:zaa)(r' oZ:Bool)(c:ak)(c1:Int)(c2:Bool)(c3:ak)(k:Int×Int×aC×aC×Bool×ak×Bool×ak×Int×Bool×ak->Option R):=cond (aj c3) ((CV r' oZ c c1 c2 c3).bind λa=>cond a.2.2.2.2.2.2.2.2.2.1 (cond (aj a.2.2.2.2.2.2.2.2.2.2) (k (a.1,a.2.1,a.2.2.1,a.2.2.2.1,false,aB a.2.2.2.2.2.1,a.2.2.2.2.2.2)) none) (cond (aj a.2.2.2.2.2.2.2.2.2.2) ((M.aA a.2.2.2.2.2.2.2.1 a.2.2.2.2.2.2.2.2.1 a.2.2.2.2.2.2.2.2.2.1 a.2.2.2.2.2.2.2.2.2.2).bind λd=>cond (d.1 !=65) (cond (aj d.2.2.2.2) (k (a.1,a.2.1,a.2.2.1,a.2.2.2.1,false,aB a.2.2.2.2.2.1,a.2.2.2.2.2.2.1,d.2)) none) (cond (aj d.2.2.2.2) ((jl r' oZ d.2.1 (i64.wrap (d.2.2.1+1)) d.2.2.2.1 d.2.2.2.2).bind λe=>cond (aj e.2.2.2.2.2.2.2.2.2.2) ((M.aO 66 e.2.2.2.2.2.2.2.1 e.2.2.2.2.2.2.2.2.1 e.2.2.2.2.2.2.2.2.2.1 e.2.2.2.2.2.2.2.2.2.2).bind λb=>cond b.2.2.2.1 (cond (aj b.2.2.2.2) (k (0,0,[],[],true,[],false,b.2)) none) (cond (aj b.2.2.2.2) ((jl r' oZ b.2.1 b.2.2.1 b.2.2.2.1 b.2.2.2.2).bind λf=>cond (aj f.2.2.2.2.2.2.2.2.2.2) (k (14,0,[],[],true,[[D.int .i64 a.1,D.int .i64 a.2.1,D.str a.2.2.1,D.str a.2.2.2.1,D.sl false 5 (aB a.2.2.2.2.2.1)],[D.int .i64 e.1,D.int .i64 e.2.1,D.str e.2.2.1,D.str e.2.2.2.1,D.sl false 5 (aB e.2.2.2.2.2.1)],[D.int .i64 f.1,D.int .i64 f.2.1,D.str f.2.2.1,D.str f.2.2.2.1,D.sl false 5 (aB f.2.2.2.2.2.1)]],false,f.2.2.2.2.2.2.2)) none) none)) none) none)) none)) none
def C.aci{CV:zaa}{jl:zaa}(agN:S.sU.ok X0 λx=>CV x.1.2.1.1 x.1.2.1.2.1 x.2.1.1 x.2.1.2.1 x.2.1.2.2.1 x.2.1.va.1)(OO:S.nS.ok X0 λx=>jl x.1.2.1.1 x.1.2.1.2.1 x.2.1.1 x.2.1.2.1 x.2.1.2.2.1 x.2.1.va.1):S.nS.ok X0 λx=>M.uH CV jl x.1.2.1.1 x.1.2.1.2.1 x.2.1.1 x.2.1.2.1 x.2.1.2.2.1 x.2.1.va.1 some:=fnS (λx=>zbJ (M.uH CV jl x.1.2.1.1 x.1.2.1.2.1) x.2.1) [fe agN,fe C.aA,fe OO,fe C.aO] [] (by intros;unfold M.uH;exact zbK)
abbrev M.Ox(kind:Int)(k:Bool->Option R):=cond (kind==54) (k true) ((M.eX kind 38 43).bind λa=>k a)
def M.vN kind:=M.Ox kind some
def C.vN:=fTa S.vN (λx=>M.Ox x.1.1) [fe C.eX]
def M.qK(jl:zaa)(bJ:zaa)(r' oZ:Bool)(c:ak)(c1:Int)(c2:Bool)(c3:ak)(k:Int×Int×aC×aC×Bool×ak×Bool×ak×Int×Bool×ak->Option R):=cond (aj c3) ((jl r' oZ c c1 c2 c3).bind λa=>cond a.2.2.2.2.2.2.2.2.2.1 (cond (aj a.2.2.2.2.2.2.2.2.2.2) (k (a.1,a.2.1,a.2.2.1,a.2.2.2.1,false,aB a.2.2.2.2.2.1,a.2.2.2.2.2.2)) none) (cond (!a.2.2.2.2.2.2.1) (cond (aj a.2.2.2.2.2.2.2.2.2.2) (k (a.1,a.2.1,a.2.2.1,a.2.2.2.1,false,aB a.2.2.2.2.2.1,a.2.2.2.2.2.2)) none) (cond (aj a.2.2.2.2.2.2.2.2.2.2) ((M.aA a.2.2.2.2.2.2.2.1 a.2.2.2.2.2.2.2.2.1 a.2.2.2.2.2.2.2.2.2.1 a.2.2.2.2.2.2.2.2.2.2).bind λb=>(M.vN b.1).bind λf=>cond (!f) (cond (aj b.2.2.2.2) (k (a.1,a.2.1,a.2.2.1,a.2.2.2.1,false,aB a.2.2.2.2.2.1,a.2.2.2.2.2.2.1,b.2)) none) (cond (aj b.2.2.2.2) ((M.aA b.2.1 b.2.2.1 b.2.2.2.1 b.2.2.2.2).bind λe=>cond (aj e.2.2.2.2) ((bJ r' oZ e.2.1 (i64.wrap (e.2.2.1+1)) e.2.2.2.1 e.2.2.2.2).bind λd=>cond (aj d.2.2.2.2.2.2.2.2.2.2) (k (15,e.1,[],[],true,[[D.int .i64 a.1,D.int .i64 a.2.1,D.str a.2.2.1,D.str a.2.2.2.1,D.sl false 5 (aB a.2.2.2.2.2.1)],[D.int .i64 d.1,D.int .i64 d.2.1,D.str d.2.2.1,D.str d.2.2.2.1,D.sl false 5 (aB d.2.2.2.2.2.1)]],false,d.2.2.2.2.2.2.2)) none) none) none)) none))) none
def C.ZO{jl:zaa}{bJ:zaa}(OO:S.nS.ok X0 λx=>jl x.1.2.1.1 x.1.2.1.2.1 x.2.1.1 x.2.1.2.1 x.2.1.2.2.1 x.2.1.va.1)(qJ:S.bP.ok X0 λx=>bJ x.1.2.1.1 x.1.2.1.2.1 x.2.1.1 x.2.1.2.1 x.2.1.2.2.1 x.2.1.va.1):S.bP.ok X0 λx=>M.qK jl bJ x.1.2.1.1 x.1.2.1.2.1 x.2.1.1 x.2.1.2.1 x.2.1.2.2.1 x.2.1.va.1 some:=fnS (λx=>zbJ (M.qK jl bJ x.1.2.1.1 x.1.2.1.2.1) x.2.1) [fe OO,fe C.aA,fe C.vN,fe qJ] [] (by intros;unfold M.qK;exact zbK)
def M.aN:Nat->(zaa)×(zan)×(zag)×(zad)×(zad)×(zad)×(zad)×(zad)×(zad)×(zaa)×(zaa)×(zaa)×(zaa)×(zaa)×(zaa)×(zaa)×(zaa)×(zaa)×(zaa)×(zaa):=Nat.rec (λ_ _ _ _ _ _=>none,λ_ _ _ _ _ _=>none,λ_ _ _ _ _=>none,λ_ _ _ _=>none,λ_ _ _ _=>none,λ_ _ _ _=>none,λ_ _ _ _=>none,λ_ _ _ _=>none,λ_ _ _ _=>none,λ_ _ _ _ _ _=>none,λ_ _ _ _ _ _=>none,λ_ _ _ _ _ _=>none,λ_ _ _ _ _ _=>none,λ_ _ _ _ _ _=>none,λ_ _ _ _ _ _=>none,λ_ _ _ _ _ _=>none,λ_ _ _ _ _ _=>none,λ_ _ _ _ _ _=>none,λ_ _ _ _ _ _=>none,λ_ _ _ _ _ _=>none) λ_ qz=>(λr' oZ c c1 c2 c3=>M.qK qz.2.2.2.2.2.2.2.2.2.2.2.2.2.2.2.2.2.2.2 qz.1 r' oZ c c1 c2 c3 some,λr' oZ c c1 c2 c3=>M.rQ qz.1 r' oZ c c1 c2 c3 some,λshut c c1 c2 c3=>M.uD qz.2.1 shut c c1 c2 c3 some,λc c1 c2 c3=>M.rF qz.2.2.1 c c1 c2 c3 some,λc c1 c2 c3=>M.pR qz.2.2.2.1 qz.2.2.1 qz.1 c c1 c2 c3 some,λc c1 c2 c3=>M.rU qz.2.2.2.2.1 qz.2.2.2.2.2.2.2.1 qz.2.2.2.2.2.1 c c1 c2 c3 some,λc c1 c2 c3=>M.uQ qz.2.2.2.2.2.1 qz.2.2.2.1 c c1 c2 c3 some,λc c1 c2 c3=>M.uS qz.2.2.2.2.2.2.1 c c1 c2 c3 some,λc c1 c2 c3=>M.uG qz.2.2.2.2.2.2.2.1 qz.2.2.2.2.2.1 c c1 c2 c3 some,λr' oZ c c1 c2 c3=>M.wQ qz.2.2.2.2.2.2.2.2.1 qz.2.2.2.2.2.2.2.2.2.2.1 r' oZ c c1 c2 c3 some,λr' oZ c c1 c2 c3=>M.rV qz.2.2.2.2.2.2.2.2.2.1 qz.2.2.2.2.2.2.2.2.2.2.1 r' oZ c c1 c2 c3 some,λr' oZ c c1 c2 c3=>M.wR qz.2.2.2.2.2.2.2.2.2.2.1 r' oZ c c1 c2 c3 some,λr' oZ c c1 c2 c3=>M.wS qz.2.2.2.2.2.2.2.2.2.2.2.1 r' oZ c c1 c2 c3 some,λr' oZ c c1 c2 c3=>M.wU qz.2.2.2.2.2.2.2.2.2.2.2.2.1 r' oZ c c1 c2 c3 some,λr' oZ c c1 c2 c3=>M.pU qz.2.2.2.2.2.2.2.2.2.2.2.2.2.1 r' oZ c c1 c2 c3 some,λr' oZ c c1 c2 c3=>M.rW qz.2.2.2.2.2.2.2.2.2.2.2.2.2.2.1 r' oZ c c1 c2 c3 some,λr' oZ c c1 c2 c3=>M.yt qz.2.2.1 qz.2.2.2.2.2.2.2.2.2.2.2.2.2.2.2.1 r' oZ c c1 c2 c3 some,λr' oZ c c1 c2 c3=>M.wX qz.2.2.2.2.2.2.2.2.2.2.2.2.2.2.2.2.1 r' oZ c c1 c2 c3 some,λr' oZ c c1 c2 c3=>M.yw qz.2.2.2.2.2.2.2.2.2.2.2.2.2.2.2.2.2.1 r' oZ c c1 c2 c3 some,λr' oZ c c1 c2 c3=>M.uH qz.2.2.2.2.2.2.2.2.2.2.2.2.2.2.2.2.2.2.1 qz.2.2.2.2.2.2.2.2.2.2.2.2.2.2.2.2.2.2.2 r' oZ c c1 c2 c3 some)
def M.gY n:=(M.aN n).1
def M.lM n:=(M.aN n).2.1
def M.jD n:=(M.aN n).2.2.1
def M.rG n:=(M.aN n).2.2.2.1
def M.pV n:=(M.aN n).2.2.2.2.1
def M.nO n:=(M.aN n).2.2.2.2.2.1
def M.zf n:=(M.aN n).2.2.2.2.2.2.1
def M.qL n:=(M.aN n).2.2.2.2.2.2.2.1
def M.uI n:=(M.aN n).2.2.2.2.2.2.2.2.1
def M.wY n:=(M.aN n).2.2.2.2.2.2.2.2.2.1
def M.jZ n:=(M.aN n).2.2.2.2.2.2.2.2.2.2.1
def M.sD n:=(M.aN n).2.2.2.2.2.2.2.2.2.2.2.1
def M.qh n:=(M.aN n).2.2.2.2.2.2.2.2.2.2.2.2.1
def M.sF n:=(M.aN n).2.2.2.2.2.2.2.2.2.2.2.2.2.1
def M.nG n:=(M.aN n).2.2.2.2.2.2.2.2.2.2.2.2.2.2.1
def M.kC n:=(M.aN n).2.2.2.2.2.2.2.2.2.2.2.2.2.2.2.1
def M.uU n:=(M.aN n).2.2.2.2.2.2.2.2.2.2.2.2.2.2.2.2.1
def M.sG n:=(M.aN n).2.2.2.2.2.2.2.2.2.2.2.2.2.2.2.2.2.1
def M.yx n:=(M.aN n).2.2.2.2.2.2.2.2.2.2.2.2.2.2.2.2.2.2.1
def M.qM n:=(M.aN n).2.2.2.2.2.2.2.2.2.2.2.2.2.2.2.2.2.2.2
def M.Un(n:Nat):M.gY (n+1)=λr' oZ c c1 c2 c3=>M.qK (M.qM n) (M.gY n) r' oZ c c1 c2 c3 some:=rfl
def M.acj(n:Nat):M.lM (n+1)=λr' oZ c c1 c2 c3=>M.rQ (M.gY n) r' oZ c c1 c2 c3 some:=rfl
def M.V4(n:Nat):M.jD (n+1)=λshut c c1 c2 c3=>M.uD (M.lM n) shut c c1 c2 c3 some:=rfl
def M.Y0(n:Nat):M.rG (n+1)=λc c1 c2 c3=>M.rF (M.jD n) c c1 c2 c3 some:=rfl
def M.Rh(n:Nat):M.pV (n+1)=λc c1 c2 c3=>M.pR (M.rG n) (M.jD n) (M.gY n) c c1 c2 c3 some:=rfl
def M.U1(n:Nat):M.nO (n+1)=λc c1 c2 c3=>M.rU (M.pV n) (M.qL n) (M.nO n) c c1 c2 c3 some:=rfl
def M.aa3(n:Nat):M.zf (n+1)=λc c1 c2 c3=>M.uQ (M.nO n) (M.rG n) c c1 c2 c3 some:=rfl
def M.aa4(n:Nat):M.qL (n+1)=λc c1 c2 c3=>M.uS (M.zf n) c c1 c2 c3 some:=rfl
def M.V5(n:Nat):M.uI (n+1)=λc c1 c2 c3=>M.uG (M.qL n) (M.nO n) c c1 c2 c3 some:=rfl
def M.W9(n:Nat):M.wY (n+1)=λr' oZ c c1 c2 c3=>M.wQ (M.uI n) (M.jZ n) r' oZ c c1 c2 c3 some:=rfl
def M.U2(n:Nat):M.jZ (n+1)=λr' oZ c c1 c2 c3=>M.rV (M.wY n) (M.jZ n) r' oZ c c1 c2 c3 some:=rfl
def M.Xa(n:Nat):M.sD (n+1)=λr' oZ c c1 c2 c3=>M.wR (M.jZ n) r' oZ c c1 c2 c3 some:=rfl
def M.Xb(n:Nat):M.qh (n+1)=λr' oZ c c1 c2 c3=>M.wS (M.sD n) r' oZ c c1 c2 c3 some:=rfl
def M.Xc(n:Nat):M.sF (n+1)=λr' oZ c c1 c2 c3=>M.wU (M.qh n) r' oZ c c1 c2 c3 some:=rfl
def M.Ri(n:Nat):M.nG (n+1)=λr' oZ c c1 c2 c3=>M.pU (M.sF n) r' oZ c c1 c2 c3 some:=rfl
def M.U3(n:Nat):M.kC (n+1)=λr' oZ c c1 c2 c3=>M.rW (M.nG n) r' oZ c c1 c2 c3 some:=rfl
def M.Yk(n:Nat):M.uU (n+1)=λr' oZ c c1 c2 c3=>M.yt (M.jD n) (M.kC n) r' oZ c c1 c2 c3 some:=rfl
def M.Xd(n:Nat):M.sG (n+1)=λr' oZ c c1 c2 c3=>M.wX (M.uU n) r' oZ c c1 c2 c3 some:=rfl
def M.Yl(n:Nat):M.yx (n+1)=λr' oZ c c1 c2 c3=>M.yw (M.sG n) r' oZ c c1 c2 c3 some:=rfl
def M.V6(n:Nat):M.qM (n+1)=λr' oZ c c1 c2 c3=>M.uH (M.yx n) (M.qM n) r' oZ c c1 c2 c3 some:=rfl
def M.bP r' oZ c c1 c2 c3:=lim λn=>M.gY n r' oZ c c1 c2 c3
def M.iW r' oZ c c1 c2 c3:=lim λn=>M.lM n r' oZ c c1 c2 c3
def M.jg shut c c1 c2 c3:=lim λn=>M.jD n shut c c1 c2 c3
def M.oG c c1 c2 c3:=lim λn=>M.rG n c c1 c2 c3
def M.lH c c1 c2 c3:=lim λn=>M.pV n c c1 c2 c3
def M.jy c c1 c2 c3:=lim λn=>M.nO n c c1 c2 c3
def M.uo c c1 c2 c3:=lim λn=>M.zf n c c1 c2 c3
def M.kW c c1 c2 c3:=lim λn=>M.qL n c c1 c2 c3
def M.o9 c c1 c2 c3:=lim λn=>M.uI n c c1 c2 c3
def M.qU r' oZ c c1 c2 c3:=lim λn=>M.wY n r' oZ c c1 c2 c3
def M.jK r' oZ c c1 c2 c3:=lim λn=>M.jZ n r' oZ c c1 c2 c3
def M.oU r' oZ c c1 c2 c3:=lim λn=>M.sD n r' oZ c c1 c2 c3
def M.jQ r' oZ c c1 c2 c3:=lim λn=>M.qh n r' oZ c c1 c2 c3
def M.qV r' oZ c c1 c2 c3:=lim λn=>M.sF n r' oZ c c1 c2 c3
def M.lI r' oZ c c1 c2 c3:=lim λn=>M.nG n r' oZ c c1 c2 c3
def M.mG r' oZ c c1 c2 c3:=lim λn=>M.kC n r' oZ c c1 c2 c3
def M.qI r' oZ c c1 c2 c3:=lim λn=>M.uU n r' oZ c c1 c2 c3
def M.oV r' oZ c c1 c2 c3:=lim λn=>M.sG n r' oZ c c1 c2 c3
def M.sU r' oZ c c1 c2 c3:=lim λn=>M.yx n r' oZ c c1 c2 c3
def M.nS r' oZ c c1 c2 c3:=lim λn=>M.qM n r' oZ c c1 c2 c3
def C.aN:∀n,(S.bP.ok X0 λx=>zbJ (M.gY n x.1.2.1.1 x.1.2.1.2.1) x.2.1)/\(S.iW.ok X0 λx=>zbJ (M.lM n x.1.2.1.1 x.1.2.1.2.1) x.2.1)/\(S.jg.ok X0 λx=>zbJ (M.jD n x.1.2.1) x.2.1)/\(S.oG.ok X0 λx=>zbJ (M.rG n) x.2.1)/\(S.lH.ok X0 λx=>zbJ (M.pV n) x.2.1)/\(S.jy.ok X0 λx=>zbJ (M.nO n) x.2.1)/\(S.uo.ok X0 λx=>zbJ (M.zf n) x.2.1)/\(S.kW.ok X0 λx=>zbJ (M.qL n) x.2.1)/\(S.o9.ok X0 λx=>zbJ (M.uI n) x.2.1)/\(S.qU.ok X0 λx=>zbJ (M.wY n x.1.2.1.1 x.1.2.1.2.1) x.2.1)/\(S.jK.ok X0 λx=>zbJ (M.jZ n x.1.2.1.1 x.1.2.1.2.1) x.2.1)/\(S.oU.ok X0 λx=>zbJ (M.sD n x.1.2.1.1 x.1.2.1.2.1) x.2.1)/\(S.jQ.ok X0 λx=>zbJ (M.qh n x.1.2.1.1 x.1.2.1.2.1) x.2.1)/\(S.qV.ok X0 λx=>zbJ (M.sF n x.1.2.1.1 x.1.2.1.2.1) x.2.1)/\(S.lI.ok X0 λx=>zbJ (M.nG n x.1.2.1.1 x.1.2.1.2.1) x.2.1)/\(S.mG.ok X0 λx=>zbJ (M.kC n x.1.2.1.1 x.1.2.1.2.1) x.2.1)/\(S.qI.ok X0 λx=>zbJ (M.uU n x.1.2.1.1 x.1.2.1.2.1) x.2.1)/\(S.oV.ok X0 λx=>zbJ (M.sG n x.1.2.1.1 x.1.2.1.2.1) x.2.1)/\(S.sU.ok X0 λx=>zbJ (M.yx n x.1.2.1.1 x.1.2.1.2.1) x.2.1)/\(S.nS.ok X0 λx=>zbJ (M.qM n x.1.2.1.1 x.1.2.1.2.1) x.2.1)
 |0=>⟨eP.zero,eP.zero,eP.zero,eP.zero,eP.zero,eP.zero,eP.zero,eP.zero,eP.zero,eP.zero,eP.zero,eP.zero,eP.zero,eP.zero,eP.zero,eP.zero,eP.zero,eP.zero,eP.zero,eP.zero⟩
 |n+1=>have h:=C.aN n;⟨C.ZO h.2.2.2.2.2.2.2.2.2.2.2.2.2.2.2.2.2.2.2 h.1,C.aat h.1,C.acf h.2.1,C.Yd h.2.2.1,C.YX h.2.2.2.1 h.2.2.1 h.1,C.aaD h.2.2.2.2.1 h.2.2.2.2.2.2.2.1 h.2.2.2.2.2.1,C.ZL h.2.2.2.2.2.1 h.2.2.2.1,C.ZM h.2.2.2.2.2.2.1,C.ach h.2.2.2.2.2.2.2.1 h.2.2.2.2.2.1,C.aeF h.2.2.2.2.2.2.2.2.1 h.2.2.2.2.2.2.2.2.2.2.1,C.aaN h.2.2.2.2.2.2.2.2.2.1 h.2.2.2.2.2.2.2.2.2.2.1,C.aeH h.2.2.2.2.2.2.2.2.2.2.1,C.aeI h.2.2.2.2.2.2.2.2.2.2.2.1,C.aeJ h.2.2.2.2.2.2.2.2.2.2.2.2.1,C.YZ h.2.2.2.2.2.2.2.2.2.2.2.2.2.1,C.aaT h.2.2.2.2.2.2.2.2.2.2.2.2.2.2.1,C.afy h.2.2.1 h.2.2.2.2.2.2.2.2.2.2.2.2.2.2.2.1,C.aeK h.2.2.2.2.2.2.2.2.2.2.2.2.2.2.2.2.1,C.afz h.2.2.2.2.2.2.2.2.2.2.2.2.2.2.2.2.2.1,C.aci h.2.2.2.2.2.2.2.2.2.2.2.2.2.2.2.2.2.2.1 h.2.2.2.2.2.2.2.2.2.2.2.2.2.2.2.2.2.2.2⟩
def C.bP:S.bP.ok X0 λx=>zbJ (M.bP x.1.2.1.1 x.1.2.1.2.1) x.2.1:=eP.lim λn=>(C.aN n).1
def M.Rj{n:Nat}{r' oZ:Bool}{c:ak}{c1:Int}{c2:Bool}{c3:ak}{r:Int×Int×aC×aC×Bool×ak×Bool×ak×Int×Bool×ak}(h:M.gY n r' oZ c c1 c2 c3=some r):M.bP r' oZ c c1 c2 c3=some r:=eP.Ij (λn=>(C.aN n).1) (by intro a b h;simp[S.bP,sg] at h;first|exact h|simp[Prod.ext_iff,h]) (x:=(((),(r',oZ,()),()),((c,c1,c2,c3,()),()))) h
def C.iW:S.iW.ok X0 λx=>zbJ (M.iW x.1.2.1.1 x.1.2.1.2.1) x.2.1:=eP.lim λn=>(C.aN n).2.1
def M.aa5{n:Nat}{r' oZ:Bool}{c:ak}{c1:Int}{c2:Bool}{c3:ak}{r:Bool×ak×ak×Int×Bool×ak}(h:M.lM n r' oZ c c1 c2 c3=some r):M.iW r' oZ c c1 c2 c3=some r:=eP.Ij (λn=>(C.aN n).2.1) (by intro a b h;simp[S.iW,sg] at h;first|exact h|simp[Prod.ext_iff,h]) (x:=(((),(r',oZ,()),()),((c,c1,c2,c3,()),()))) h
def C.jg:S.jg.ok X0 λx=>zbJ (M.jg x.1.2.1) x.2.1:=eP.lim λn=>(C.aN n).2.2.1
def M.acn{n:Nat}{shut:Int}{c:ak}{c1:Int}{c2:Bool}{c3:ak}{r:Bool×ak×ak×Int×Bool×ak}(h:M.jD n shut c c1 c2 c3=some r):M.jg shut c c1 c2 c3=some r:=eP.Ij (λn=>(C.aN n).2.2.1) (by intro a b h;simp[S.jg,sg] at h;first|exact h|simp[Prod.ext_iff,h]) (x:=(((),shut,()),((c,c1,c2,c3,()),()))) h
def C.oG:S.oG.ok X0 λx=>zbJ M.oG x.2.1:=eP.lim λn=>(C.aN n).2.2.2.1
def C.lH:S.lH.ok X0 λx=>zbJ M.lH x.2.1:=eP.lim λn=>(C.aN n).2.2.2.2.1
def C.jy:S.jy.ok X0 λx=>zbJ M.jy x.2.1:=eP.lim λn=>(C.aN n).2.2.2.2.2.1
def C.uo:S.uo.ok X0 λx=>zbJ M.uo x.2.1:=eP.lim λn=>(C.aN n).2.2.2.2.2.2.1
def C.kW:S.kW.ok X0 λx=>zbJ M.kW x.2.1:=eP.lim λn=>(C.aN n).2.2.2.2.2.2.2.1
def C.o9:S.o9.ok X0 λx=>zbJ M.o9 x.2.1:=eP.lim λn=>(C.aN n).2.2.2.2.2.2.2.2.1
def C.qU:S.qU.ok X0 λx=>zbJ (M.qU x.1.2.1.1 x.1.2.1.2.1) x.2.1:=eP.lim λn=>(C.aN n).2.2.2.2.2.2.2.2.2.1
def C.jK:S.jK.ok X0 λx=>zbJ (M.jK x.1.2.1.1 x.1.2.1.2.1) x.2.1:=eP.lim λn=>(C.aN n).2.2.2.2.2.2.2.2.2.2.1
def C.oU:S.oU.ok X0 λx=>zbJ (M.oU x.1.2.1.1 x.1.2.1.2.1) x.2.1:=eP.lim λn=>(C.aN n).2.2.2.2.2.2.2.2.2.2.2.1
def C.jQ:S.jQ.ok X0 λx=>zbJ (M.jQ x.1.2.1.1 x.1.2.1.2.1) x.2.1:=eP.lim λn=>(C.aN n).2.2.2.2.2.2.2.2.2.2.2.2.1
def M.aeL{n:Nat}{r' oZ:Bool}{c:ak}{c1:Int}{c2:Bool}{c3:ak}{r:Int×Int×aC×aC×Bool×ak×Bool×ak×Int×Bool×ak}(h:M.qh n r' oZ c c1 c2 c3=some r):M.jQ r' oZ c c1 c2 c3=some r:=eP.Ij (λn=>(C.aN n).2.2.2.2.2.2.2.2.2.2.2.2.1) (by intro a b h;simp[S.jQ,sg] at h;first|exact h|simp[Prod.ext_iff,h]) (x:=(((),(r',oZ,()),()),((c,c1,c2,c3,()),()))) h
def C.qV:S.qV.ok X0 λx=>zbJ (M.qV x.1.2.1.1 x.1.2.1.2.1) x.2.1:=eP.lim λn=>(C.aN n).2.2.2.2.2.2.2.2.2.2.2.2.2.1
def C.lI:S.lI.ok X0 λx=>zbJ (M.lI x.1.2.1.1 x.1.2.1.2.1) x.2.1:=eP.lim λn=>(C.aN n).2.2.2.2.2.2.2.2.2.2.2.2.2.2.1
def C.mG:S.mG.ok X0 λx=>zbJ (M.mG x.1.2.1.1 x.1.2.1.2.1) x.2.1:=eP.lim λn=>(C.aN n).2.2.2.2.2.2.2.2.2.2.2.2.2.2.2.1
def C.qI:S.qI.ok X0 λx=>zbJ (M.qI x.1.2.1.1 x.1.2.1.2.1) x.2.1:=eP.lim λn=>(C.aN n).2.2.2.2.2.2.2.2.2.2.2.2.2.2.2.2.1
def C.oV:S.oV.ok X0 λx=>zbJ (M.oV x.1.2.1.1 x.1.2.1.2.1) x.2.1:=eP.lim λn=>(C.aN n).2.2.2.2.2.2.2.2.2.2.2.2.2.2.2.2.2.1
def C.sU:S.sU.ok X0 λx=>zbJ (M.sU x.1.2.1.1 x.1.2.1.2.1) x.2.1:=eP.lim λn=>(C.aN n).2.2.2.2.2.2.2.2.2.2.2.2.2.2.2.2.2.2.1
def C.nS:S.nS.ok X0 λx=>zbJ (M.nS x.1.2.1.1 x.1.2.1.2.1) x.2.1:=eP.lim λn=>(C.aN n).2.2.2.2.2.2.2.2.2.2.2.2.2.2.2.2.2.2.2
abbrev M.uV(c:ak)(c1:Int)(c2:Bool)(c3:ak)(k:Int×Int×aC×aC×Bool×ak×ak×Int×Bool×ak->Option R):=cond (aj c3) ((M.aO 32 c c1 c2 c3).bind λb=>cond (aj b.2.2.2.2) ((M.bP false false b.2.1 b.2.2.1 b.2.2.2.1 b.2.2.2.2).bind λa=>cond (aj a.2.2.2.2.2.2.2.2.2.2) ((M.aO 33 a.2.2.2.2.2.2.2.1 a.2.2.2.2.2.2.2.2.1 a.2.2.2.2.2.2.2.2.2.1 a.2.2.2.2.2.2.2.2.2.2).bind λd=>cond (aj d.2.2.2.2) (k (a.1,a.2.1,a.2.2.1,a.2.2.2.1,false,aB a.2.2.2.2.2.1,d.2)) none) none) none) none
def M.ig c c1 c2 c3:=M.uV c c1 c2 c3 some
def C.ig:=fTa S.ig (λx=>zbJ M.uV x.2.1) [fe C.aO,fe C.bP]
def M.uJ(jv:zac)(bU:zac)(c:ak)(c1:Int)(c2:Bool)(c3:ak)(k:Int×Int×aC×aC×Bool×ak×ak×Int×Bool×ak->Option R):=cond (aj c3) ((M.aQ c c1 c2 c3).bind λb=>cond b.2.2.1 (cond (aj b.2.2.2) (k (0,0,[],[],true,[],b)) none) (cond (aj b.2.2.2) ((M.aA b.1 b.2.1 b.2.2.1 b.2.2.2).bind λd=>cond (d.1==30) (cond (aj d.2.2.2.2) ((jv d.2.1 d.2.2.1 d.2.2.2.1 d.2.2.2.2).bind λf=>cond (aj f.2.2.2.2.2.2.2.2.2) (k (f.1,f.2.1,f.2.2.1,f.2.2.2.1,false,aB f.2.2.2.2.2.1,f.2.2.2.2.2.2)) none) none) (cond (aj d.2.2.2.2) ((M.dU d.2.1 d.2.2.1 d.2.2.2.1 d.2.2.2.2).bind λg=>(axK 5 [D.sl g.1 5 g.2.1] 0).bind λh=>cond (aj g.2.2.2.2.2) ((M.aA g.2.2.1 g.2.2.2.1 g.2.2.2.2.1 g.2.2.2.2.2).bind λa=>cond (a.1==37) (cond (aj a.2.2.2.2) (k (33,0,[],[],true,h,a.2.1,i64.wrap (a.2.2.1+1),a.2.2.2)) none) (cond (aj a.2.2.2.2) ((bU a.2.1 a.2.2.1 a.2.2.2.1 a.2.2.2.2).bind λe=>oq h [[D.int .i64 e.1,D.int .i64 e.2.1,D.str e.2.2.1,D.str e.2.2.2.1,D.sl false 5 (aB e.2.2.2.2.2.1)]] 72 λi=>cond (aj e.2.2.2.2.2.2.2.2.2) (k (33,0,[],[],true,i,e.2.2.2.2.2.2)) none) none)) none) none)) none)) none
def C.aco{jv:zac}{bU:zac}(Nl:S.dh.ok X0 λx=>jv x.2.1.1 x.2.1.2.1 x.2.1.2.2.1 x.2.1.va.1)(uX:S.lq.ok X0 λx=>bU x.2.1.1 x.2.1.2.1 x.2.1.2.2.1 x.2.1.va.1):S.rC.ok X0 λx=>M.uJ jv bU x.2.1.1 x.2.1.2.1 x.2.1.2.2.1 x.2.1.va.1 some:=fnS (λx=>zbJ (M.uJ jv bU) x.2.1) [fe C.aQ,fe C.aA,fe Nl,fe C.dU,fe uX] [] (by intros;simp only[zbJ,M.uJ,oq];exact zbK)
def M.uY(bH:zac)(c:ak)(c1:Int)(c2:Bool)(c3:ak)(k:Int×Int×aC×aC×Bool×ak×ak×Int×Bool×ak->Option R):=cond (aj c3) ((M.ig c c1 c2 c3).bind λb=>cond (aj b.2.2.2.2.2.2.2.2.2) ((bH b.2.2.2.2.2.2.1 b.2.2.2.2.2.2.2.1 b.2.2.2.2.2.2.2.2.1 b.2.2.2.2.2.2.2.2.2).bind λa=>cond (aj a.2.2.2.2.2.2.2.2.2) ((M.bT a.2.2.2.2.2.2.1 a.2.2.2.2.2.2.2.1 a.2.2.2.2.2.2.2.2.1 a.2.2.2.2.2.2.2.2.2).bind λf=>cond f.2.2.1 (cond (!f.2.2.1) (cond (decide (0<=(↑a.2.2.2.2.2.2.2.2.2.length:Int)) && decide ((↑a.2.2.2.2.2.2.2.2.2.length:Int)<=(↑f.2.2.2.length:Int))) (cond (aj (List.take (↑a.2.2.2.2.2.2.2.2.2.length:Int).toNat f.2.2.2)) (k (28,0,[],[],true,[[D.int .i64 b.1,D.int .i64 b.2.1,D.str b.2.2.1,D.str b.2.2.2.1,D.sl false 5 (aB b.2.2.2.2.2.1)],[D.int .i64 a.1,D.int .i64 a.2.1,D.str a.2.2.1,D.str a.2.2.2.1,D.sl false 5 (aB a.2.2.2.2.2.1)]],f.1,a.2.2.2.2.2.2.2.1,f.2.2.1,List.take (↑a.2.2.2.2.2.2.2.2.2.length:Int).toNat f.2.2.2)) none) none) (cond (aj f.2.2.2) (k (28,0,[],[],true,[[D.int .i64 b.1,D.int .i64 b.2.1,D.str b.2.2.1,D.str b.2.2.2.1,D.sl false 5 (aB b.2.2.2.2.2.1)],[D.int .i64 a.1,D.int .i64 a.2.1,D.str a.2.2.1,D.str a.2.2.2.1,D.sl false 5 (aB a.2.2.2.2.2.1)]],f)) none)) (cond (aj f.2.2.2) ((M.aA f.1 f.2.1 f.2.2.1 f.2.2.2).bind λe=>cond (e.1 !=14) (cond (!e.2.2.2.1) (cond (decide (0<=(↑a.2.2.2.2.2.2.2.2.2.length:Int)) && decide ((↑a.2.2.2.2.2.2.2.2.2.length:Int)<=(↑e.2.2.2.2.length:Int))) (cond (aj (List.take (↑a.2.2.2.2.2.2.2.2.2.length:Int).toNat e.2.2.2.2)) (k (28,0,[],[],true,[[D.int .i64 b.1,D.int .i64 b.2.1,D.str b.2.2.1,D.str b.2.2.2.1,D.sl false 5 (aB b.2.2.2.2.2.1)],[D.int .i64 a.1,D.int .i64 a.2.1,D.str a.2.2.1,D.str a.2.2.2.1,D.sl false 5 (aB a.2.2.2.2.2.1)]],e.2.1,a.2.2.2.2.2.2.2.1,e.2.2.2.1,List.take (↑a.2.2.2.2.2.2.2.2.2.length:Int).toNat e.2.2.2.2)) none) none) (cond (aj e.2.2.2.2) (k (28,0,[],[],true,[[D.int .i64 b.1,D.int .i64 b.2.1,D.str b.2.2.1,D.str b.2.2.2.1,D.sl false 5 (aB b.2.2.2.2.2.1)],[D.int .i64 a.1,D.int .i64 a.2.1,D.str a.2.2.1,D.str a.2.2.2.1,D.sl false 5 (aB a.2.2.2.2.2.1)]],e.2)) none)) (cond (aj e.2.2.2.2) ((bH e.2.1 (i64.wrap (e.2.2.1+1)) e.2.2.2.1 e.2.2.2.2).bind λd=>cond (aj d.2.2.2.2.2.2.2.2.2) (k (28,0,[],[],true,[[D.int .i64 b.1,D.int .i64 b.2.1,D.str b.2.2.1,D.str b.2.2.2.1,D.sl false 5 (aB b.2.2.2.2.2.1)],[D.int .i64 a.1,D.int .i64 a.2.1,D.str a.2.2.1,D.str a.2.2.2.1,D.sl false 5 (aB a.2.2.2.2.2.1)]]++[[D.int .i64 d.1,D.int .i64 d.2.1,D.str d.2.2.1,D.str d.2.2.2.1,D.sl false 5 (aB d.2.2.2.2.2.1)]],d.2.2.2.2.2.2)) none) none)) none)) none) none) none
def C.ZP{bH:zac}(CW:S.rC.ok X0 λx=>bH x.2.1.1 x.2.1.2.1 x.2.1.2.2.1 x.2.1.va.1):S.uq.ok X0 λx=>M.uY bH x.2.1.1 x.2.1.2.1 x.2.1.2.2.1 x.2.1.va.1 some:=fnS (λx=>zbJ (M.uY bH) x.2.1) [fe C.ig,fe CW,fe C.bT,fe C.aA] [] (by intros;unfold M.uY;exact zbK)
abbrev M.Oy(kind:Int)(k:Bool->Option R):=cond (kind==0) (k true) (cond (kind==1) (k true) (cond (kind==2) (k true) (cond (kind==37) (k true) (k (kind==31)))))
def M.lJ kind:=M.Oy kind some
def C.lJ:=fTa S.lJ (λx=>M.Oy x.1.1)
abbrev M.IQ(c:ak)(c1:Int)(c2:Bool)(c3:ak)(k:ak×Int×Bool×ak->Option R):=cond (aj c3) ((M.aA c c1 c2 c3).bind λa=>(M.lJ a.1).bind λb=>cond (!b) (cond (aj a.2.2.2.2) (k (a.2.1,a.2.2.1,true,a.2.2.2.2)) none) (cond (aj a.2.2.2.2) (k (a.2)) none)) none
def M.jh c c1 c2 c3:=M.IQ c c1 c2 c3 some
def C.jh:=fTa S.jh (λx=>zbJ M.IQ x.2.1) [fe C.aA,fe C.lJ]
abbrev M.Ai(end':Int)(r' oZ:Bool)(c:ak)(c1:Int)(c2:Bool)(c3:ak)(k:Int×Int×aC×aC×Bool×ak×ak×Int×Bool×ak->Option R):=cond (aj c3) ((M.aA c c1 c2 c3).bind λa=>cond (a.1==end') (cond (aj a.2.2.2.2) (k (16,0,[],[],true,[],a.2)) none) (cond (aj a.2.2.2.2) ((M.bP r' oZ a.2.1 a.2.2.1 a.2.2.2.1 a.2.2.2.2).bind λb=>cond (aj b.2.2.2.2.2.2.2.2.2.2) (k (b.1,b.2.1,b.2.2.1,b.2.2.2.1,false,aB b.2.2.2.2.2.1,b.2.2.2.2.2.2.2)) none) none)) none
def M.fD end' r' oZ c c1 c2 c3:=M.Ai end' r' oZ c c1 c2 c3 some
def C.fD:=fTa S.fD (λx=>zbJ (M.Ai x.1.2.1 x.1.2.2.1.1 x.1.2.2.1.2.1) x.2.1) [fe C.aA,fe C.bP]
abbrev M.xq(Zw:Int×Int×aC×aC×Bool×ak×ak×Int×Bool×ak)(bH:zac)(k:Int×Int×aC×aC×Bool×ak×ak×Int×Bool×ak->Option R):=cond (aj Zw.2.2.2.2.2.2.2.2.2) ((M.aO 37 Zw.2.2.2.2.2.2.1 Zw.2.2.2.2.2.2.2.1 Zw.2.2.2.2.2.2.2.2.1 Zw.2.2.2.2.2.2.2.2.2).bind λe=>cond (aj e.2.2.2.2) ((M.aQ e.2.1 e.2.2.1 e.2.2.2.1 e.2.2.2.2).bind λh=>cond (aj h.2.2.2) ((M.fD 37 false false h.1 h.2.1 h.2.2.1 h.2.2.2).bind λc=>cond (aj c.2.2.2.2.2.2.2.2.2) ((M.aO 37 c.2.2.2.2.2.2.1 c.2.2.2.2.2.2.2.1 c.2.2.2.2.2.2.2.2.1 c.2.2.2.2.2.2.2.2.2).bind λf=>cond (aj f.2.2.2.2) ((M.aQ f.2.1 f.2.2.1 f.2.2.2.1 f.2.2.2.2).bind λg=>cond (aj g.2.2.2) ((M.fD 33 false false g.1 g.2.1 g.2.2.1 g.2.2.2).bind λb=>cond (aj b.2.2.2.2.2.2.2.2.2) ((M.aO 33 b.2.2.2.2.2.2.1 b.2.2.2.2.2.2.2.1 b.2.2.2.2.2.2.2.2.1 b.2.2.2.2.2.2.2.2.2).bind λd=>cond (aj d.2.2.2.2) ((bH d.2.1 d.2.2.1 d.2.2.2.1 d.2.2.2.2).bind λa=>cond (aj a.2.2.2.2.2.2.2.2.2) (k (31,0,[],[],true,[[D.int .i64 Zw.1,D.int .i64 Zw.2.1,D.str Zw.2.2.1,D.str Zw.2.2.2.1,D.sl false 5 (aB Zw.2.2.2.2.2.1)],[D.int .i64 c.1,D.int .i64 c.2.1,D.str c.2.2.1,D.str c.2.2.2.1,D.sl false 5 (aB c.2.2.2.2.2.1)],[D.int .i64 b.1,D.int .i64 b.2.1,D.str b.2.2.1,D.str b.2.2.2.1,D.sl false 5 (aB b.2.2.2.2.2.1)],[D.int .i64 a.1,D.int .i64 a.2.1,D.str a.2.2.1,D.str a.2.2.2.1,D.sl false 5 (aB a.2.2.2.2.2.1)]],a.2.2.2.2.2.2)) none) none) none) none) none) none) none) none) none
def M.yA(bH:zac)(c:ak)(c1:Int)(c2:Bool)(c3:ak)(k:Int×Int×aC×aC×Bool×ak×ak×Int×Bool×ak->Option R):=cond (aj c3) ((M.aO 32 c c1 c2 c3).bind λb=>cond (!b.2.2.2.1) (cond (aj b.2.2.2.2) ((M.aA b.2.1 b.2.2.1 b.2.2.2.1 b.2.2.2.2).bind λa=>cond (a.1==6) (cond (decide (i64.wrap (a.2.2.1+1)<(↑a.2.1.length:Int))) ((idx a.2.1 (i64.wrap (a.2.2.1+1))).bind λn=>(jq .i64 n 0).bind λm=>cond (m==24) (cond (aj a.2.2.2.2) ((M.bF a.2.1 a.2.2.1 a.2.2.2.1 a.2.2.2.2).bind λe=>cond (aj e.2.2.2.2) ((M.aO 24 e.2.1 e.2.2.1 e.2.2.2.1 e.2.2.2.2).bind λh=>cond (aj h.2.2.2.2) ((M.bF h.2.1 h.2.2.1 h.2.2.2.1 h.2.2.2.2).bind λf=>cond (aj f.2.2.2.2) ((M.aO 33 f.2.1 f.2.2.1 f.2.2.2.1 f.2.2.2.2).bind λg=>cond (aj g.2.2.2.2) ((bH g.2.1 g.2.2.1 g.2.2.2.1 g.2.2.2.2).bind λd=>cond (aj d.2.2.2.2.2.2.2.2.2) (k (32,0,e.1,f.1,true,[[D.int .i64 d.1,D.int .i64 d.2.1,D.str d.2.2.1,D.str d.2.2.2.1,D.sl false 5 (aB d.2.2.2.2.2.1)]],d.2.2.2.2.2.2)) none) none) none) none) none) none) (cond (aj a.2.2.2.2) ((M.fD 37 true false a.2.1 a.2.2.1 a.2.2.2.1 a.2.2.2.2).bind λo=>M.xq o bH k) none)) (cond (aj a.2.2.2.2) ((M.fD 37 true false a.2.1 a.2.2.1 a.2.2.2.1 a.2.2.2.2).bind λi=>M.xq i bH k) none)) (cond (aj a.2.2.2.2) ((M.fD 37 true false a.2.1 a.2.2.1 a.2.2.2.1 a.2.2.2.2).bind λj=>M.xq j bH k) none)) none) (cond (aj b.2.2.2.2) ((M.fD 37 true false b.2.1 b.2.2.1 b.2.2.2.1 b.2.2.2.2).bind λl=>M.xq l bH k) none)) none
def C.acp{bH:zac}(CW:S.rC.ok X0 λx=>bH x.2.1.1 x.2.1.2.1 x.2.1.2.2.1 x.2.1.va.1):S.xW.ok X0 λx=>M.yA bH x.2.1.1 x.2.1.2.1 x.2.1.2.2.1 x.2.1.va.1 some:=fnS (λx=>zbJ (M.yA bH) x.2.1) [fe C.aO,fe C.aA,fe C.bF,fe CW,fe C.fD,fe C.aQ] [] (by intros;unfold M.yA M.xq;exact zbK)
abbrev M.Vq(kind:Int)(k:Bool->Option R):=cond (kind==62) (k true) (cond (kind==53) (k true) (k (kind==64)))
def M.FK kind:=M.Vq kind some
def C.FK:=fTa S.FK (λx=>M.Vq x.1.1)
abbrev M.aY(Ym:Int×Int×aC×aC×Bool×ak×Bool×ak×Int×Bool×ak)(k:Int×Int×aC×aC×Bool×ak×Bool×ak×Int×Bool×ak->Option R):=cond (aj Ym.2.2.2.2.2.2.2.2.2.2) (k (Ym.1,Ym.2.1,Ym.2.2.1,Ym.2.2.2.1,false,aB Ym.2.2.2.2.2.1,Ym.2.2.2.2.2.2)) none
def M.Gl(pos:Int)(pos1 pos2 Us aHN:Bool)(c:ak)(c1:Int)(c2:Bool)(c3:ak)(k:Int×Int×aC×aC×Bool×ak×Bool×ak×Int×Bool×ak->Option R):=cond aHN (cond (aj c3) ((M.aA c c1 c2 c3).bind λa=>(M.mP a.1).bind λj=>cond (!j) (cond (aj a.2.2.2.2) ((M.jB a.2.1 a.2.2.1 a.2.2.2.1 a.2.2.2.2).bind λT=>M.aY T k) none) (cond (pos==1) (cond (aj a.2.2.2.2) ((M.bP pos2 Us a.2.1 a.2.2.1 a.2.2.2.1 a.2.2.2.2).bind λf=>M.aY f k) none) (cond (pos==2) (cond (aj a.2.2.2.2) ((M.nS pos2 Us a.2.1 a.2.2.1 a.2.2.2.1 a.2.2.2.2).bind λE=>M.aY E k) none) (cond (pos==3) (cond (aj a.2.2.2.2) ((M.sU pos2 Us a.2.1 a.2.2.1 a.2.2.2.1 a.2.2.2.2).bind λp=>M.aY p k) none) (cond (pos==4) (cond (aj a.2.2.2.2) ((M.oV pos2 Us a.2.1 a.2.2.1 a.2.2.2.1 a.2.2.2.2).bind λm=>M.aY m k) none) (cond (pos==5) (cond (aj a.2.2.2.2) ((M.qI pos2 Us a.2.1 a.2.2.1 a.2.2.2.1 a.2.2.2.2).bind λK=>M.aY K k) none) (cond (pos==6) (cond (aj a.2.2.2.2) ((M.mG pos2 Us a.2.1 a.2.2.1 a.2.2.2.1 a.2.2.2.2).bind λP=>M.aY P k) none) (cond (pos==7) (cond (aj a.2.2.2.2) ((M.lI pos2 Us a.2.1 a.2.2.1 a.2.2.2.1 a.2.2.2.2).bind λq=>M.aY q k) none) (cond (pos==8) (cond (aj a.2.2.2.2) ((M.qV pos2 Us a.2.1 a.2.2.1 a.2.2.2.1 a.2.2.2.2).bind λQ=>M.aY Q k) none) (cond (pos==9) (cond (aj a.2.2.2.2) ((M.jQ pos2 Us a.2.1 a.2.2.1 a.2.2.2.1 a.2.2.2.2).bind λv=>M.aY v k) none) (cond (pos==10) (cond (aj a.2.2.2.2) ((M.oU pos2 Us a.2.1 a.2.2.1 a.2.2.2.1 a.2.2.2.2).bind λx=>M.aY x k) none) (cond (pos==11) (cond (aj a.2.2.2.2) ((M.jK pos2 Us a.2.1 a.2.2.1 a.2.2.2.1 a.2.2.2.2).bind λL=>M.aY L k) none) (cond (pos==12) (cond (aj a.2.2.2.2) ((M.qU pos2 Us a.2.1 a.2.2.1 a.2.2.2.1 a.2.2.2.2).bind λe=>M.aY e k) none) (cond (pos==13) (cond (aj a.2.2.2.2) ((M.o9 a.2.1 a.2.2.1 a.2.2.2.1 a.2.2.2.2).bind λw=>M.aY w k) none) (cond (pos==14) (cond pos1 (cond (aj a.2.2.2.2) ((M.aA a.2.1 a.2.2.1 a.2.2.2.1 a.2.2.2.2).bind λd=>(M.iw d.1).bind λn=>cond n (cond (aj d.2.2.2.2) ((M.kW d.2.1 d.2.2.1 d.2.2.2.1 d.2.2.2.2).bind λD=>M.aY D k) none) (cond (aj d.2.2.2.2) ((M.jy d.2.1 d.2.2.1 d.2.2.2.1 d.2.2.2.2).bind λr=>M.aY r k) none)) none) (cond (aj a.2.2.2.2) ((M.jy a.2.1 a.2.2.1 a.2.2.2.1 a.2.2.2.2).bind λJ=>M.aY J k) none)) (cond (aj a.2.2.2.2) ((M.lH a.2.1 a.2.2.1 a.2.2.2.1 a.2.2.2.2).bind λB=>M.aY B k) none)))))))))))))))) none) (cond (pos==1) (cond (aj c3) ((M.bP pos2 Us c c1 c2 c3).bind λz=>M.aY z k) none) (cond (pos==2) (cond (aj c3) ((M.nS pos2 Us c c1 c2 c3).bind λy=>M.aY y k) none) (cond (pos==3) (cond (aj c3) ((M.sU pos2 Us c c1 c2 c3).bind λN=>M.aY N k) none) (cond (pos==4) (cond (aj c3) ((M.oV pos2 Us c c1 c2 c3).bind λg=>M.aY g k) none) (cond (pos==5) (cond (aj c3) ((M.qI pos2 Us c c1 c2 c3).bind λi=>M.aY i k) none) (cond (pos==6) (cond (aj c3) ((M.mG pos2 Us c c1 c2 c3).bind λO=>M.aY O k) none) (cond (pos==7) (cond (aj c3) ((M.lI pos2 Us c c1 c2 c3).bind λF=>M.aY F k) none) (cond (pos==8) (cond (aj c3) ((M.qV pos2 Us c c1 c2 c3).bind λI=>M.aY I k) none) (cond (pos==9) (cond (aj c3) ((M.jQ pos2 Us c c1 c2 c3).bind λo=>M.aY o k) none) (cond (pos==10) (cond (aj c3) ((M.oU pos2 Us c c1 c2 c3).bind λH=>M.aY H k) none) (cond (pos==11) (cond (aj c3) ((M.jK pos2 Us c c1 c2 c3).bind λC=>M.aY C k) none) (cond (pos==12) (cond (aj c3) ((M.qU pos2 Us c c1 c2 c3).bind λA=>M.aY A k) none) (cond (pos==13) (cond (aj c3) ((M.o9 c c1 c2 c3).bind λl=>M.aY l k) none) (cond (pos==14) (cond pos1 (cond (aj c3) ((M.aA c c1 c2 c3).bind λb=>(M.iw b.1).bind λs=>cond s (cond (aj b.2.2.2.2) ((M.kW b.2.1 b.2.2.1 b.2.2.2.1 b.2.2.2.2).bind λt=>M.aY t k) none) (cond (aj b.2.2.2.2) ((M.jy b.2.1 b.2.2.1 b.2.2.2.1 b.2.2.2.2).bind λh=>M.aY h k) none)) none) (cond (aj c3) ((M.jy c c1 c2 c3).bind λG=>M.aY G k) none)) (cond (aj c3) ((M.lH c c1 c2 c3).bind λu=>M.aY u k) none)))))))))))))))
def M.kN pos pos1 pos2 Us aHN c c1 c2 c3:=M.Gl pos pos1 pos2 Us aHN c c1 c2 c3 some
def C.kN:S.kN.ok X0 λx=>lU M.kN x.1.2.1 x.2.1.1 x.2.1.2.1 x.2.1.2.2.1 x.2.1.va.1:=fnS (λx=>zbJ (M.Gl x.1.2.1.1 x.1.2.1.2.1 x.1.2.1.2.2.1 x.1.2.1.va.1 x.1.2.1.va.2.1) x.2.1) [fe C.aA,fe C.mP,fe C.jB,fe C.bP,fe C.nS,fe C.sU,fe C.oV,fe C.qI,fe C.mG,fe C.lI,fe C.qV,fe C.jQ,fe C.oU,fe C.jK,fe C.qU,fe C.o9,fe C.iw,fe C.kW,fe C.jy,fe C.lH] [] (by intros;unfold M.Gl M.aY;exact zbK)
abbrev M.zh(QD:Int×ak×Int×Bool×ak)(k:Int×Int×aC×aC×Bool×ak×ak×Int×Bool×ak->Option R)(kind:Int):=cond (!QD.2.2.2.1) (cond (aj QD.2.2.2.2) ((M.aA QD.2.1 QD.2.2.1 QD.2.2.2.1 QD.2.2.2.2).bind λa=>(M.FK a.1).bind λd=>cond d (cond (aj a.2.2.2.2) ((M.fE a.2.1 a.2.2.1 a.2.2.2.1 a.2.2.2.2).bind λc=>cond (aj c.2.2.2.2) ((M.kN 9 false false false false c.2.1 c.2.2.1 c.2.2.2.1 c.2.2.2.2).bind λb=>cond (aj b.2.2.2.2.2.2.2.2.2.2) (k (21,i64.wrap (kind - 25),[],c.1,true,[[D.int .i64 b.1,D.int .i64 b.2.1,D.str b.2.2.1,D.str b.2.2.2.1,D.sl false 5 (aB b.2.2.2.2.2.1)]],b.2.2.2.2.2.2.2)) none) none) none) (cond (aj a.2.2.2.2) (k (21,i64.wrap (kind - 25),[],[],true,[],a.2)) none)) none) (cond (aj QD.2.2.2.2) (k (21,i64.wrap (kind - 25),[],[],true,[],QD.2)) none)
abbrev M.zi(V7:Bool×ak×ak×Int×Bool×ak)(k:Int×Int×aC×aC×Bool×ak×ak×Int×Bool×ak->Option R)(kind:Int):=(axK 5 [D.sl V7.1 5 V7.2.1] 0).bind λd=>cond (!V7.2.2.2.2.1) (cond (aj V7.2.2.2.2.2) ((M.aA V7.2.2.1 V7.2.2.2.1 V7.2.2.2.2.1 V7.2.2.2.2.2).bind λa=>(M.FK a.1).bind λe=>cond e (cond (aj a.2.2.2.2) ((M.fE a.2.1 a.2.2.1 a.2.2.2.1 a.2.2.2.2).bind λc=>cond (aj c.2.2.2.2) ((M.kN 9 false false false false c.2.1 c.2.2.1 c.2.2.2.1 c.2.2.2.2).bind λb=>cond (((d.length+[[D.int .i64 b.1,D.int .i64 b.2.1,D.str b.2.2.1,D.str b.2.2.2.1,D.sl false 5 (aB b.2.2.2.2.2.1)]].length) * 72).ble 140737488355328) (cond ((d.length+[[D.int .i64 b.1,D.int .i64 b.2.1,D.str b.2.2.1,D.str b.2.2.2.1,D.sl false 5 (aB b.2.2.2.2.2.1)]].length).ble 140737488355328) (cond (aj b.2.2.2.2.2.2.2.2.2.2) (k (21,i64.wrap (kind - 25),[],c.1,true,d++[[D.int .i64 b.1,D.int .i64 b.2.1,D.str b.2.2.1,D.str b.2.2.2.1,D.sl false 5 (aB b.2.2.2.2.2.1)]],b.2.2.2.2.2.2.2)) none) none) none) none) none) (cond (aj a.2.2.2.2) (k (21,i64.wrap (kind - 25),[],[],true,d,a.2)) none)) none) (cond (aj V7.2.2.2.2.2) (k (21,i64.wrap (kind - 25),[],[],true,d,V7.2.2)) none)
def M.Aj(kind:Int)(c:ak)(c1:Int)(c2:Bool)(c3:ak)(k:Int×Int×aC×aC×Bool×ak×ak×Int×Bool×ak->Option R):=cond (i64.wrap (kind - 25)==1) (cond (aj c3) ((M.iW false true c c1 c2 c3).bind λg=>M.zi g k kind) none) (cond (aj c3) ((M.aA c c1 c2 c3).bind λa=>(M.lJ a.1).bind λe=>cond (!e) (cond (aj a.2.2.2.2) ((M.aA a.2.1 a.2.2.1 a.2.2.2.1 a.2.2.2.2).bind λb=>(M.FK b.1).bind λf=>cond (!f) (cond (aj b.2.2.2.2) ((M.iW false true b.2.1 b.2.2.1 b.2.2.2.1 b.2.2.2.2).bind λd=>M.zi d k kind) none) (M.zh b k kind)) none) (M.zh a k kind)) none)
def M.oz kind c c1 c2 c3:=M.Aj kind c c1 c2 c3 some
def C.oz:S.oz.ok X0 λx=>zbJ (M.oz x.1.2.1) x.2.1:=fnS (λx=>zbJ (M.Aj x.1.2.1) x.2.1) [fe C.iW,fe C.aA,fe C.FK,fe C.fE,fe C.kN,fe C.lJ] [] (by intros;unfold M.Aj M.zi M.zh;exact zbK)
abbrev M.xJ(fK:Int×ak×Int×Bool×ak)(k:Int×Int×aC×aC×Bool×ak×ak×Int×Bool×ak->Option R):=cond (aj fK.2.2.2.2) ((M.oz fK.1 fK.2.1 (i64.wrap (fK.2.2.1+1)) fK.2.2.2.1 fK.2.2.2.2).bind λa=>cond (aj a.2.2.2.2.2.2.2.2.2) (k (a.1,a.2.1,a.2.2.1,a.2.2.2.1,false,aB a.2.2.2.2.2.1,a.2.2.2.2.2.2)) none) none
abbrev M.xK(fK:Int×ak×Int×Bool×ak)(k:Int×Int×aC×aC×Bool×ak×ak×Int×Bool×ak->Option R):=cond (aj fK.2.2.2.2) ((M.aA fK.2.1 (i64.wrap (fK.2.2.1+1)) fK.2.2.2.1 fK.2.2.2.2).bind λa=>(M.lJ a.1).bind λc=>cond (!c) (cond (aj a.2.2.2.2) ((M.bP false false a.2.1 a.2.2.1 a.2.2.2.1 a.2.2.2.2).bind λb=>cond (aj b.2.2.2.2.2.2.2.2.2.2) (k (24,0,[],[],true,[[D.int .i64 b.1,D.int .i64 b.2.1,D.str b.2.2.1,D.str b.2.2.2.1,D.sl false 5 (aB b.2.2.2.2.2.1)]],b.2.2.2.2.2.2.2)) none) none) (cond (aj a.2.2.2.2) (k (24,0,[],[],true,[],a.2)) none)) none
abbrev M.xM(fK:Int×ak×Int×Bool×ak)(k:Int×Int×aC×aC×Bool×ak×ak×Int×Bool×ak->Option R):=cond (aj fK.2.2.2.2) ((M.aA fK.2.1 (i64.wrap (fK.2.2.1+1)) fK.2.2.2.1 fK.2.2.2.2).bind λa=>(M.lJ a.1).bind λc=>cond (!c) (cond (aj a.2.2.2.2) ((M.bP false false a.2.1 a.2.2.1 a.2.2.2.1 a.2.2.2.2).bind λb=>cond (aj b.2.2.2.2.2.2.2.2.2.2) (k (23,0,[],[],true,[[D.int .i64 b.1,D.int .i64 b.2.1,D.str b.2.2.1,D.str b.2.2.2.1,D.sl false 5 (aB b.2.2.2.2.2.1)]],b.2.2.2.2.2.2.2)) none) none) (cond (aj a.2.2.2.2) (k (23,0,[],[],true,[],a.2)) none)) none
abbrev M.xO(fK:Int×ak×Int×Bool×ak)(k:Int×Int×aC×aC×Bool×ak×ak×Int×Bool×ak->Option R):=cond (aj fK.2.2.2.2) ((M.aA fK.2.1 (i64.wrap (fK.2.2.1+1)) fK.2.2.2.1 fK.2.2.2.2).bind λa=>(M.lJ a.1).bind λc=>cond (!c) (cond (aj a.2.2.2.2) ((M.bP false false a.2.1 a.2.2.1 a.2.2.2.1 a.2.2.2.2).bind λb=>cond (aj b.2.2.2.2.2.2.2.2.2.2) (k (26,0,[],[],true,[[D.int .i64 b.1,D.int .i64 b.2.1,D.str b.2.2.1,D.str b.2.2.2.1,D.sl false 5 (aB b.2.2.2.2.2.1)]],b.2.2.2.2.2.2.2)) none) none) (cond (aj a.2.2.2.2) (k (26,0,[],[],true,[],a.2)) none)) none
abbrev M.xP(fK:Int×ak×Int×Bool×ak)(k:Int×Int×aC×aC×Bool×ak×ak×Int×Bool×ak->Option R):=cond (aj fK.2.2.2.2) ((M.aA fK.2.1 (i64.wrap (fK.2.2.1+1)) fK.2.2.2.1 fK.2.2.2.2).bind λa=>(M.lJ a.1).bind λc=>cond (!c) (cond (aj a.2.2.2.2) ((M.bP false false a.2.1 a.2.2.1 a.2.2.2.1 a.2.2.2.2).bind λb=>cond (aj b.2.2.2.2.2.2.2.2.2.2) (k (25,0,[],[],true,[[D.int .i64 b.1,D.int .i64 b.2.1,D.str b.2.2.1,D.str b.2.2.2.1,D.sl false 5 (aB b.2.2.2.2.2.1)]],b.2.2.2.2.2.2.2)) none) none) (cond (aj a.2.2.2.2) (k (25,0,[],[],true,[],a.2)) none)) none
abbrev M.xQ(fK:Int×ak×Int×Bool×ak)(k:Int×Int×aC×aC×Bool×ak×ak×Int×Bool×ak->Option R):=cond (aj fK.2.2.2.2) ((M.aA fK.2.1 (i64.wrap (fK.2.2.1+1)) fK.2.2.2.1 fK.2.2.2.2).bind λa=>(M.lJ a.1).bind λc=>cond (!c) (cond (aj a.2.2.2.2) ((M.bP false false a.2.1 a.2.2.1 a.2.2.2.1 a.2.2.2.2).bind λb=>cond (aj b.2.2.2.2.2.2.2.2.2.2) (k (22,0,[],[],true,[[D.int .i64 b.1,D.int .i64 b.2.1,D.str b.2.2.1,D.str b.2.2.2.1,D.sl false 5 (aB b.2.2.2.2.2.1)]],b.2.2.2.2.2.2.2)) none) none) (cond (aj a.2.2.2.2) (k (22,0,[],[],true,[],a.2)) none)) none
def M.zk(c:ak)(c1:Int)(c2:Bool)(c3:ak)(k:Int×Int×aC×aC×Bool×ak×ak×Int×Bool×ak->Option R):=cond (aj c3) ((M.aA c c1 c2 c3).bind λa=>cond (a.1==25) (M.xJ a k) (cond (a.1==26) (M.xJ a k) (cond (a.1==20) (cond (a.1==21) (M.xQ a k) (cond (a.1==22) (M.xQ a k) (cond (aj a.2.2.2.2) (k (22,0,[],[],true,[],a.2.1,i64.wrap (a.2.2.1+1),a.2.2.2)) none))) (cond (a.1==18) (cond (a.1==21) (M.xP a k) (cond (a.1==22) (M.xP a k) (cond (aj a.2.2.2.2) (k (25,0,[],[],true,[],a.2.1,i64.wrap (a.2.2.1+1),a.2.2.2)) none))) (cond (a.1==19) (cond (a.1==21) (M.xO a k) (cond (a.1==22) (M.xO a k) (cond (aj a.2.2.2.2) (k (26,0,[],[],true,[],a.2.1,i64.wrap (a.2.2.1+1),a.2.2.2)) none))) (cond (a.1==21) (cond (a.1==21) (M.xM a k) (cond (a.1==22) (M.xM a k) (cond (aj a.2.2.2.2) (k (23,0,[],[],true,[],a.2.1,i64.wrap (a.2.2.1+1),a.2.2.2)) none))) (cond (a.1==22) (cond (a.1==21) (M.xK a k) (cond (a.1==22) (M.xK a k) (cond (aj a.2.2.2.2) (k (24,0,[],[],true,[],a.2.1,i64.wrap (a.2.2.1+1),a.2.2.2)) none))) (cond (a.1==23) (cond (aj a.2.2.2.2) ((M.bF a.2.1 (i64.wrap (a.2.2.1+1)) a.2.2.2.1 a.2.2.2.2).bind λe=>cond (!e.2.2.2.1) (cond (aj e.2.2.2.2) ((M.aA e.2.1 e.2.2.1 e.2.2.2.1 e.2.2.2.2).bind λb=>cond (b.1==34) (cond (aj b.2.2.2.2) ((M.jg 35 b.2.1 (i64.wrap (b.2.2.1+1)) b.2.2.2.1 b.2.2.2.2).bind λf=>cond (aj f.2.2.2.2.2) (k (27,0,e.1,[],false,aB f.2.1,f.2.2)) none) none) (cond (aj b.2.2.2.2) (k (27,0,e.1,[],true,[],b.2)) none)) none) (cond (aj e.2.2.2.2) (k (27,0,e.1,[],true,[],e.2)) none)) none) (cond (aj a.2.2.2.2) ((M.bP false false a.2.1 a.2.2.1 a.2.2.2.1 a.2.2.2.2).bind λd=>cond (aj d.2.2.2.2.2.2.2.2.2.2) (k (20,0,[],[],true,[[D.int .i64 d.1,D.int .i64 d.2.1,D.str d.2.2.1,D.str d.2.2.2.1,D.sl false 5 (aB d.2.2.2.2.2.1)]],d.2.2.2.2.2.2.2)) none) none))))))))) none
def M.mQ c c1 c2 c3:=M.zk c c1 c2 c3 some
def C.mQ:S.mQ.ok X0 λx=>zbJ M.mQ x.2.1:=fnS (λx=>zbJ M.zk x.2.1) [fe C.aA,fe C.oz,fe C.lJ,fe C.bP,fe C.bF,fe C.jg] [] (by intros;unfold M.zk M.xQ M.xP M.xO M.xM M.xK M.xJ;exact zbK)
end
noncomputable section
variable {R:Type}
abbrev M.mW(tq:Int×ak×Int×Bool×ak)(jJ:zac)(k:Int×Int×aC×aC×Bool×ak×ak×Int×Bool×ak->Option R)(bH:zac)(kL:zac):=cond (tq.1==13) (cond (aj tq.2.2.2.2) ((jJ tq.2.1 (i64.wrap (tq.2.2.1+1)) tq.2.2.2.1 tq.2.2.2.2).bind λc=>cond (aj c.2.2.2.2.2.2.2.2.2) (k (c.1,c.2.1,c.2.2.1,c.2.2.2.1,false,aB c.2.2.2.2.2.1,c.2.2.2.2.2.2)) none) none) (cond (tq.1==15) (cond (aj tq.2.2.2.2) ((M.ig tq.2.1 (i64.wrap (tq.2.2.1+1)) tq.2.2.2.1 tq.2.2.2.2).bind λe=>cond (aj e.2.2.2.2.2.2.2.2.2) ((bH e.2.2.2.2.2.2.1 e.2.2.2.2.2.2.2.1 e.2.2.2.2.2.2.2.2.1 e.2.2.2.2.2.2.2.2.2).bind λa=>cond (aj a.2.2.2.2.2.2.2.2.2) (k (29,0,[],[],true,[[D.int .i64 e.1,D.int .i64 e.2.1,D.str e.2.2.1,D.str e.2.2.2.1,D.sl false 5 (aB e.2.2.2.2.2.1)],[D.int .i64 a.1,D.int .i64 a.2.1,D.str a.2.2.1,D.str a.2.2.2.1,D.sl false 5 (aB a.2.2.2.2.2.1)]],a.2.2.2.2.2.2)) none) none) none) (cond (tq.1==17) (cond (aj tq.2.2.2.2) ((bH tq.2.1 (i64.wrap (tq.2.2.1+1)) tq.2.2.2.1 tq.2.2.2.2).bind λf=>cond (aj f.2.2.2.2.2.2.2.2.2) ((M.bT f.2.2.2.2.2.2.1 f.2.2.2.2.2.2.2.1 f.2.2.2.2.2.2.2.2.1 f.2.2.2.2.2.2.2.2.2).bind λh=>cond (aj h.2.2.2) ((M.aO 15 h.1 h.2.1 h.2.2.1 h.2.2.2).bind λi=>cond (aj i.2.2.2.2) ((M.ig i.2.1 i.2.2.1 i.2.2.2.1 i.2.2.2.2).bind λd=>cond (!d.2.2.2.2.2.2.2.2.1) (cond (aj d.2.2.2.2.2.2.2.2.2) ((M.jh d.2.2.2.2.2.2.1 d.2.2.2.2.2.2.2.1 d.2.2.2.2.2.2.2.2.1 d.2.2.2.2.2.2.2.2.2).bind λg=>cond (aj g.2.2.2) (k (30,0,[],[],true,[[D.int .i64 f.1,D.int .i64 f.2.1,D.str f.2.2.1,D.str f.2.2.2.1,D.sl false 5 (aB f.2.2.2.2.2.1)],[D.int .i64 d.1,D.int .i64 d.2.1,D.str d.2.2.1,D.str d.2.2.2.1,D.sl false 5 (aB d.2.2.2.2.2.1)]],g)) none) none) (cond (aj d.2.2.2.2.2.2.2.2.2) (k (30,0,[],[],true,[[D.int .i64 f.1,D.int .i64 f.2.1,D.str f.2.2.1,D.str f.2.2.2.1,D.sl false 5 (aB f.2.2.2.2.2.1)],[D.int .i64 d.1,D.int .i64 d.2.1,D.str d.2.2.1,D.str d.2.2.2.1,D.sl false 5 (aB d.2.2.2.2.2.1)]],d.2.2.2.2.2.2)) none)) none) none) none) none) (cond (aj tq.2.2.2.2) ((kL tq.2.1 (i64.wrap (tq.2.2.1+1)) tq.2.2.2.1 tq.2.2.2.2).bind λb=>cond (aj b.2.2.2.2.2.2.2.2.2) (k (b.1,b.2.1,b.2.2.1,b.2.2.2.1,false,aB b.2.2.2.2.2.1,b.2.2.2.2.2.2)) none) none)))
def M.nX(jv:zac)(jJ:zac)(bH:zac)(kL:zac)(c:ak)(c1:Int)(c2:Bool)(c3:ak)(k:Int×Int×aC×aC×Bool×ak×ak×Int×Bool×ak->Option R):=cond (aj c3) ((M.aA c c1 c2 c3).bind λd=>cond (d.1==30) (cond (aj d.2.2.2.2) ((jv d.2.1 d.2.2.1 d.2.2.2.1 d.2.2.2.2).bind λb=>cond (aj b.2.2.2.2.2.2.2.2.2) (k (b.1,b.2.1,b.2.2.1,b.2.2.2.1,false,aB b.2.2.2.2.2.1,b.2.2.2.2.2.2)) none) none) (cond (d.1==13) (M.mW d jJ k bH kL) (cond (d.1==15) (M.mW d jJ k bH kL) (cond (d.1==17) (M.mW d jJ k bH kL) (cond (d.1==16) (M.mW d jJ k bH kL) (cond (aj d.2.2.2.2) ((M.mQ d.2.1 d.2.2.1 d.2.2.2.1 d.2.2.2.2).bind λa=>cond (!a.2.2.2.2.2.2.2.2.1) (cond (aj a.2.2.2.2.2.2.2.2.2) ((M.jh a.2.2.2.2.2.2.1 a.2.2.2.2.2.2.2.1 a.2.2.2.2.2.2.2.2.1 a.2.2.2.2.2.2.2.2.2).bind λe=>cond (aj e.2.2.2) (k (a.1,a.2.1,a.2.2.1,a.2.2.2.1,false,aB a.2.2.2.2.2.1,e)) none) none) (cond (aj a.2.2.2.2.2.2.2.2.2) (k (a.1,a.2.1,a.2.2.1,a.2.2.2.1,false,aB a.2.2.2.2.2.1,a.2.2.2.2.2.2)) none)) none)))))) none
def C.Xy{jv:zac}{jJ:zac}{bH:zac}{kL:zac}(Nl:S.dh.ok X0 λx=>jv x.2.1.1 x.2.1.2.1 x.2.1.2.2.1 x.2.1.va.1)(abp:S.uq.ok X0 λx=>jJ x.2.1.1 x.2.1.2.1 x.2.1.2.2.1 x.2.1.va.1)(CW:S.rC.ok X0 λx=>bH x.2.1.1 x.2.1.2.1 x.2.1.2.2.1 x.2.1.va.1)(aeM:S.xW.ok X0 λx=>kL x.2.1.1 x.2.1.2.1 x.2.1.2.2.1 x.2.1.va.1):S.lq.ok X0 λx=>M.nX jv jJ bH kL x.2.1.1 x.2.1.2.1 x.2.1.2.2.1 x.2.1.va.1 some:=fnS (λx=>zbJ (M.nX jv jJ bH kL) x.2.1) [fe C.aA,fe Nl,fe abp,fe C.ig,fe CW,fe C.bT,fe C.aO,fe C.jh,fe aeM,fe C.mQ] [] (by intros;unfold M.nX M.mW;exact zbK)
def M.rH(bU:zac)(s:zax⊕zaw)(kn:zax⊕zaw->Option R)(ke:zax⊕zaw->Option R):Option R:=match s with
 | .inl (v,v1,v2,x',oO,pX,tZ,xg,BI,F7,Jw,NG)=>bif !v2 then(bif aj NG then((M.aA v v1 v2 NG).bind λc=>bif c.1 !=31 then(bif aj c.2.2.2.2 then((M.dU c.2.1 c.2.2.1 c.2.2.2.1 c.2.2.2.2).bind λe=>bif((aB (aB e.2.1)).length * 72).ble 140737488355328 then(bif(aB (aB e.2.1)).length.ble 140737488355328 then(bif aj e.2.2.2.2.2 then((bU e.2.2.1 e.2.2.2.1 e.2.2.2.2.1 e.2.2.2.2.2).bind λb=>oq (aB (aB e.2.1)) [[D.int .i64 b.1,D.int .i64 b.2.1,D.str b.2.2.1,D.str b.2.2.2.1,D.sl false 5 (aB b.2.2.2.2.2.1)]] 72 λza=>bif aj b.2.2.2.2.2.2.2.2.2 then((M.bT b.2.2.2.2.2.2.1 b.2.2.2.2.2.2.2.1 b.2.2.2.2.2.2.2.2.1 b.2.2.2.2.2.2.2.2.2).bind λg=>kn (.inr (g.1,g.2.1,g.2.2.1,x',oO,pX,tZ,xg,BI,F7,Jw,g.2.2.2,za))) else none) else none) else none) else none) else none) else ke (.inl (c.2.1,c.2.2.1,c.2.2.2.1,x',oO,pX,tZ,xg,BI,F7,Jw,c.2.2.2.2))) else none) else(ke (.inl (v,v1,v2,x',oO,pX,tZ,xg,BI,F7,Jw,NG)))
 | .inr (v,v1,v2,x',oO,pX,tZ,xg,BI,F7,Jw,NG,Rf)=>bif !v2 then(bif aj NG then((M.aA v v1 v2 NG).bind λd=>bif d.1 !=31 then(bif aj d.2.2.2.2 then((M.dU d.2.1 d.2.2.1 d.2.2.2.1 d.2.2.2.2).bind λf=>bif((Rf.length+(aB (aB f.2.1)).length) * 72).ble 140737488355328 then(bif(Rf.length+(aB (aB f.2.1)).length).ble 140737488355328 then(bif aj f.2.2.2.2.2 then((bU f.2.2.1 f.2.2.2.1 f.2.2.2.2.1 f.2.2.2.2.2).bind λa=>oq (Rf++aB (aB f.2.1)) [[D.int .i64 a.1,D.int .i64 a.2.1,D.str a.2.2.1,D.str a.2.2.2.1,D.sl false 5 (aB a.2.2.2.2.2.1)]] 72 λza=>bif aj a.2.2.2.2.2.2.2.2.2 then((M.bT a.2.2.2.2.2.2.1 a.2.2.2.2.2.2.2.1 a.2.2.2.2.2.2.2.2.1 a.2.2.2.2.2.2.2.2.2).bind λh=>kn (.inr (h.1,h.2.1,h.2.2.1,x',oO,pX,tZ,xg,BI,F7,Jw,h.2.2.2,za))) else none) else none) else none) else none) else none) else ke (.inr (d.2.1,d.2.2.1,d.2.2.2.1,x',oO,pX,tZ,xg,BI,F7,Jw,d.2.2.2.2,Rf))) else none) else ke (.inr (v,v1,v2,x',oO,pX,tZ,xg,BI,F7,Jw,NG,Rf))
def M.rJ bU s:=M.rH bU s (λs=>some (Sum.inl s)) λt=>some (Sum.inr t)
def M.qN bU s:=fH (M.rJ bU) s
def F.qN{bU:zac}(uX:S.lq.ok X0 λx=>bU x.2.1.1 x.2.1.2.1 x.2.1.2.2.1 x.2.1.va.1):LE X0 70:=le 4 (pOr (Ik zbx [dA 100000 zbu,dA 300000 zbp,dA 300001 zbp,dA 300002 zbl]) (Ik zbx zbz)) (σ:=zax⊕zaw) (λx=>(match x with| .inl x=> .inl ((x.2.1.1,x.2.1.2.1,x.2.1.2.2.1,x.2.2.1.1,x.2.2.1.2.1,x.2.2.1.2.2.1,x.2.2.1.va.1,x.va.1.1,x.va.1.2.1,x.va.1.2.2.1,x.va.1.va.1,x.va.2.1))| .inr x=> .inr ((x.2.1.1,x.2.1.2.1,x.2.1.2.2.1,x.2.2.1.1,x.2.2.1.2.1,x.2.2.1.2.2.1,x.2.2.1.va.1,x.va.1.1,x.va.1.2.1,x.va.1.2.2.1,x.va.1.va.1,x.va.2.1,x.va.2.2.1)))) (λx s=>(match s with| .inl s=> .inl ((((),(),(),()),((s.1,s.2.1,s.2.2.1,(),()),(s.va.1,s.va.2.1,s.va.2.2.1,s.va.va.1,(),()),(s.va.va.2.1,s.wc.1,s.wc.2.1,s.wc.2.2.1,(),()),s.wc.va,())))| .inr s=> .inr ((((),(),(),()),((s.1,s.2.1,s.2.2.1,(),()),(s.va.1,s.va.2.1,s.va.2.2.1,s.va.va.1,(),()),(s.va.va.2.1,s.wc.1,s.wc.2.1,s.wc.2.2.1,(),()),s.wc.va.1,s.wc.va.2,()))))) (λx=> .sum (.leaf zax (λt=>(Ex.exit 0,⟨[(0,V.ptr 100000 0),(2,V.ptr 300000 0),(3,V.ptr 300001 0),(18,oC false)],[(100000,zba t 300002),(300000,Cell.box 50 [iE t.va.1,iE t.va.2.1,qw t.va.2.2.1,qw t.va.va.1,V.nil 5]),(300001,Cell.box 50 [iE t.va.va.2.1,iE t.wc.1,qw t.wc.2.1,qw t.wc.2.2.1,V.nil 5]),(300002,Cell.arr false true 0 1 t.wc.va)]⟩))) (.leaf zaw (λt=>(Ex.exit 0,⟨[(0,V.ptr 100000 0),(2,V.ptr 300000 0),(3,V.ptr 300001 0),(18,oC false)],[(100000,zba t 300002),(300000,Cell.box 50 [iE t.va.1,iE t.va.2.1,qw t.va.2.2.1,qw t.va.va.1,V.nil 5]),(300001,Cell.box 50 [iE t.va.va.2.1,iE t.wc.1,qw t.wc.2.1,qw t.wc.2.2.1,V.own 300003 0]),(300002,Cell.arr false true 0 1 t.wc.va.1),(300003,Cell.arr false false 0 5 t.wc.va.2)]⟩)))) (λx=>M.rH bU) [fe C.aA,fe C.dU,fe uX,fe C.bT] [] (by rintro _ _ (⟨_,_,_,_,_,_,_,_,_,_,_,_⟩|⟨_,_,_,_,_,_,_,_,_,_,_,_,_⟩) _ _<;>unfold M.rH<;>exact zbK) (hE:=by intro _ _ s _;rcases s with s|s<;>kernel_rfl)
def M.rX(bU:zac)(c:ak)(c1:Int)(c2:Bool)(c3:ak)(k:Int×Int×aC×aC×Bool×ak×ak×Int×Bool×ak->Option R):=cond (aj c3) ((M.aO 30 c c1 c2 c3).bind λf=>cond (aj f.2.2.2.2) ((M.bT f.2.1 f.2.2.1 f.2.2.2.1 f.2.2.2.2).bind λi=>(M.qN bU (.inl (i.1,i.2.1,i.2.2.1,0,0,[],[],33,0,[],[],i.2.2.2))).bind λj=>jX j (λa=>cond (aj a.2.2.2.2.2.2.2.2.2.2.2) ((M.aO 31 a.1 a.2.1 a.2.2.1 a.2.2.2.2.2.2.2.2.2.2.2).bind λg=>cond (aj g.2.2.2.2) ((M.dU g.2.1 g.2.2.1 g.2.2.2.1 g.2.2.2.2).bind λb=>cond (((aB (aB b.2.1)).length * 72).ble 140737488355328) (cond ((aB (aB b.2.1)).length.ble 140737488355328) (cond (aj b.2.2.2.2.2) (k (a.2.2.2.2.2.2.2.1,a.2.2.2.2.2.2.2.2.1,a.2.2.2.2.2.2.2.2.2.1,a.2.2.2.2.2.2.2.2.2.2.1,true,aB (aB b.2.1),b.2.2)) none) none) none) none) none) λl=>letE l λe=>cond (aj e.2.2.2.2.2.2.2.2.2.2.2.1) ((M.aO 31 e.1 e.2.1 e.2.2.1 e.2.2.2.2.2.2.2.2.2.2.2.1).bind λh=>cond (aj h.2.2.2.2) ((M.dU h.2.1 h.2.2.1 h.2.2.2.1 h.2.2.2.2).bind λd=>cond (((e.2.2.2.2.2.2.2.2.2.2.2.2.length+(aB (aB d.2.1)).length) * 72).ble 140737488355328) (cond ((e.2.2.2.2.2.2.2.2.2.2.2.2.length+(aB (aB d.2.1)).length).ble 140737488355328) (cond (aj d.2.2.2.2.2) (k (e.2.2.2.2.2.2.2.1,e.2.2.2.2.2.2.2.2.1,e.2.2.2.2.2.2.2.2.2.1,e.2.2.2.2.2.2.2.2.2.2.1,true,e.2.2.2.2.2.2.2.2.2.2.2.2++aB (aB d.2.1),d.2.2)) none) none) none) none) none) none) none
def C.abq{bU:zac}(uX:S.lq.ok X0 λx=>bU x.2.1.1 x.2.1.2.1 x.2.1.2.2.1 x.2.1.va.1):S.dh.ok X0 λx=>M.rX bU x.2.1.1 x.2.1.2.1 x.2.1.2.2.1 x.2.1.va.1 some:=fnS (λx=>zbJ (M.rX bU) x.2.1) [fe C.aO,fe C.bT,fe C.dU] [F.qN uX] (by intros;unfold M.rX;exact zbK)
def M.jk:Nat->(zac)×(zac)×(zac)×(zac)×(zac):=Nat.rec (λ_ _ _ _=>none,λ_ _ _ _=>none,λ_ _ _ _=>none,λ_ _ _ _=>none,λ_ _ _ _=>none) λ_ qz=>(λc c1 c2 c3=>M.rX qz.2.2.2.2 c c1 c2 c3 some,λc c1 c2 c3=>M.uJ qz.1 qz.2.2.2.2 c c1 c2 c3 some,λc c1 c2 c3=>M.uY qz.2.1 c c1 c2 c3 some,λc c1 c2 c3=>M.yA qz.2.1 c c1 c2 c3 some,λc c1 c2 c3=>M.nX qz.1 qz.2.2.1 qz.2.1 qz.2.2.2.1 c c1 c2 c3 some)
def M.nP n:=(M.jk n).1
def M.kX n:=(M.jk n).2.1
def M.zl n:=(M.jk n).2.2.1
def M.CX n:=(M.jk n).2.2.2.1
def M.jO n:=(M.jk n).2.2.2.2
def M.U4(n:Nat):M.nP (n+1)=λc c1 c2 c3=>M.rX (M.jO n) c c1 c2 c3 some:=rfl
def M.V9(n:Nat):M.kX (n+1)=λc c1 c2 c3=>M.uJ (M.nP n) (M.jO n) c c1 c2 c3 some:=rfl
def M.abr(n:Nat):M.zl (n+1)=λc c1 c2 c3=>M.uY (M.kX n) c c1 c2 c3 some:=rfl
def M.aeN(n:Nat):M.CX (n+1)=λc c1 c2 c3=>M.yA (M.kX n) c c1 c2 c3 some:=rfl
def M.O5(n:Nat):M.jO (n+1)=λc c1 c2 c3=>M.nX (M.nP n) (M.zl n) (M.kX n) (M.CX n) c c1 c2 c3 some:=rfl
def M.dh c c1 c2 c3:=lim λn=>M.nP n c c1 c2 c3
def M.rC c c1 c2 c3:=lim λn=>M.kX n c c1 c2 c3
def M.uq c c1 c2 c3:=lim λn=>M.zl n c c1 c2 c3
def M.xW c c1 c2 c3:=lim λn=>M.CX n c c1 c2 c3
def M.lq c c1 c2 c3:=lim λn=>M.jO n c c1 c2 c3
def C.jk:∀n,(S.dh.ok X0 λx=>zbJ (M.nP n) x.2.1)/\(S.rC.ok X0 λx=>zbJ (M.kX n) x.2.1)/\(S.uq.ok X0 λx=>zbJ (M.zl n) x.2.1)/\(S.xW.ok X0 λx=>zbJ (M.CX n) x.2.1)/\(S.lq.ok X0 λx=>zbJ (M.jO n) x.2.1)
 |0=>⟨eP.zero,eP.zero,eP.zero,eP.zero,eP.zero⟩
 |n+1=>have h:=C.jk n;⟨C.abq h.2.2.2.2,C.aco h.1 h.2.2.2.2,C.ZP h.2.1,C.acp h.2.1,C.Xy h.1 h.2.2.1 h.2.1 h.2.2.2.1⟩
def C.dh:S.dh.ok X0 λx=>zbJ M.dh x.2.1:=eP.lim λn=>(C.jk n).1
def M.Ut{n:Nat}{c:ak}{c1:Int}{c2:Bool}{c3:ak}{r:Int×Int×aC×aC×Bool×ak×ak×Int×Bool×ak}(h:M.nP n c c1 c2 c3=some r):M.dh c c1 c2 c3=some r:=eP.Ij (λn=>(C.jk n).1) (by intro a b h;simp[S.dh,sg] at h;first|exact h|simp[Prod.ext_iff,h]) (x:=(((),()),((c,c1,c2,c3,()),()))) h
def C.rC:S.rC.ok X0 λx=>zbJ M.rC x.2.1:=eP.lim λn=>(C.jk n).2.1
def C.uq:S.uq.ok X0 λx=>zbJ M.uq x.2.1:=eP.lim λn=>(C.jk n).2.2.1
def C.xW:S.xW.ok X0 λx=>zbJ M.xW x.2.1:=eP.lim λn=>(C.jk n).2.2.2.1
def C.lq:S.lq.ok X0 λx=>zbJ M.lq x.2.1:=eP.lim λn=>(C.jk n).2.2.2.2
def M.iO(s:zaQ⊕zaw)(kn:zaQ⊕zaw->Option R)(ke:zaw⊕zax⊕zaT⊕zaw->Option R):Option R:=match s with
 | .inl (v31,v,v1,v2,x',oO,pX,tZ,xg,BI,F7,Jw,NG)=>bif !v2 then(bif aj NG then((M.bF v v1 v2 NG).bind λc=>bif c.2.2.2.1 then(ke (.inl (c.2.1,c.2.2.1,c.2.2.2.1,x',oO,pX,tZ,xg,BI,F7,Jw,c.2.2.2.2,[[D.int .i64 1,D.int .i64 0,D.str c.1,D.str [],D.sl true 5 []]]))) else bif aj c.2.2.2.2 then((M.aA c.2.1 c.2.2.1 c.2.2.2.1 c.2.2.2.2).bind λb=>bif b.1 !=36 then(ke (.inl (b.2.1,b.2.2.1,b.2.2.2.1,x',oO,pX,tZ,xg,BI,F7,Jw,b.2.2.2.2,[[D.int .i64 1,D.int .i64 0,D.str c.1,D.str [],D.sl true 5 []]]))) else bif aj b.2.2.2.2 then((M.aQ b.2.1 (i64.wrap (b.2.2.1+1)) b.2.2.2.1 b.2.2.2.2).bind λe=>kn (.inr (e.1,e.2.1,e.2.2.1,x',oO,pX,tZ,xg,BI,F7,Jw,e.2.2.2,[[D.int .i64 1,D.int .i64 0,D.str c.1,D.str [],D.sl true 5 []]]))) else none) else none) else none) else(ke (.inr (.inl (v,v1,v2,x',oO,pX,tZ,xg,BI,F7,Jw,NG))))
 | .inr (v,v1,v2,x',oO,pX,tZ,xg,BI,F7,Jw,NG,Rf)=>bif !v2 then(bif aj NG then((M.bF v v1 v2 NG).bind λa=>oq Rf [[D.int .i64 1,D.int .i64 0,D.str a.1,D.str [],D.sl true 5 []]] 72 λg=>bif a.2.2.2.1 then(ke (.inl (a.2.1,a.2.2.1,a.2.2.2.1,x',oO,pX,tZ,xg,BI,F7,Jw,a.2.2.2.2,g))) else bif aj a.2.2.2.2 then((M.aA a.2.1 a.2.2.1 a.2.2.2.1 a.2.2.2.2).bind λd=>bif d.1 !=36 then(ke (.inl (d.2.1,d.2.2.1,d.2.2.2.1,x',oO,pX,tZ,xg,BI,F7,Jw,d.2.2.2.2,g))) else bif(↑g.length:Int)==6 then(ke (.inr (.inr (.inl (d.2.1,d.2.2.1,x',oO,pX,tZ,xg,BI,F7,Jw,d.2.2.2.2,g))))) else bif aj d.2.2.2.2 then((M.aQ d.2.1 (i64.wrap (d.2.2.1+1)) d.2.2.2.1 d.2.2.2.2).bind λf=>kn (.inr (f.1,f.2.1,f.2.2.1,x',oO,pX,tZ,xg,BI,F7,Jw,f.2.2.2,g))) else none) else none) else none) else ke (.inr (.inr (.inr (v,v1,v2,x',oO,pX,tZ,xg,BI,F7,Jw,NG,Rf))))
def M.dV s:=M.iO s (λs=>some (Sum.inl s)) λt=>some (Sum.inr t)
def M.lF s:=fH (M.dV) s
def F.lF:LE X0 71:=le 8 (pOr (Ik [dA 0 (pP 100000 0),dA 2 (pP 300000 0),dA 3 (pP 300001 0),dA 31 pB] [dA 100000 zbu,dA 300000 zbp,dA 300001 zbp,dA 300002 zbl]) (Ik zbx zbz)) (σ:=zaQ⊕zaw) (λx=>(match x with| .inl x=> .inl ((x.1.va.1,x.2.1.1,x.2.1.2.1,x.2.1.2.2.1,x.2.2.1.1,x.2.2.1.2.1,x.2.2.1.2.2.1,x.2.2.1.va.1,x.va.1.1,x.va.1.2.1,x.va.1.2.2.1,x.va.1.va.1,x.va.2.1))| .inr x=> .inr ((x.2.1.1,x.2.1.2.1,x.2.1.2.2.1,x.2.2.1.1,x.2.2.1.2.1,x.2.2.1.2.2.1,x.2.2.1.va.1,x.va.1.1,x.va.1.2.1,x.va.1.2.2.1,x.va.1.va.1,x.va.2.1,x.va.2.2.1)))) (λx s=>(match s with| .inl s=> .inl ((((),(),(),s.1,()),((s.2.1,s.2.2.1,s.va.1,(),()),(s.va.2.1,s.va.2.2.1,s.va.va.1,s.va.va.2.1,(),()),(s.wc.1,s.wc.2.1,s.wc.2.2.1,s.wc.va.1,(),()),s.wc.va.2,())))| .inr s=> .inr ((((),(),(),()),((s.1,s.2.1,s.2.2.1,(),()),(s.va.1,s.va.2.1,s.va.2.2.1,s.va.va.1,(),()),(s.va.va.2.1,s.wc.1,s.wc.2.1,s.wc.2.2.1,(),()),s.wc.va.1,s.wc.va.2,()))))) (λx=> .sum (.leaf zaw (λt=>(Ex.exit 0,⟨[(0,V.ptr 100000 0),(2,V.ptr 300000 0),(3,V.ptr 300001 0),(53,oC true)],[(100000,zba t 300002),(300000,Cell.box 50 [iE t.va.1,iE t.va.2.1,qw t.va.2.2.1,qw t.va.va.1,V.nil 5]),(300001,Cell.box 50 [iE t.va.va.2.1,iE t.wc.1,qw t.wc.2.1,qw t.wc.2.2.1,V.own 300003 0]),(300002,Cell.arr false true 0 1 t.wc.va.1),(300003,Cell.arr false false 0 5 t.wc.va.2)]⟩))) (.sum (.leaf zax (λt=>(Ex.exit 0,⟨[(0,V.ptr 100000 0),(2,V.ptr 300000 0),(3,V.ptr 300001 0),(36,oC false)],[(100000,zba t 300002),(300000,Cell.box 50 [iE t.va.1,iE t.va.2.1,qw t.va.2.2.1,qw t.va.va.1,V.nil 5]),(300001,Cell.box 50 [iE t.va.va.2.1,iE t.wc.1,qw t.wc.2.1,qw t.wc.2.2.1,V.nil 5]),(300002,Cell.arr false true 0 1 t.wc.va)]⟩))) (.sum (.leaf zaT (λt=>(Ex.exit 0,⟨[(0,V.ptr 100000 0),(2,V.ptr 300000 0),(3,V.ptr 300001 0)],[(100000,Cell.box 65 [DC 3 t.1,iE t.2.1,oC true,V.own 300002 0]),(300000,Cell.box 50 [iE t.2.2.1,iE t.va.1,qw t.va.2.1,qw t.va.2.2.1,V.nil 5]),(300001,Cell.box 50 [iE t.va.va.1,iE t.va.va.2.1,qw t.wc.1,qw t.wc.2.1,V.own 300003 0]),(300002,Cell.arr false true 0 1 t.wc.2.2.1),(300003,Cell.arr false false 0 5 t.wc.va)]⟩))) (.leaf zaw (λt=>(Ex.exit 0,⟨[(0,V.ptr 100000 0),(2,V.ptr 300000 0),(3,V.ptr 300001 0),(36,oC false)],[(100000,zba t 300002),(300000,Cell.box 50 [iE t.va.1,iE t.va.2.1,qw t.va.2.2.1,qw t.va.va.1,V.nil 5]),(300001,Cell.box 50 [iE t.va.va.2.1,iE t.wc.1,qw t.wc.2.1,qw t.wc.2.2.1,V.own 300003 0]),(300002,Cell.arr false true 0 1 t.wc.va.1),(300003,Cell.arr false false 0 5 t.wc.va.2)]⟩)))))) (λx=>M.iO) [fe C.bF,fe C.aA,fe C.aQ] [] (by rintro _ _ (⟨_,_,_,_,_,_,_,_,_,_,_,_,_⟩|⟨_,_,_,_,_,_,_,_,_,_,_,_,_⟩) _ _<;>unfold M.iO<;>exact zbK) (hE:=by intro _ _ s _;rcases s with s|s<;>kernel_rfl)
abbrev M.CY(akh:Bool×ak×Int×Bool×ak)(k:Int×Int×aC×aC×Bool×ak×ak×Int×Bool×ak->Option R)(adF:aC×ak×Int×Bool×ak):=cond (aj akh.2.2.2.2) ((M.aQ akh.2.1 akh.2.2.1 akh.2.2.2.1 akh.2.2.2.2).bind λb=>cond (aj b.2.2.2) ((M.dh b.1 b.2.1 b.2.2.1 b.2.2.2).bind λa=>cond (aj a.2.2.2.2.2.2.2.2.2) (k (44,0,adF.1,[],true,[[D.int .i64 a.1,D.int .i64 a.2.1,D.str a.2.2.1,D.str a.2.2.2.1,D.sl false 5 (aB a.2.2.2.2.2.1)]],a.2.2.2.2.2.2)) none) none) none
abbrev M.CZ(Xf:ak×Int×Bool×Int×Int×aC×aC×Int×Int×aC×aC×ak×ak)(k:Int×Int×aC×aC×Bool×ak×ak×Int×Bool×ak->Option R):=cond (aj Xf.2.2.2.2.2.2.2.2.2.2.2.1) ((M.aO 33 Xf.1 Xf.2.1 Xf.2.2.1 Xf.2.2.2.2.2.2.2.2.2.2.2.1).bind λc=>cond (aj c.2.2.2.2) ((M.aQ c.2.1 c.2.2.1 c.2.2.2.1 c.2.2.2.2).bind λb=>cond (aj b.2.2.2) ((M.dh b.1 b.2.1 b.2.2.1 b.2.2.2).bind λa=>cond (((Xf.2.2.2.2.2.2.2.2.2.2.2.2.length+[[D.int .i64 a.1,D.int .i64 a.2.1,D.str a.2.2.1,D.str a.2.2.2.1,D.sl false 5 (aB a.2.2.2.2.2.1)]].length) * 72).ble 140737488355328) (cond ((Xf.2.2.2.2.2.2.2.2.2.2.2.2.length+[[D.int .i64 a.1,D.int .i64 a.2.1,D.str a.2.2.1,D.str a.2.2.2.1,D.sl false 5 (aB a.2.2.2.2.2.1)]].length).ble 140737488355328) (cond (aj a.2.2.2.2.2.2.2.2.2) (k (Xf.2.2.2.2.2.2.2.1,Xf.2.2.2.2.2.2.2.2.1,Xf.2.2.2.2.2.2.2.2.2.1,Xf.2.2.2.2.2.2.2.2.2.2.1,true,Xf.2.2.2.2.2.2.2.2.2.2.2.2++[[D.int .i64 a.1,D.int .i64 a.2.1,D.str a.2.2.1,D.str a.2.2.2.1,D.sl false 5 (aB a.2.2.2.2.2.1)]],a.2.2.2.2.2.2)) none) none) none) none) none) none
abbrev M.zF(Zy:Int×ak×Int×Bool×ak)(k:Int×Int×aC×aC×Bool×ak×ak×Int×Bool×ak->Option R):=cond (aj Zy.2.2.2.2) ((M.fE Zy.2.1 Zy.2.2.1 Zy.2.2.2.1 Zy.2.2.2.2).bind λg=>cond (aj g.2.2.2.2) ((M.aO 32 g.2.1 g.2.2.1 g.2.2.2.1 g.2.2.2.2).bind λb=>cond (!b.2.2.2.1) (cond (aj b.2.2.2.2) ((M.aA b.2.1 b.2.2.1 b.2.2.2.1 b.2.2.2.2).bind λd=>cond (d.1 !=33) ((M.lF (.inl (true,d.2.1,d.2.2.1,d.2.2.2.1,0,0,[],[],44,0,g.1,[],d.2.2.2.2))).bind λo=>jX o (λt=>M.CZ t k) λp=>jX p (λf=>cond (aj f.2.2.2.2.2.2.2.2.2.2.2) ((M.aO 33 f.1 f.2.1 f.2.2.1 f.2.2.2.2.2.2.2.2.2.2.2).bind λi=>cond (aj i.2.2.2.2) ((M.aQ i.2.1 i.2.2.1 i.2.2.2.1 i.2.2.2.2).bind λj=>cond (aj j.2.2.2) ((M.dh j.1 j.2.1 j.2.2.1 j.2.2.2).bind λc=>cond (aj c.2.2.2.2.2.2.2.2.2) (k (f.2.2.2.2.2.2.2.1,f.2.2.2.2.2.2.2.2.1,f.2.2.2.2.2.2.2.2.2.1,f.2.2.2.2.2.2.2.2.2.2.1,true,[[D.int .i64 c.1,D.int .i64 c.2.1,D.str c.2.2.1,D.str c.2.2.2.1,D.sl false 5 (aB c.2.2.2.2.2.1)]],c.2.2.2.2.2.2)) none) none) none) none) λq=>jX q (λa=>cond (aj a.2.2.2.2.2.2.2.2.2.2.1) ((M.aO 33 a.1 a.2.1 true a.2.2.2.2.2.2.2.2.2.2.1).bind λl=>cond (aj l.2.2.2.2) ((M.aQ l.2.1 l.2.2.1 l.2.2.2.1 l.2.2.2.2).bind λh=>cond (aj h.2.2.2) ((M.dh h.1 h.2.1 h.2.2.1 h.2.2.2).bind λe=>cond (((a.2.2.2.2.2.2.2.2.2.2.2.length+[[D.int .i64 e.1,D.int .i64 e.2.1,D.str e.2.2.1,D.str e.2.2.2.1,D.sl false 5 (aB e.2.2.2.2.2.1)]].length) * 72).ble 140737488355328) (cond ((a.2.2.2.2.2.2.2.2.2.2.2.length+[[D.int .i64 e.1,D.int .i64 e.2.1,D.str e.2.2.1,D.str e.2.2.2.1,D.sl false 5 (aB e.2.2.2.2.2.1)]].length).ble 140737488355328) (cond (aj e.2.2.2.2.2.2.2.2.2) (k (a.2.2.2.2.2.2.1,a.2.2.2.2.2.2.2.1,a.2.2.2.2.2.2.2.2.1,a.2.2.2.2.2.2.2.2.2.1,true,a.2.2.2.2.2.2.2.2.2.2.2++[[D.int .i64 e.1,D.int .i64 e.2.1,D.str e.2.2.1,D.str e.2.2.2.1,D.sl false 5 (aB e.2.2.2.2.2.1)]],e.2.2.2.2.2.2)) none) none) none) none) none) none) λn=>letE n λs=>M.CZ s k) (cond (aj d.2.2.2.2) ((M.aO 33 d.2.1 d.2.2.1 d.2.2.2.1 d.2.2.2.2).bind λm=>M.CY m k g) none)) none) (cond (aj b.2.2.2.2) ((M.aO 33 b.2.1 b.2.2.1 b.2.2.2.1 b.2.2.2.2).bind λr=>M.CY r k g) none)) none) none
def M.A8(c:ak)(c1:Int)(c2:Bool)(c3:ak)(k:Int×Int×aC×aC×Bool×ak×ak×Int×Bool×ak->Option R):=cond (aj c3) ((M.aA c c1 c2 c3).bind λa=>cond (a.1 !=6) (cond (aj a.2.2.2.2) ((M.aA a.2.1 a.2.2.1 a.2.2.2.1 a.2.2.2.2).bind λb=>cond (b.1 !=7) (cond (aj b.2.2.2.2) (k (44,0,[],[],true,[],b.2.1,b.2.2.1,true,b.2.2.2.2)) none) (M.zF b k)) none) (M.zF a k)) none
def M.oH c c1 c2 c3:=M.A8 c c1 c2 c3 some
def C.oH:S.oH.ok X0 λx=>zbJ M.oH x.2.1:=fnS (λx=>zbJ M.A8 x.2.1) [fe C.aA,fe C.fE,fe C.aO,fe C.aQ,fe C.dh] [F.lF] (by intros;unfold M.A8 M.zF;exact zbK)
abbrev M.Gm(akj:ak×Int×Bool×ak)(k:Int×Int×aC×aC×Bool×ak×ak×Int×Bool×ak->Option R)(iJ vG:Int×Int×aC×aC×Bool×ak×Bool×ak×Int×Bool×ak):=cond (aj akj.2.2.2) (k (43,1,[],[],true,[[D.int .i64 iJ.1,D.int .i64 iJ.2.1,D.str iJ.2.2.1,D.str iJ.2.2.2.1,D.sl false 5 (aB iJ.2.2.2.2.2.1)]]++[[D.int .i64 vG.1,D.int .i64 vG.2.1,D.str vG.2.2.1,D.str vG.2.2.2.1,D.sl false 5 (aB vG.2.2.2.2.2.1)]],akj)) none
abbrev M.Gn(QE:Int×ak×Int×Bool×ak)(k:Int×Int×aC×aC×Bool×ak×ak×Int×Bool×ak->Option R)(iJ:Int×Int×aC×aC×Bool×ak×Bool×ak×Int×Bool×ak):=cond (QE.1==30) (cond (aj QE.2.2.2.2) ((M.dh QE.2.1 QE.2.2.1 QE.2.2.2.1 QE.2.2.2.2).bind λa=>cond (aj a.2.2.2.2.2.2.2.2.2) (k (42,3,[],[],true,[[D.int .i64 iJ.1,D.int .i64 iJ.2.1,D.str iJ.2.2.1,D.str iJ.2.2.2.1,D.sl false 5 (aB iJ.2.2.2.2.2.1)]]++[[D.int .i64 a.1,D.int .i64 a.2.1,D.str a.2.2.1,D.str a.2.2.2.1,D.sl false 5 (aB a.2.2.2.2.2.1)]],a.2.2.2.2.2.2)) none) none) (cond (!QE.2.2.2.1) (cond (aj QE.2.2.2.2) ((M.jh QE.2.1 QE.2.2.1 QE.2.2.2.1 QE.2.2.2.2).bind λb=>cond (aj b.2.2.2) (k (42,1,[],[],true,[[D.int .i64 iJ.1,D.int .i64 iJ.2.1,D.str iJ.2.2.1,D.str iJ.2.2.2.1,D.sl false 5 (aB iJ.2.2.2.2.2.1)]],b)) none) none) (cond (aj QE.2.2.2.2) (k (42,1,[],[],true,[[D.int .i64 iJ.1,D.int .i64 iJ.2.1,D.str iJ.2.2.1,D.str iJ.2.2.2.1,D.sl false 5 (aB iJ.2.2.2.2.2.1)]],QE.2)) none))
def M.IU(c:ak)(c1:Int)(c2:Bool)(c3:ak)(k:Int×Int×aC×aC×Bool×ak×ak×Int×Bool×ak->Option R):=cond (aj c3) ((M.aA c c1 c2 c3).bind λd=>cond (d.1==10) (cond (aj d.2.2.2.2) ((M.dh d.2.1 (i64.wrap (d.2.2.1+1)) d.2.2.2.1 d.2.2.2.2).bind λg=>cond (aj g.2.2.2.2.2.2.2.2.2) (k (40,0,[],[],true,[[D.int .i64 g.1,D.int .i64 g.2.1,D.str g.2.2.1,D.str g.2.2.2.1,D.sl false 5 (aB g.2.2.2.2.2.1)]],g.2.2.2.2.2.2)) none) none) (cond (d.1==11) (cond (aj d.2.2.2.2) ((M.dh d.2.1 (i64.wrap (d.2.2.1+1)) d.2.2.2.1 d.2.2.2.2).bind λi=>cond (aj i.2.2.2.2.2.2.2.2.2) (k (41,0,[],[],true,[[D.int .i64 i.1,D.int .i64 i.2.1,D.str i.2.2.1,D.str i.2.2.2.1,D.sl false 5 (aB i.2.2.2.2.2.1)]],i.2.2.2.2.2.2)) none) none) (cond (d.1==12) (cond (aj d.2.2.2.2) ((M.oH d.2.1 (i64.wrap (d.2.2.1+1)) d.2.2.2.1 d.2.2.2.2).bind λf=>cond (aj f.2.2.2.2.2.2.2.2.2) (k (f.1,f.2.1,f.2.2.1,f.2.2.2.1,false,aB f.2.2.2.2.2.1,f.2.2.2.2.2.2)) none) none) (cond (d.1==30) (cond (aj d.2.2.2.2) ((M.dh d.2.1 d.2.2.1 d.2.2.2.1 d.2.2.2.2).bind λj=>cond (aj j.2.2.2.2.2.2.2.2.2) (k (42,2,[],[],true,[[D.int .i64 j.1,D.int .i64 j.2.1,D.str j.2.2.1,D.str j.2.2.2.1,D.sl false 5 (aB j.2.2.2.2.2.1)]],j.2.2.2.2.2.2)) none) none) (cond (aj d.2.2.2.2) ((M.bP false false d.2.1 d.2.2.1 d.2.2.2.1 d.2.2.2.2).bind λa=>cond (!a.2.2.2.2.2.2.2.2.2.1) (cond (aj a.2.2.2.2.2.2.2.2.2.2) ((M.aA a.2.2.2.2.2.2.2.1 a.2.2.2.2.2.2.2.2.1 a.2.2.2.2.2.2.2.2.2.1 a.2.2.2.2.2.2.2.2.2.2).bind λe=>cond (e.1==36) (cond (aj e.2.2.2.2) ((M.aQ e.2.1 (i64.wrap (e.2.2.1+1)) e.2.2.2.1 e.2.2.2.2).bind λo=>cond (aj o.2.2.2) ((M.bP false false o.1 o.2.1 o.2.2.1 o.2.2.2).bind λb=>cond (!b.2.2.2.2.2.2.2.2.2.1) (cond (aj b.2.2.2.2.2.2.2.2.2.2) ((M.aA b.2.2.2.2.2.2.2.1 b.2.2.2.2.2.2.2.2.1 b.2.2.2.2.2.2.2.2.2.1 b.2.2.2.2.2.2.2.2.2.2).bind λl=>cond (l.1==30) (cond (aj l.2.2.2.2) ((M.dh l.2.1 l.2.2.1 l.2.2.2.1 l.2.2.2.2).bind λh=>cond (aj h.2.2.2.2.2.2.2.2.2) (k (43,3,[],[],true,[[D.int .i64 a.1,D.int .i64 a.2.1,D.str a.2.2.1,D.str a.2.2.2.1,D.sl false 5 (aB a.2.2.2.2.2.1)]]++[[D.int .i64 b.1,D.int .i64 b.2.1,D.str b.2.2.1,D.str b.2.2.2.1,D.sl false 5 (aB b.2.2.2.2.2.1)]]++[[D.int .i64 h.1,D.int .i64 h.2.1,D.str h.2.2.1,D.str h.2.2.2.1,D.sl false 5 (aB h.2.2.2.2.2.1)]],h.2.2.2.2.2.2)) none) none) (cond (!l.2.2.2.1) (cond (aj l.2.2.2.2) ((M.jh l.2.1 l.2.2.1 l.2.2.2.1 l.2.2.2.2).bind λp=>M.Gm p k a b) none) (cond (aj l.2.2.2.2) (k (43,1,[],[],true,[[D.int .i64 a.1,D.int .i64 a.2.1,D.str a.2.2.1,D.str a.2.2.2.1,D.sl false 5 (aB a.2.2.2.2.2.1)]]++[[D.int .i64 b.1,D.int .i64 b.2.1,D.str b.2.2.1,D.str b.2.2.2.1,D.sl false 5 (aB b.2.2.2.2.2.1)]],l.2)) none))) none) (cond (!b.2.2.2.2.2.2.2.2.2.1) (cond (aj b.2.2.2.2.2.2.2.2.2.2) ((M.jh b.2.2.2.2.2.2.2.1 b.2.2.2.2.2.2.2.2.1 b.2.2.2.2.2.2.2.2.2.1 b.2.2.2.2.2.2.2.2.2.2).bind λr=>M.Gm r k a b) none) (cond (aj b.2.2.2.2.2.2.2.2.2.2) (k (43,1,[],[],true,[[D.int .i64 a.1,D.int .i64 a.2.1,D.str a.2.2.1,D.str a.2.2.2.1,D.sl false 5 (aB a.2.2.2.2.2.1)]]++[[D.int .i64 b.1,D.int .i64 b.2.1,D.str b.2.2.1,D.str b.2.2.2.1,D.sl false 5 (aB b.2.2.2.2.2.1)]],b.2.2.2.2.2.2.2)) none))) none) none) (cond (!e.2.2.2.1) (cond (aj e.2.2.2.2) ((M.aA e.2.1 e.2.2.1 e.2.2.2.1 e.2.2.2.2).bind λs=>M.Gn s k a) none) (cond (!e.2.2.2.1) (cond (aj e.2.2.2.2) ((M.jh e.2.1 e.2.2.1 e.2.2.2.1 e.2.2.2.2).bind λm=>cond (aj m.2.2.2) (k (42,1,[],[],true,[[D.int .i64 a.1,D.int .i64 a.2.1,D.str a.2.2.1,D.str a.2.2.2.1,D.sl false 5 (aB a.2.2.2.2.2.1)]],m)) none) none) (cond (aj e.2.2.2.2) (k (42,1,[],[],true,[[D.int .i64 a.1,D.int .i64 a.2.1,D.str a.2.2.1,D.str a.2.2.2.1,D.sl false 5 (aB a.2.2.2.2.2.1)]],e.2)) none)))) none) (cond (!a.2.2.2.2.2.2.2.2.2.1) (cond (aj a.2.2.2.2.2.2.2.2.2.2) ((M.aA a.2.2.2.2.2.2.2.1 a.2.2.2.2.2.2.2.2.1 a.2.2.2.2.2.2.2.2.2.1 a.2.2.2.2.2.2.2.2.2.2).bind λq=>M.Gn q k a) none) (cond (!a.2.2.2.2.2.2.2.2.2.1) (cond (aj a.2.2.2.2.2.2.2.2.2.2) ((M.jh a.2.2.2.2.2.2.2.1 a.2.2.2.2.2.2.2.2.1 a.2.2.2.2.2.2.2.2.2.1 a.2.2.2.2.2.2.2.2.2.2).bind λn=>cond (aj n.2.2.2) (k (42,1,[],[],true,[[D.int .i64 a.1,D.int .i64 a.2.1,D.str a.2.2.1,D.str a.2.2.2.1,D.sl false 5 (aB a.2.2.2.2.2.1)]],n)) none) none) (cond (aj a.2.2.2.2.2.2.2.2.2.2) (k (42,1,[],[],true,[[D.int .i64 a.1,D.int .i64 a.2.1,D.str a.2.2.1,D.str a.2.2.2.1,D.sl false 5 (aB a.2.2.2.2.2.1)]],a.2.2.2.2.2.2.2)) none)))) none))))) none
def M.lZ c c1 c2 c3:=M.IU c c1 c2 c3 some
def C.lZ:S.lZ.ok X0 λx=>zbJ M.lZ x.2.1:=fnS (λx=>zbJ M.IU x.2.1) [fe C.aA,fe C.dh,fe C.oH,fe C.bP,fe C.aQ,fe C.jh] [] (by intros;unfold M.IU M.Gn M.Gm;exact zbK)
def M.Ak(jd:zai)(v7:ak)(v8:Int)(s:Int×Int)(kn:Int×Int->Option R)(ke:Int×Int->Option R):Option R:=match s with
 |(sum,v9)=>bif decide (v9<v8) then((idx v7 v9).bind λa=>Gw 5 a λaPT aPU aPV aPW azA=>((jd aPT aPU aPV aPW azA).bind λb=>kn (i64.wrap (sum+b),i64.wrap (v9+1)))) else ke (sum,v9)
def M.Gp jd v7 v8 s:=M.Ak jd v7 v8 s (λs=>some (Sum.inl s)) λt=>some (Sum.inr t)
def M.J6 jd v7 v8 s:=fH (M.Gp jd v7 v8) s
def F.J6{jd:zai}(RX:S.oW.ok X0 λx=>lU jd x.1.1):LE X0 74:=le 3 (Ik [dA 3 pI,dA 7 (pL false 5),dA 8 pI,dA 9 pI] []) (λx=>(x.1.1,x.1.va.1)) (λx s=>((s.1,x.1.2.1,x.1.2.2.1,s.2,()),())) (λx=> .leaf (Int×Int) (λt=>(Ex.exit 0,⟨[(3,iE t.1),(7,DC 5 x.1.2.1),(8,iE x.1.2.2.1),(9,iE t.2),(10,oC false)],[]⟩))) (λx=>M.Ak jd x.1.2.1 x.1.2.2.1) [fe RX] [] (by rintro _ _ ⟨_,_⟩ _ _<;>simp only[Gw,M.Ak,nb]<;>rfl)
def M.Ht(jd:zai)(t' Du:Int)(Nz UJ:aC)(Q5:ak)(k:Int->Option R):=(M.J6 jd Q5 ((↑Q5.length:Int)) (1,0)).bind λa=>k a.1
def M.mg:zau
 |0=>λ_ _ _ _ _=>none
 |n+1=>λt' Du Nz UJ Q5=>M.Ht (M.mg n) t' Du Nz UJ Q5 some
def M.oW t' Du Nz UJ Q5:=lim λn=>M.mg n t' Du Nz UJ Q5
def C.afC{jd:zai}(RX:S.oW.ok X0 λx=>lU jd x.1.1):S.oW.ok X0 λx=>lU (M.Ht jd) x.1.1 some:=fnS (λx=>M.Ht jd x.1.1.1 x.1.1.2.1 x.1.1.2.2.1 x.1.1.va.1 x.1.1.va.2.1) [] [F.J6 RX] (by intros;simp only[M.Ht,nb]<;>rfl)
def C.mg:∀n,S.oW.ok X0 λx=>M.mg n x.1.1.1 x.1.1.2.1 x.1.1.2.2.1 x.1.1.va.1 x.1.1.va.2.1
 |0=>eP.zero
 |n+1=>C.afC (C.mg n)
def C.oW:S.oW.ok X0 λx=>lU M.oW x.1.1:=eP.lim C.mg
def M.afD{n:Nat}{t' Du:Int}{Nz UJ:aC}{Q5:ak}{r:Int}(h:M.mg n t' Du Nz UJ Q5=some r):M.oW t' Du Nz UJ Q5=some r:=eP.Ij C.mg (by intro a b h;simp[S.oW,rg,sg] at h;first|exact h|simp[Prod.ext_iff,h]) (x:=(((t',Du,Nz,UJ,Q5,()),()),())) h
def M.qO(iK:zai)(v7:ak)(v8:Int)(s:Int×Int)(kn:Int×Int->Option R)(ke:Int×Int->Option R):Option R:=match s with
 |(most,v9)=>bif decide (v9<v8) then((idx v7 v9).bind λb=>Gw 5 b λaPZ aP0 aP1 aP2 azB=>((iK aPZ aP0 aP1 aP2 azB).bind λa=>kn (bif decide (most<a) then a else most,i64.wrap (v9+1)))) else ke (most,v9)
def M.qP iK v7 v8 s:=M.qO iK v7 v8 s (λs=>some (Sum.inl s)) λt=>some (Sum.inr t)
def M.C9 iK v7 v8 s:=fH (M.qP iK v7 v8) s
def F.C9{iK:zai}(QF:S.kP.ok X0 λx=>lU iK x.1.1):LE X0 49:=le 3 (Ik [dA 3 pI,dA 7 (pL false 5),dA 8 pI,dA 9 pI] []) (λx=>(x.1.1,x.1.va.1)) (λx s=>((s.1,x.1.2.1,x.1.2.2.1,s.2,()),())) (λx=> .leaf (Int×Int) (λt=>(Ex.exit 0,⟨[(3,iE t.1),(7,DC 5 x.1.2.1),(8,iE x.1.2.2.1),(9,iE t.2),(10,oC false)],[]⟩))) (λx=>M.qO iK x.1.2.1 x.1.2.2.1) [fe QF] [] (by rintro _ _ ⟨_,_⟩ _ _<;>simp only[Gw,M.qO,nb]<;>rfl)
def M.zG(iK:zai)(t' Du:Int)(Nz UJ:aC)(Q5:ak)(k:Int->Option R):=(M.C9 iK Q5 ((↑Q5.length:Int)) (0,0)).bind λa=>k (i64.wrap (a.1+1))
def M.iL:zau
 |0=>λ_ _ _ _ _=>none
 |n+1=>λt' Du Nz UJ Q5=>M.zG (M.iL n) t' Du Nz UJ Q5 some
def M.kP t' Du Nz UJ Q5:=lim λn=>M.iL n t' Du Nz UJ Q5
def C.aeO{iK:zai}(QF:S.kP.ok X0 λx=>lU iK x.1.1):S.kP.ok X0 λx=>lU (M.zG iK) x.1.1 some:=fnS (λx=>M.zG iK x.1.1.1 x.1.1.2.1 x.1.1.2.2.1 x.1.1.va.1 x.1.1.va.2.1) [] [F.C9 QF] (by intros;simp only[M.zG,nb]<;>rfl)
def C.iL:∀n,S.kP.ok X0 λx=>M.iL n x.1.1.1 x.1.1.2.1 x.1.1.2.2.1 x.1.1.va.1 x.1.1.va.2.1
 |0=>eP.zero
 |n+1=>C.aeO (C.iL n)
def C.kP:S.kP.ok X0 λx=>lU M.kP x.1.1:=eP.lim C.iL
def M.Wh{n:Nat}{t' Du:Int}{Nz UJ:aC}{Q5:ak}{r:Int}(h:M.iL n t' Du Nz UJ Q5=some r):M.kP t' Du Nz UJ Q5=some r:=eP.Ij C.iL (by intro a b h;simp[S.kP,rg,sg] at h;first|exact h|simp[Prod.ext_iff,h]) (x:=(((t',Du,Nz,UJ,Q5,()),()),())) h
abbrev M.QG(t' Du:Int)(Nz UJ:aC)(Q5:ak)(k:Int×Int->Option R):=(M.oW t' Du Nz UJ Q5).bind λa=>cond (decide (a>400)) (k (1,0)) ((M.kP t' Du Nz UJ Q5).bind λb=>cond (decide (b>40)) (k (4,0)) (k (0,0)))
def M.wz t' Du Nz UJ Q5:=M.QG t' Du Nz UJ Q5 some
def C.wz:=fTa S.wz (λx=>M.QG x.1.1.1 x.1.1.2.1 x.1.1.2.2.1 x.1.1.va.1 x.1.1.va.2.1) [fe C.oW,fe C.kP]
def M.uK(je:zao)(s:zaF⊕zaG)(kn:zaF⊕zaG->Option R)(ke:zaF⊕zaG->Option R):Option R:=match s with
 | .inl (v18,v19,v20,x',oO,pX,tZ,xg)=>bif decide (v20<v19) then((idx v18 v20).bind λc=>Gw 5 c λaP6 aP7 aP8 aP9 azC=>((je aP6 aP7 aP8 aP9 azC x').bind λa=>kn (.inr (v18,v19,i64.wrap (v20+1),a,oO,pX,tZ,xg,[[D.int .i64 (i64.wrap ((↑a.length:Int) - 1))]])))) else(ke (.inl (v18,v19,v20,x',oO,pX,tZ,xg)))
 | .inr (v18,v19,v20,x',oO,pX,tZ,xg,BI)=>bif decide (v20<v19) then((idx v18 v20).bind λd=>Gw 5 d λaQa aQb aQc aQd azD=>((je aQa aQb aQc aQd azD x').bind λb=>oq BI [[D.int .i64 (i64.wrap ((↑b.length:Int) - 1))]] 8 λe=>kn (.inr (v18,v19,i64.wrap (v20+1),b,oO,pX,tZ,xg,e)))) else ke (.inr (v18,v19,v20,x',oO,pX,tZ,xg,BI))
def M.yB je s:=M.uK je s (λs=>some (Sum.inl s)) λt=>some (Sum.inr t)
def M.MI je s:=fH (M.yB je) s
def F.MI{je:zao}(UK:S.qW.ok X0 λx=>lU je x.1.1 x.1.2.1):LE X0 52:=le 3 (pOr (Ik zbD [dA 300000 zbr,dA 300001 (cB 56 [pI,pI,pS,pS,Ve 1])]) (Ik zbD zbF)) (σ:=zaF⊕zaG) (λx=>(match x with| .inl x=> .inl ((x.1.2.2.1,x.1.va.1,x.1.va.2.1,x.2.1,x.2.2.1.1,x.2.2.1.2.1,x.2.2.1.2.2.1,x.2.2.1.va.1))| .inr x=> .inr ((x.1.2.2.1,x.1.va.1,x.1.va.2.1,x.2.1,x.2.2.1.1,x.2.2.1.2.1,x.2.2.1.2.2.1,x.2.2.1.va.1,x.va.1)))) (λx s=>(match s with| .inl s=> .inl ((((),(),s.1,s.2.1,s.2.2.1,()),(s.va.1,(s.va.2.1,s.va.2.2.1,s.va.va.1,s.va.va.2,(),()),())))| .inr s=> .inr ((((),(),s.1,s.2.1,s.2.2.1,()),(s.va.1,(s.va.2.1,s.va.2.2.1,s.va.va.1,s.va.va.2.1,(),()),s.wc,()))))) (λx=> .sum (.leaf zaF (λt=>(Ex.exit 0,⟨[(1,V.own 300000 0),(5,V.ptr 300001 0),(18,DC 5 t.1),(19,iE t.2.1),(20,iE t.2.2.1),(21,oC false)],[(300000,Cell.arr false false 0 5 t.va.1),(300001,Cell.box 56 [iE t.va.2.1,iE t.va.2.2.1,qw t.va.va.1,qw t.va.va.2,V.nil 1])]⟩))) (.leaf zaG (λt=>(Ex.exit 0,⟨[(1,V.own 300000 0),(5,V.ptr 300001 0),(18,DC 5 t.1),(19,iE t.2.1),(20,iE t.2.2.1),(21,oC false)],[(300000,Cell.arr false false 0 5 t.va.1),(300001,Cell.box 56 [iE t.va.2.1,iE t.va.2.2.1,qw t.va.va.1,qw t.va.va.2.1,V.own 300002 0]),(300002,Cell.arr false true 0 1 t.wc)]⟩)))) (λx=>M.uK je) [fe UK] [] (by rintro _ _ (⟨_,_,_,_,_,_,_,_⟩|⟨_,_,_,_,_,_,_,_,_⟩) _ _<;>simp only[oq,Gw,M.uK,nb]<;>rfl) (hE:=by intro _ _ s _;rcases s with s|s<;>kernel_rfl)
def M.Jm(je:zao)(t' Du:Int)(Nz UJ:aC)(Q5 l:ak)(k:ak->Option R):=(M.MI je (.inl (Q5,(↑Q5.length:Int),0,l,t',Du,Nz,UJ))).bind λd=>jX d (λb=>oq b.2.2.2.1 [[D.int .i64 b.2.2.2.2.1,D.int .i64 b.2.2.2.2.2.1,D.str b.2.2.2.2.2.2.1,D.str b.2.2.2.2.2.2.2,D.sl true 1 []]] 72 λza=>k za) λc=>letE c λa=>cond (aj a.2.2.2.2.2.2.2.2) (oq a.2.2.2.1 [[D.int .i64 a.2.2.2.2.1,D.int .i64 a.2.2.2.2.2.1,D.str a.2.2.2.2.2.2.1,D.str a.2.2.2.2.2.2.2.1,D.sl true 1 a.2.2.2.2.2.2.2.2]] 72 λza=>k za) none
def M.kQ:Nat->Int->Int->aC->aC->ak->ak->Option (ak)
 |0=>λ_ _ _ _ _ _=>none
 |n+1=>λt' Du Nz UJ Q5 l=>M.Jm (M.kQ n) t' Du Nz UJ Q5 l some
def M.qW t' Du Nz UJ Q5 l:=lim λn=>M.kQ n t' Du Nz UJ Q5 l
def C.agO{je:zao}(UK:S.qW.ok X0 λx=>lU je x.1.1 x.1.2.1):S.qW.ok X0 λx=>lU (M.Jm je) x.1.1 x.1.2.1 some:=fnS (λx=>M.Jm je x.1.1.1 x.1.1.2.1 x.1.1.2.2.1 x.1.1.va.1 x.1.1.va.2.1 x.1.2.1) [] [F.MI UK] (by intros;simp only[oq,M.Jm,nb]<;>rfl)
def C.kQ:∀n,S.qW.ok X0 λx=>M.kQ n x.1.1.1 x.1.1.2.1 x.1.1.2.2.1 x.1.1.va.1 x.1.1.va.2.1 x.1.2.1
 |0=>eP.zero
 |n+1=>C.agO (C.kQ n)
def C.qW:S.qW.ok X0 λx=>lU M.qW x.1.1 x.1.2.1:=eP.lim C.kQ
def M.agP{n:Nat}{t' Du:Int}{Nz UJ:aC}{Q5 l r:ak}(h:M.kQ n t' Du Nz UJ Q5 l=some r):M.qW t' Du Nz UJ Q5 l=some r:=eP.Ij C.kQ (by intro a b h;simp[S.qW,rc,sg] at h;first|exact h|simp[Prod.ext_iff,h]) (x:=(((t',Du,Nz,UJ,Q5,()),l,()),())) h
abbrev M.MJ(t' Du:Int)(Nz UJ:aC)(Q5:ak)(k:ak->Option R):=(M.qW t' Du Nz UJ Q5 []).bind λa=>k a
def M.nT t' Du Nz UJ Q5:=M.MJ t' Du Nz UJ Q5 some
def C.nT:=fTa S.nT (λx=>M.MJ x.1.1.1 x.1.1.2.1 x.1.1.2.2.1 x.1.1.va.1 x.1.1.va.2.1) [fe C.qW]
def M.sJ(s:zaH⊕zaI)(kn:zaH⊕zaI->Option R)(ke:zaH⊕zaI->Option R):Option R:=match s with
 | .inl (l,x',oO,pX,tZ,xg,BI,F7,Jw,NG,Rf)=>bif !xg then(bif decide (tZ<(↑l.length:Int)) then(bif aj Rf then((M.dU pX tZ xg Rf).bind λc=>bif((aB (aB c.2.1)).length * 72).ble 140737488355328 then(bif(aB (aB c.2.1)).length.ble 140737488355328 then(bif aj c.2.2.2.2.2 then((M.lZ c.2.2.1 c.2.2.2.1 c.2.2.2.2.1 c.2.2.2.2.2).bind λa=>oq (aB (aB c.2.1)) [[D.int .i64 a.1,D.int .i64 a.2.1,D.str a.2.2.1,D.str a.2.2.2.1,D.sl false 5 (aB a.2.2.2.2.2.1)]] 72 λza=>bif aj a.2.2.2.2.2.2.2.2.2 then((M.bT a.2.2.2.2.2.2.1 a.2.2.2.2.2.2.2.1 a.2.2.2.2.2.2.2.2.1 a.2.2.2.2.2.2.2.2.2).bind λe=>kn (.inr (l,x',oO,e.1,e.2.1,e.2.2.1,BI,F7,Jw,NG,e.2.2.2,za))) else none) else none) else none) else none) else none) else ke (.inl (l,x',oO,pX,tZ,xg,BI,F7,Jw,NG,Rf))) else(ke (.inl (l,x',oO,pX,tZ,xg,BI,F7,Jw,NG,Rf)))
 | .inr (l,x',oO,pX,tZ,xg,BI,F7,Jw,NG,Rf,IL)=>bif !xg then(bif decide (tZ<(↑l.length:Int)) then(bif aj Rf then((M.dU pX tZ xg Rf).bind λd=>bif((IL.length+(aB (aB d.2.1)).length) * 72).ble 140737488355328 then(bif(IL.length+(aB (aB d.2.1)).length).ble 140737488355328 then(bif aj d.2.2.2.2.2 then((M.lZ d.2.2.1 d.2.2.2.1 d.2.2.2.2.1 d.2.2.2.2.2).bind λb=>oq (IL++aB (aB d.2.1)) [[D.int .i64 b.1,D.int .i64 b.2.1,D.str b.2.2.1,D.str b.2.2.2.1,D.sl false 5 (aB b.2.2.2.2.2.1)]] 72 λza=>bif aj b.2.2.2.2.2.2.2.2.2 then((M.bT b.2.2.2.2.2.2.1 b.2.2.2.2.2.2.2.1 b.2.2.2.2.2.2.2.2.1 b.2.2.2.2.2.2.2.2.2).bind λf=>kn (.inr (l,x',oO,f.1,f.2.1,f.2.2.1,BI,F7,Jw,NG,f.2.2.2,za))) else none) else none) else none) else none) else none) else ke (.inr (l,x',oO,pX,tZ,xg,BI,F7,Jw,NG,Rf,IL))) else ke (.inr (l,x',oO,pX,tZ,xg,BI,F7,Jw,NG,Rf,IL))
def M.sK s:=M.sJ s (λs=>some (Sum.inl s)) λt=>some (Sum.inr t)
def M.Am s:=fH (M.sK) s
def F.Am:LE X0 16:=le 6 (pOr (Ik zbE [dA 300000 (cB 27 [pI,pI]),dA 300001 zby,dA 300002 zbp,dA 300003 zbl]) (Ik zbE [dA 300000 (cB 27 [pI,pI]),dA 300001 zby,dA 300002 (cB 50 [pI,pI,pS,pS,pO 300004 0]),dA 300003 zbl,dA 300004 zbr])) (σ:=zaH⊕zaI) (λx=>(match x with| .inl x=> .inl ((x.1.1,x.2.1.1,x.2.1.2.1,x.2.2.1.1,x.2.2.1.2.1,x.2.2.1.2.2.1,x.va.1.1,x.va.1.2.1,x.va.1.2.2.1,x.va.1.va.1,x.va.2.1))| .inr x=> .inr ((x.1.1,x.2.1.1,x.2.1.2.1,x.2.2.1.1,x.2.2.1.2.1,x.2.2.1.2.2.1,x.va.1.1,x.va.1.2.1,x.va.1.2.2.1,x.va.1.va.1,x.va.2.1,x.va.2.2.1)))) (λx s=>(match s with| .inl s=> .inl (((s.1,(),(),(),()),((s.2.1,s.2.2.1,()),(s.va.1,s.va.2.1,s.va.2.2.1,(),()),(s.va.va.1,s.va.va.2.1,s.wc.1,s.wc.2.1,(),()),s.wc.2.2,())))| .inr s=> .inr (((s.1,(),(),(),()),((s.2.1,s.2.2.1,()),(s.va.1,s.va.2.1,s.va.2.2.1,(),()),(s.va.va.1,s.va.va.2.1,s.wc.1,s.wc.2.1,(),()),s.wc.2.2.1,s.wc.va,()))))) (λx=> .sum (.leaf zaH (λt=>(Ex.exit 0,⟨[(0,DC 3 t.1),(3,V.ptr 300000 0),(5,V.ptr 300001 0),(6,V.ptr 300002 0),(33,oC false)],[(300000,Cell.box 27 [iE t.2.1,iE t.2.2.1]),(300001,zba t.va 300003),(300002,Cell.box 50 [iE t.va.va.1,iE t.va.va.2.1,qw t.wc.1,qw t.wc.2.1,V.nil 5]),(300003,Cell.arr false true 0 1 t.wc.2.2)]⟩))) (.leaf zaI (λt=>(Ex.exit 0,⟨[(0,DC 3 t.1),(3,V.ptr 300000 0),(5,V.ptr 300001 0),(6,V.ptr 300002 0),(33,oC false)],[(300000,Cell.box 27 [iE t.2.1,iE t.2.2.1]),(300001,zba t.va 300003),(300002,Cell.box 50 [iE t.va.va.1,iE t.va.va.2.1,qw t.wc.1,qw t.wc.2.1,V.own 300004 0]),(300003,Cell.arr false true 0 1 t.wc.2.2.1),(300004,Cell.arr false false 0 5 t.wc.va)]⟩)))) (λx=>M.sJ) [fe C.dU,fe C.lZ,fe C.bT] [] (by rintro _ _ (⟨_,_,_,_,_,_,_,_,_,_,_⟩|⟨_,_,_,_,_,_,_,_,_,_,_,_⟩) _ _<;>unfold M.sJ<;>exact zbK) (hE:=by intro _ _ s _;rcases s with s|s<;>kernel_rfl)
abbrev M.yC(l:ak)(k:ak×Int×Int->Option R):=(M.wu l).bind λg=>cond (!cond (g.1==0) (cond (g.2==0) true false) false) (k ([],g)) ((M.bT l 0 false []).bind λf=>(M.Am (.inl (l,0,0,f.1,f.2.1,f.2.2.1,45,0,[],[],f.2.2.2))).bind λp=>jX p (λb=>cond b.2.2.2.2.2.1 ((M.pY b.1 b.2.2.2.2.1).bind λn=>k ([],3,n)) (cond (aj b.2.2.2.2.2.2.2.2.2.2) ((M.dU b.2.2.2.1 b.2.2.2.2.1 b.2.2.2.2.2.1 b.2.2.2.2.2.2.2.2.2.2).bind λd=>cond (((aB (aB d.2.1)).length * 72).ble 140737488355328) (cond ((aB (aB d.2.1)).length.ble 140737488355328) ((M.wz b.2.2.2.2.2.2.1 b.2.2.2.2.2.2.2.1 b.2.2.2.2.2.2.2.2.1 b.2.2.2.2.2.2.2.2.2.1 (aB (aB (aB d.2.1)))).bind λh=>cond (!cond (h.1==0) (cond (h.2==0) true false) false) (k ([],h)) ((M.nT b.2.2.2.2.2.2.1 b.2.2.2.2.2.2.2.1 b.2.2.2.2.2.2.2.2.1 b.2.2.2.2.2.2.2.2.2.1 (aB (aB (aB d.2.1)))).bind λi=>cond ([[D.sl true 5 i]].all fB) (k (i,0,0)) none)) none) none) none)) λm=>letE m λa=>cond a.2.2.2.2.2.1 ((M.pY a.1 a.2.2.2.2.1).bind λo=>k ([],3,o)) (cond (aj a.2.2.2.2.2.2.2.2.2.2.1) ((M.dU a.2.2.2.1 a.2.2.2.2.1 a.2.2.2.2.2.1 a.2.2.2.2.2.2.2.2.2.2.1).bind λc=>cond (((a.2.2.2.2.2.2.2.2.2.2.2.length+(aB (aB c.2.1)).length) * 72).ble 140737488355328) (cond ((a.2.2.2.2.2.2.2.2.2.2.2.length+(aB (aB c.2.1)).length).ble 140737488355328) ((M.wz a.2.2.2.2.2.2.1 a.2.2.2.2.2.2.2.1 a.2.2.2.2.2.2.2.2.1 a.2.2.2.2.2.2.2.2.2.1 (aB (a.2.2.2.2.2.2.2.2.2.2.2++aB (aB c.2.1)))).bind λe=>cond (!cond (e.1==0) (cond (e.2==0) true false) false) (k ([],e)) ((M.nT a.2.2.2.2.2.2.1 a.2.2.2.2.2.2.2.1 a.2.2.2.2.2.2.2.2.1 a.2.2.2.2.2.2.2.2.2.1 (aB (a.2.2.2.2.2.2.2.2.2.2.2++aB (aB c.2.1)))).bind λj=>cond ([[D.sl true 5 j]].all fB) (k (j,0,0)) none)) none) none) none))
def M.jC l:=M.yC l some
def C.jC:=fTa S.jC (λx=>M.yC x.1.1) [fe C.wu,fe C.bT,fe C.pY,fe C.dU,fe C.wz,fe C.nT] [F.Am]
abbrev M.Vr(s':aC)(k:ak×Int×Int->Option R):=(M.Uj s').bind λb=>cond (!cond (b.2.1==0) (cond (b.2.2==0) true false) false) (k ([],b.2)) ((M.jC b.1).bind λa=>cond ([[D.sl true 5 a.1],[D.int .i64 a.2.1,D.int .i64 a.2.2]].all fB) (k (a)) none)
def M.KE s':=M.Vr s' some
def C.KE:=fTa S.KE (λx=>M.Vr x.1.1) [fe C.Uj,fe C.jC]
abbrev M.QH(b:Int)(k:Bool->Option R):=cond (b==32) (k true) (k (b==9))
def M.Eh b:=M.QH b some
def C.Eh:=fTa S.Eh (λx=>M.QH x.1.1)
def M.EW(s:(aC×Int×Bool)⊕(aC×Int))(kn:(aC×Int×Bool)⊕(aC×Int)->Option R)(ke:aC×Int->Option R):Option R:=match s with
 | .inl (s',at',v9)=>(M.fZ s' at').bind λd=>((M.jG d).bind λa=>bif a then(kn (.inr (s',i64.wrap (at'+1)))) else ke (s',at'))
 | .inr (s',at')=>(M.fZ s' at').bind λc=>(M.jG c).bind λb=>bif b then(kn (.inr (s',i64.wrap (at'+1)))) else ke (s',at')
def M.QI s:=M.EW s (λs=>some (Sum.inl s)) λt=>some (Sum.inr t)
def M.Oz s:=fH (M.QI) s
def F.Oz:LE X0 43:=le 3 zbI (σ:=(aC×Int×Bool)⊕(aC×Int)) (λx=>(match x with| .inl x=> .inl ((x.1.1,x.1.2.1,x.1.2.2.1))| .inr x=> .inr ((x.1.1,x.1.2.1)))) (λx s=>(match s with| .inl s=> .inl (((s.1,s.2.1,s.2.2,()),()))| .inr s=> .inr (((s.1,s.2,()),())))) (λx=> .leaf (aC×Int) (λt=>(Ex.exit 0,⟨[(0,qw t.1),(1,iE t.2),(13,oC false)],[]⟩))) (λx=>M.EW) [fe C.fZ,fe C.jG] [] (by rintro _ _ (⟨_,_,_⟩|⟨_,_⟩) _ _<;>unfold M.EW<;>exact zbK) (hE:=by intro _ _ s _;rcases s with s|s<;>kernel_rfl)
abbrev M.QJ(s':aC)(at':Int)(k:Int->Option R):=(M.fZ s' at').bind λc=>(M.mM c).bind λa=>cond (!a) (k (-1)) ((M.Oz (.inl (s',at',false))).bind λb=>k b.2)
def M.AX s' at':=M.QJ s' at' some
def C.AX:=fTa S.AX (λx=>M.QJ x.1.1 x.1.2.1) [fe C.fZ,fe C.mM] [F.Oz]
abbrev M.TR(s':aC)(at' e:Int)(k:Int×aC×Int->Option R):=(cut s' at' e).bind λa=>(M.qF a).bind λf=>cond (f !=0) ((M.qF a).bind λb=>k (b,a,at')) ((M.kV a).bind λd=>cond d (k (8,a,at')) ((M.fZ s' e).bind λc=>cond (c==40) (k (7,a,at')) (k (6,a,at'))))
def M.Ei s' at' e:=M.TR s' at' e some
def C.Ei:=fTa S.Ei (λx=>M.TR x.1.1 x.1.2.1 x.1.2.2.1) [fe C.qF,fe C.kV,fe C.fZ]
def M.zH(s':aC)(at' x':Int)(oO:aC)(pX tZ:Int)(xg:aC)(BI s:Int)(kn:Int->Option R)(ke:Int->Option R):Option R:=match s with
 |e=>bif decide (e<(↑s'.length:Int)) then((idx s' e).bind λa=>bif(↑a.toNat:Int) !=10 then(kn (i64.wrap (e+1))) else ke e) else ke e
def M.EY s' at' x' oO pX tZ xg BI s:=M.zH s' at' x' oO pX tZ xg BI s (λs=>some (Sum.inl s)) λt=>some (Sum.inr t)
def M.xB s' at' x' oO pX tZ xg BI s:=fH (M.EY s' at' x' oO pX tZ xg BI) s
def F.xB:LE X0 19:=le 13 (Ik [dA 0 pS,dA 1 pI,dA 6 (pP 300000 0),dA 8 (pP 300001 0),dA 9 pI] [dA 300000 (cB 46 [pI,pS,pI]),dA 300001 (cB 46 [pI,pS,pI])]) (λx=>x.1.va.2.1) (λx s=>((x.1.1,x.1.2.1,(),(),s,()),((x.2.1.1,x.2.1.2.1,x.2.1.2.2.1,()),(x.2.2.1.1,x.2.2.1.2.1,x.2.2.1.2.2.1,()),()))) (λx=> .leaf (Int) (λt=>(Ex.exit 1,⟨[(0,qw x.1.1),(1,iE x.1.2.1),(6,V.ptr 300000 0),(8,V.ptr 300001 0),(9,iE t),(51,oC false)],[(300000,Cell.box 46 [iE x.2.1.1,qw x.2.1.2.1,iE x.2.1.2.2.1]),(300001,Cell.box 46 [iE x.2.2.1.1,qw x.2.2.1.2.1,iE x.2.2.1.2.2.1])]⟩))) (λx=>M.zH x.1.1 x.1.2.1 x.2.1.1 x.2.1.2.1 x.2.1.2.2.1 x.2.2.1.1 x.2.2.1.2.1 x.2.2.1.2.2.1) [] [] (by rintro _ _ _ _ _<;>simp only[M.zH,nb]<;>rfl)
abbrev M.QK(adR:UInt8)(s':aC)(at':Int)(k:Int×aC×Int->Option R):=(M.mM (i64.wrap (↑adR.toNat:Int))).bind λe=>cond e ((M.AX s' at').bind λc=>(M.Ei s' at' c).bind λa=>(M.qE a.2.1).bind λd=>cond (!d) (k (0,[],at')) (k (a))) ((M.zy s' at').bind λb=>cond (b.2==0) (k (0,[],at')) (cond (decide (i64.wrap (at'+b.2)<0)) (k (0,[],at')) ((cut s' at' (i64.wrap (at'+b.2))).bind λf=>k (b.1,f,at'))))
def M.TS(s':aC)(at':Int)(ere:Bool)(k:Int×aC×Int->Option R):=(idx s' at').bind λa=>cond (i64.wrap (↑a.toNat:Int)==10) (k (1,[10],at')) (cond (i64.wrap (↑a.toNat:Int)==35) ((M.xB s' at' 0 [] 0 0 [] at' at').bind λc=>cond (decide (c<0)) (k (0,[],at')) ((cut s' at' c).bind λj=>k (2,j,at'))) ((M.tH (i64.wrap (↑a.toNat:Int))).bind λh=>cond h ((M.yP s' at').bind λd=>cond (decide (d<0)) (k (0,[],at')) ((cut s' at' d).bind λm=>k (3,m,at'))) (cond (i64.wrap (↑a.toNat:Int)==46) ((M.yP s' at').bind λb=>cond (decide (b<0)) (k (0,[],at')) ((cut s' at' b).bind λl=>k (3,l,at'))) (cond (i64.wrap (↑a.toNat:Int)==34) ((M.Bq s' at').bind λe=>cond (decide (e<0)) (k (0,[],at')) ((cut s' at' e).bind λi=>k (4,i,at'))) (cond (i64.wrap (↑a.toNat:Int)==47) (cond ere ((M.Bv s' at').bind λf=>cond (decide (f<0)) (k (0,[],at')) ((cut s' at' f).bind λg=>k (5,g,at'))) (M.QK a s' at' k)) (M.QK a s' at' k))))))
def M.Ej s' at' ere:=M.TS s' at' ere some
def C.Ej:S.Ej.ok X0 λx=>M.Ej x.1.1 x.1.2.1 x.1.2.2.1:=fnS (λx=>M.TS x.1.1 x.1.2.1 x.1.2.2.1) [fe C.tH,fe C.yP,fe C.Bq,fe C.Bv,fe C.mM,fe C.AX,fe C.Ei,fe C.qE,fe C.zy] [F.xB] (by intros;unfold M.TS M.QK;exact zbK)
abbrev M.KX(last:Int)(s':aC)(at':Int)(ke:(Int×Int)⊕(Int×Int×ak)->Option R)(pX:ak)(kn:Int×Int×ak->Option R):=(M.fA last).bind λb=>(M.Ej s' at' !b).bind λa=>cond (a.1==0) (ke (.inl (2,at'))) (cond ((↑pX.length:Int)==3000) (ke (.inl (1,0))) (cond (((pX.length+[[D.int .i64 a.1,D.str a.2.1,D.int .i64 a.2.2]].length) * 32).ble 140737488355328) (cond ((pX.length+[[D.int .i64 a.1,D.str a.2.1,D.int .i64 a.2.2]].length).ble 140737488355328) (kn (a.1,i64.wrap (at'+(↑a.2.1.length:Int)),pX++[[D.int .i64 a.1,D.str a.2.1,D.int .i64 a.2.2]])) none) none))
def M.NK(s':aC)(x' oO:Int)(s:Int×Int×ak)(kn:Int×Int×ak->Option R)(ke:(Int×Int)⊕(Int×Int×ak)->Option R):Option R:=match s with
 |(last,at',pX)=>bif decide (at'<(↑s'.length:Int)) then((idx s' at').bind λc=>(M.Eh (i64.wrap (↑c.toNat:Int))).bind λa=>bif a then(kn (last,i64.wrap (at'+1),pX)) else (idx s' at').bind λb=>bif(↑b.toNat:Int)==92 then((M.fZ s' (i64.wrap (at'+1))).bind λd=>bif d==10 then(kn (last,i64.wrap (at'+2),pX)) else M.KX last s' at' ke pX kn) else M.KX last s' at' ke pX kn) else ke (.inr (last,at',pX))
def M.TU s' x' oO s:=M.NK s' x' oO s (λs=>some (Sum.inl s)) λt=>some (Sum.inr t)
def M.BK s' x' oO s:=fH (M.TU s' x' oO) s
def F.BK:LE X0 7:=le 6 (Ik [dA 0 pS,dA 3 (pP 300000 0),dA 4 (pO 300001 0),dA 5 pI,dA 6 pI] [dA 300000 (cB 27 [pI,pI]),dA 300001 (cA false true 0 3)]) (λx=>(x.1.va.1,x.1.va.2.1,x.2.2.1)) (λx s=>((x.1.1,(),(),s.1,s.2.1,()),((x.2.1.1,x.2.1.2.1,()),s.2.2,()))) (λx=> .sum (.leaf (Int×Int) (λt=>(Ex.ret,⟨[(2,V.own 300000 0),(3,V.ptr 300001 0)],[(300000,Cell.arr false true 0 3 []),(300001,Cell.box 27 [iE t.1,iE t.2])]⟩))) (.leaf (Int×Int×ak) (λt=>(Ex.exit 0,⟨[(0,qw x.1.1),(3,V.ptr 300000 0),(4,V.own 300001 0),(5,iE t.1),(6,iE t.2.1),(17,oC false)],[(300000,Cell.box 27 [iE x.2.1.1,iE x.2.1.2.1]),(300001,Cell.arr false true 0 3 t.2.2)]⟩)))) (λx=>M.NK x.1.1 x.2.1.1 x.2.1.2.1) [fe C.Eh,fe C.fZ,fe C.fA,fe C.Ej] [] (by rintro _ _ ⟨_,_,_⟩ _ _<;>simp only[M.NK,M.KX,nb]<;>rfl)
abbrev M.Y1(s':aC)(k:ak×Int×Int->Option R):=cond (decide ((↑s'.length:Int)>3000)) (k ([],1,0)) ((M.BK s' 0 0 (0,0,[])).bind λd=>jX d (λb=>k ([],b)) λc=>letE c λa=>cond (aj a.2.2) (k (a.2.2,0,0)) none)
def M.Uk s':=M.Y1 s' some
def C.Uk:=fTa S.Uk (λx=>M.Y1 x.1.1) [] [F.BK]
abbrev M.MK(l:ak)(k:Bool->Option R):=(M.Bz l).bind λc=>cond c ((idx l (i64.wrap ((↑l.length:Int) - 1))).bind λb=>(jq .i64 b 0).bind λa=>k (a==45)) (k false)
def M.wB l:=M.MK l some
def C.wB:=fTa S.wB (λx=>M.MK x.1.1) [fe C.Bz]
def C.lG:S.lG.ok X0 λx=>M.lG x.1.1:=eP.adY (p:=Prim.lG)
abbrev M.QL(l:ak)(k:Bool->Option R):=(M.lG l).bind λa=>k a.2
def M.Em l:=M.QL l some
def C.Em:=fTa S.Em (λx=>M.QL x.1.1) [fe C.lG]
abbrev M.lN(kind:Int)(k:Bool->Option R):=(M.eX kind 1 15).bind λa=>k a
def M.fO kind:=M.lN kind some
def C.fO:=fTa S.fO (λx=>M.lN x.1.1) [fe C.eX]
abbrev M.jE(n':Int)(mZ:aC)(k:Bool×Bool×Bool×Int×Int->Option R)(jW:Int):=cond (decide (0<=i64.wrap (n' - 2)) && decide (i64.wrap (n' - 2)<3)) ((jq .i64 [D.int .i64 3,D.int .i64 4,D.int .i64 5] (i64.wrap (n' - 2)).toNat).bind λb=>(M.ru b mZ 0).bind λa=>k (jW==0,a,false,0,0)) none
def M.kR(n' jW:Int)(mZ oP:aC)(sV:ak)(k:Bool×Bool×Bool×Int×Int->Option R):=cond (n'==1) ((M.lD mZ).bind λa=>k (jW==0,a,false,0,0)) (cond (n'==2) (M.jE n' mZ k jW) (cond (n'==3) (M.jE n' mZ k jW) (cond (n'==4) (M.jE n' mZ k jW) (cond (n'==5) ((M.lD mZ).bind λc=>k (jW==0,c,false,1,6)) (cond (n'==13) ((M.lD mZ).bind λg=>k (jW==0,g,false,1,6)) (cond (n'==6) (k (jW==0,mZ==[],false,1,1)) (cond (n'==7) ((M.lD mZ).bind λd=>k (jW==0,d,false,0,6)) (cond (n'==8) ((M.mF mZ).bind λf=>k (jW==0,f,false,0,6)) (cond (n'==9) ((M.iw jW).bind λb=>k (b,mZ==[],false,1,1)) (cond (n'==10) ((M.iw jW).bind λi=>k (i,mZ==[],false,1,1)) (cond (n'==11) (cond (jW==55) (k (true,mZ==[],false,1,1)) (cond (jW==56) (k (true,mZ==[],false,1,1)) (k (jW==61,mZ==[],false,1,1)))) (cond (n'==12) ((M.nM jW).bind λe=>k (e !=0,mZ==[],false,2,2)) (cond (n'==14) (k (jW==0,mZ==[],false,3,3)) ((M.vN jW).bind λh=>k (h,mZ==[],false,2,2)))))))))))))))
def M.kH n' jW mZ oP sV:=M.kR n' jW mZ oP sV some
def C.kH:S.kH.ok X0 λx=>lU M.kH x.1.1:=fnS (λx=>M.kR x.1.1.1 x.1.1.2.1 x.1.1.2.2.1 x.1.1.va.1 x.1.1.va.2.1) [fe C.lD,fe C.ru,fe C.mF,fe C.iw,fe C.nM,fe C.vN] [] (by intros;unfold M.kR M.jE;exact zbK)
abbrev M.lQ(kind:Int)(k:Bool->Option R):=(M.eX kind 20 34).bind λa=>k a
def M.jV kind:=M.lQ kind some
def C.jV:=fTa S.jV (λx=>M.lQ x.1.1) [fe C.eX]
abbrev M.kS(n' jW:Int)(mZ oP:aC)(sV:ak)(k:Bool×Bool×Bool×Int×Int->Option R):=cond (n'==20) (k (jW==0,mZ==[],oP==[],1,1)) (cond (n'==21) (cond (jW==0) ((M.slices_Contains ([[D.str []],[D.str [62]],[D.str [62,62]],[D.str [124]]]) oP).bind λa=>cond (!oP==[]) (k (true,mZ==[],a,i64.wrap (jW+1),7)) (k (true,mZ==[],a,jW,6))) ((M.slices_Contains ([[D.str []],[D.str [62]],[D.str [62,62]],[D.str [124]]]) oP).bind λb=>cond (!oP==[]) (k (jW==1,mZ==[],b,i64.wrap (jW+1),7)) (k (jW==1,mZ==[],b,jW,6)))) (cond (n'==23) (k (jW==0,mZ==[],oP==[],0,1)) (cond (n'==24) (k (jW==0,mZ==[],oP==[],0,1)) (cond (n'==27) ((M.lD mZ).bind λd=>k (jW==0,d,oP==[],0,6)) (cond (n'==28) (k (jW==0,mZ==[],oP==[],2,3)) (cond (n'==29) (k (jW==0,mZ==[],oP==[],2,2)) (cond (n'==30) (k (jW==0,mZ==[],oP==[],2,2)) (cond (n'==31) (k (jW==0,mZ==[],oP==[],4,4)) (cond (n'==32) ((M.lD mZ).bind λf=>(M.lD oP).bind λe=>k (jW==0,f,e,1,1)) (cond (n'==33) (k (jW==0,mZ==[],oP==[],0,400)) (cond (n'==34) ((M.ru 2 mZ 0).bind λc=>k (jW==0,c,oP==[],0,0)) (k (jW==0,mZ==[],oP==[],0,0)))))))))))))
def M.kJ n' jW mZ oP sV:=M.kS n' jW mZ oP sV some
def C.kJ:=fTa S.kJ (λx=>M.kS x.1.1.1 x.1.1.2.1 x.1.1.2.2.1 x.1.1.va.1 x.1.1.va.2.1) [fe C.slices_Contains,fe C.lD,fe C.ru]
abbrev M.kT(n' jW:Int)(mZ oP:aC)(sV:ak)(k:Bool×Bool×Bool×Int×Int->Option R):=cond (n'==40) (k (jW==0,mZ==[],oP==[],1,1)) (cond (n'==41) (k (jW==0,mZ==[],oP==[],1,1)) (cond (n'==42) ((M.eX jW 1 3).bind λa=>cond (jW==3) (k (a,mZ==[],oP==[],2,2)) (k (a,mZ==[],oP==[],1,1))) (cond (n'==43) (cond (jW==1) (cond (jW==3) (k (true,mZ==[],oP==[],3,3)) (k (true,mZ==[],oP==[],2,2))) (cond (jW==3) (k (jW==3,mZ==[],oP==[],3,3)) (k (jW==3,mZ==[],oP==[],2,2)))) (cond (n'==44) ((M.lD mZ).bind λb=>k (jW==0,b,oP==[],1,7)) (k (jW==0,mZ==[],oP==[],0,400))))))
def M.kK n' jW mZ oP sV:=M.kT n' jW mZ oP sV some
def C.kK:=fTa S.kK (λx=>M.kT x.1.1.1 x.1.1.2.1 x.1.1.2.2.1 x.1.1.va.1 x.1.1.va.2.1) [fe C.eX,fe C.lD]
abbrev M.jR(n' jW:Int)(mZ oP:aC)(sV:ak)(k:Bool->Option R):=(M.fO n').bind λf=>cond f ((M.kH n' jW mZ oP sV).bind λc=>cond c.1 (cond c.2.1 (cond (oP==[]) ((M.eX ((↑sV.length:Int)) c.2.2.2.1 c.2.2.2.2).bind λe=>k e) (k false)) (k false)) (k false)) (cond (n'==16) (cond (jW==0) (cond (mZ==[]) (cond (oP==[]) ((M.eX ((↑sV.length:Int)) 0 0).bind λh=>k h) (k false)) (k false)) (k false)) ((M.jV n').bind λg=>cond g ((M.kJ n' jW mZ oP sV).bind λa=>cond a.1 (cond a.2.1 (cond a.2.2.1 ((M.eX ((↑sV.length:Int)) a.2.2.2.1 a.2.2.2.2).bind λj=>k j) (k false)) (k false)) (k false)) ((M.eX n' 40 45).bind λi=>cond i ((M.kK n' jW mZ oP sV).bind λb=>cond b.1 (cond b.2.1 (cond b.2.2.1 ((M.eX ((↑sV.length:Int)) b.2.2.2.1 b.2.2.2.2).bind λd=>k d) (k false)) (k false)) (k false)) (k false))))
def M.jm n' jW mZ oP sV:=M.jR n' jW mZ oP sV some
def C.jm:=fTa S.jm (λx=>M.jR x.1.1.1 x.1.1.2.1 x.1.1.2.2.1 x.1.1.va.1 x.1.1.va.2.1) [fe C.fO,fe C.kH,fe C.eX,fe C.jV,fe C.kJ,fe C.kK]
abbrev M.OA(kind:Int)(k:Bool->Option R):=cond (kind==1) (k true) (cond (kind==5) (k true) (k (kind==6)))
def M.vO kind:=M.OA kind some
def C.vO:=fTa S.vO (λx=>M.OA x.1.1)
abbrev M.TV(kind:Int)(k:Bool->Option R):=(M.eX kind 40 44).bind λa=>k a
def M.Ic kind:=M.TV kind some
def C.Ic:=fTa S.Ic (λx=>M.TV x.1.1) [fe C.eX]
abbrev M.fQ(n' jW:Int)(mZ oP:aC)(sV:ak)(k' kid:Int)(k:Bool->Option R):=cond (n'==9) ((M.vO kid).bind λc=>k c) (cond (n'==10) ((M.vO kid).bind λq=>k q) (cond (n'==15) (cond (k'==0) ((M.vO kid).bind λa=>cond a (k true) (cond (decide (k'>0)) ((M.fO kid).bind λl=>k l) (k false))) (cond (decide (k'>0)) ((M.fO kid).bind λr=>k r) (k false))) (cond (n'==28) (cond (decide (k'>0)) (k (kid==33)) ((M.fO kid).bind λb=>k b)) (cond (n'==29) (cond (decide (k'>0)) (k (kid==33)) ((M.fO kid).bind λg=>k g)) (cond (n'==31) (cond (decide (k'<3)) (cond (kid==16) (k true) (cond (k'==i64.wrap ((↑sV.length:Int) - 1)) (k (kid==33)) ((M.fO kid).bind λn=>k n))) (cond (k'==i64.wrap ((↑sV.length:Int) - 1)) (k (kid==33)) ((M.fO kid).bind λm=>k m))) (cond (n'==30) (cond (k'==0) (k (kid==33)) ((M.fO kid).bind λp=>k p)) (cond (n'==32) (k (kid==33)) (cond (n'==40) (k (kid==33)) (cond (n'==41) (k (kid==33)) (cond (n'==33) ((M.jV kid).bind λe=>k e) (cond (n'==42) (cond (k'==i64.wrap ((↑sV.length:Int) - 1)) (cond (decide (jW>=2)) (k (kid==33)) ((M.fO kid).bind λd=>k d)) ((M.fO kid).bind λf=>k f)) (cond (n'==43) (cond (k'==i64.wrap ((↑sV.length:Int) - 1)) (cond (jW==3) (k (kid==33)) ((M.fO kid).bind λo=>k o)) ((M.fO kid).bind λh=>k h)) (cond (n'==44) (cond (!k'==i64.wrap ((↑sV.length:Int) - 1)) (k (kid==1)) (k (kid==33))) (cond (n'==45) ((M.Ic kid).bind λj=>cond j (k true) (k (kid==34))) ((M.fO kid).bind λi=>k i)))))))))))))))
def M.gI n' jW mZ oP sV k' kid:=M.fQ n' jW mZ oP sV k' kid some
def C.gI:=fTa S.gI (λx=>M.fQ x.1.1.1 x.1.1.2.1 x.1.1.2.2.1 x.1.1.va.1 x.1.1.va.2.1 x.1.2.1 x.1.2.2.1) [fe C.vO,fe C.fO,fe C.jV,fe C.Ic]
def M.nY(jS:zap)(s:zaJ⊕zaK)(kn:zaJ⊕zaK->Option R)(ke:zaJ⊕zaK->Option R):Option R:=match s with
 | .inl (l,v23,v24,v25,x',oO,pX,tZ,xg,BI,F7,Jw)=>bif decide (v25<v24) then((idx v23 v25).bind λf=>(jq .i64 f 0).bind λd=>(jS l d).bind λb=>kn (.inr (l,v23,v24,i64.wrap (v25+1),x',oO,pX,tZ,xg,BI,F7,Jw,[[D.int .i64 b.1,D.int .i64 b.2.1,D.str b.2.2.1,D.str b.2.2.2.1,D.sl true 5 b.2.2.2.2]]))) else(ke (.inl (l,v23,v24,v25,x',oO,pX,tZ,xg,BI,F7,Jw)))
 | .inr (l,v23,v24,v25,x',oO,pX,tZ,xg,BI,F7,Jw,NG)=>bif decide (v25<v24) then((idx v23 v25).bind λc=>(jq .i64 c 0).bind λe=>(jS l e).bind λa=>oq NG [[D.int .i64 a.1,D.int .i64 a.2.1,D.str a.2.2.1,D.str a.2.2.2.1,D.sl true 5 a.2.2.2.2]] 72 λg=>kn (.inr (l,v23,v24,i64.wrap (v25+1),x',oO,pX,tZ,xg,BI,F7,Jw,g))) else ke (.inr (l,v23,v24,v25,x',oO,pX,tZ,xg,BI,F7,Jw,NG))
def M.nZ jS s:=M.nY jS s (λs=>some (Sum.inl s)) λt=>some (Sum.inr t)
def M.KY jS s:=fH (M.nZ jS) s
def F.KY{jS:zap}(XA:S.uO.ok X0 λx=>jS x.1.1 x.1.2.1):LE X0 50:=le 4 (pOr (Ik zbA [dA 300000 zbp,dA 300001 zbp]) (Ik zbA [dA 300000 zbp,dA 300001 (cB 50 [pI,pI,pS,pS,pO 300002 0]),dA 300002 zbr])) (σ:=zaJ⊕zaK) (λx=>(match x with| .inl x=> .inl ((x.1.1,x.1.va.1,x.1.va.2.1,x.1.va.2.2.1,x.2.1.1,x.2.1.2.1,x.2.1.2.2.1,x.2.1.va.1,x.2.2.1.1,x.2.2.1.2.1,x.2.2.1.2.2.1,x.2.2.1.va.1))| .inr x=> .inr ((x.1.1,x.1.va.1,x.1.va.2.1,x.1.va.2.2.1,x.2.1.1,x.2.1.2.1,x.2.1.2.2.1,x.2.1.va.1,x.2.2.1.1,x.2.2.1.2.1,x.2.2.1.2.2.1,x.2.2.1.va.1,x.va.1)))) (λx s=>(match s with| .inl s=> .inl (((s.1,(),(),s.2.1,s.2.2.1,s.va.1,()),((s.va.2.1,s.va.2.2.1,s.va.va.1,s.va.va.2.1,(),()),(s.wc.1,s.wc.2.1,s.wc.2.2.1,s.wc.va,(),()),())))| .inr s=> .inr (((s.1,(),(),s.2.1,s.2.2.1,s.va.1,()),((s.va.2.1,s.va.2.2.1,s.va.va.1,s.va.va.2.1,(),()),(s.wc.1,s.wc.2.1,s.wc.2.2.1,s.wc.va.1,(),()),s.wc.va.2,()))))) (λx=> .sum (.leaf zaJ (λt=>(Ex.exit 0,⟨[(0,DC 5 t.1),(4,V.ptr 300000 0),(6,V.ptr 300001 0),(23,DC 1 t.2.1),(24,iE t.2.2.1),(25,iE t.va.1),(26,oC false)],[(300000,Cell.box 50 [iE t.va.2.1,iE t.va.2.2.1,qw t.va.va.1,qw t.va.va.2.1,V.nil 5]),(300001,Cell.box 50 [iE t.wc.1,iE t.wc.2.1,qw t.wc.2.2.1,qw t.wc.va,V.nil 5])]⟩))) (.leaf zaK (λt=>(Ex.exit 0,⟨[(0,DC 5 t.1),(4,V.ptr 300000 0),(6,V.ptr 300001 0),(23,DC 1 t.2.1),(24,iE t.2.2.1),(25,iE t.va.1),(26,oC false)],[(300000,Cell.box 50 [iE t.va.2.1,iE t.va.2.2.1,qw t.va.va.1,qw t.va.va.2.1,V.nil 5]),(300001,Cell.box 50 [iE t.wc.1,iE t.wc.2.1,qw t.wc.2.2.1,qw t.wc.va.1,V.own 300002 0]),(300002,Cell.arr false false 0 5 t.wc.va.2)]⟩)))) (λx=>M.nY jS) [fe XA] [] (by rintro _ _ (⟨_,_,_,_,_,_,_,_,_,_,_,_⟩|⟨_,_,_,_,_,_,_,_,_,_,_,_,_⟩) _ _<;>simp only[oq,M.nY,nb]<;>rfl) (hE:=by intro _ _ s _;rcases s with s|s<;>kernel_rfl)
def M.Jt(jS:zap)(l:ak)(i:Int)(k:Int×Int×aC×aC×ak->Option R):=(idx l i).bind λe=>Gw 1 e λaRA aRB aRC aRD aq8=>((M.KY jS (.inl (l,aq8,(↑aq8.length:Int),0,0,0,[],[],aRA,aRB,aRC,aRD))).bind λd=>jX d (λb=>k (b.2.2.2.2.2.2.2.2.1,b.2.2.2.2.2.2.2.2.2.1,b.2.2.2.2.2.2.2.2.2.2.1,b.2.2.2.2.2.2.2.2.2.2.2,[])) λc=>letE c λa=>k (a.2.2.2.2.2.2.2.2))
def M.kM:Nat->ak->Int->Option zaM
 |0=>λ_ _=>none
 |n+1=>λl i=>M.Jt (M.kM n) l i some
def M.uO l i:=lim λn=>M.kM n l i
def C.akm{jS:zap}(XA:S.uO.ok X0 λx=>jS x.1.1 x.1.2.1):S.uO.ok X0 λx=>M.Jt jS x.1.1 x.1.2.1 some:=fnS (λx=>M.Jt jS x.1.1 x.1.2.1) [] [F.KY XA] (by intros;simp only[Gw,M.Jt,nb]<;>rfl)
def C.kM:∀n,S.uO.ok X0 λx=>M.kM n x.1.1 x.1.2.1
 |0=>eP.zero
 |n+1=>C.akm (C.kM n)
def C.uO:S.uO.ok X0 λx=>M.uO x.1.1 x.1.2.1:=eP.lim C.kM
def M.abw{n:Nat}{l:ak}{i:Int}{r:Int×Int×aC×aC×ak}(h:M.kM n l i=some r):M.uO l i=some r:=eP.Ij C.kM (by intro a b h;simp[S.uO,rx,sg] at h;first|exact h|simp[Prod.ext_iff,h]) (x:=((l,i,()),())) h
abbrev M.NM(l:ak)(k:Int×Int×aC×aC×ak->Option R):=(M.uO l (i64.wrap ((↑l.length:Int) - 1))).bind λa=>k (a)
def M.yT l:=M.NM l some
def C.yT:=fTa S.yT (λx=>M.NM x.1.1) [fe C.uO]
def M.Hu(l v10:ak)(v11 v12:Int)(v20:ak)(v21 x' oO:Int)(pX tZ:aC)(xg:ak)(s:Int)(kn:Int->Option R)(ke:(Unit)⊕(Int)->Option R):Option R:=match s with
 |v22=>bif decide (v22<v21) then((idx v20 v22).bind λb=>(jq .i64 b 0).bind λd=>(idx l d).bind λc=>(jq .i64 c 0).bind λa=>(M.gI x' oO pX tZ xg v22 a).bind λe=>bif !e then(ke (.inl ())) else kn (i64.wrap (v22+1))) else ke (.inr v22)
def M.RY l v10 v11 v12 v20 v21 x' oO pX tZ xg s:=M.Hu l v10 v11 v12 v20 v21 x' oO pX tZ xg s (λs=>some (Sum.inl s)) λt=>some (Sum.inr t)
def M.KZ l v10 v11 v12 v20 v21 x' oO pX tZ xg s:=fH (M.RY l v10 v11 v12 v20 v21 x' oO pX tZ xg) s
def F.KZ:LE X0 21:=le 9 (Ik [dA 0 (pL false 5),dA 4 (pP 300000 0),dA 10 (pL false 5),dA 11 pI,dA 12 pI,dA 20 (pL false 1),dA 21 pI,dA 22 pI] [dA 300000 (cB 56 zbm)]) (λx=>x.1.va.va.2.1) (λx s=>((x.1.1,(),x.1.2.2.1,x.1.va.1,x.1.va.2.1,x.1.va.2.2.1,x.1.va.va.1,s,()),((x.2.1.1,x.2.1.2.1,x.2.1.2.2.1,x.2.1.va.1,x.2.1.va.2.1,()),()))) (λx=> .sum (.leaf (Unit) (λt=>(Ex.ret,⟨[(2,oC false)],[]⟩))) (.leaf (Int) (λt=>(Ex.exit 2,⟨[(0,DC 5 x.1.1),(4,V.ptr 300000 0),(10,DC 5 x.1.2.2.1),(11,iE x.1.va.1),(12,iE x.1.va.2.1),(20,DC 1 x.1.va.2.2.1),(21,iE x.1.va.va.1),(22,iE t),(23,oC false)],[(300000,Cell.box 56 [iE x.2.1.1,iE x.2.1.2.1,qw x.2.1.2.2.1,qw x.2.1.va.1,DC 1 x.2.1.va.2.1])]⟩)))) (λx=>M.Hu x.1.1 x.1.2.2.1 x.1.va.1 x.1.va.2.1 x.1.va.2.2.1 x.1.va.va.1 x.2.1.1 x.2.1.2.1 x.2.1.2.2.1 x.2.1.va.1 x.2.1.va.2.1) [fe C.gI] [] (by rintro _ _ _ _ _<;>simp only[M.Hu,nb]<;>rfl)
def M.Hw(l v10:ak)(v11 s:Int)(kn:Int->Option R)(ke:(Unit)⊕(Int)->Option R):Option R:=match s with
 |v12=>bif decide (v12<v11) then((idx v10 v12).bind λa=>Gw 1 a λaE9 aFa aFb aFc afE=>((M.jm aE9 aFa aFb aFc afE).bind λb=>bif !b then(ke (.inl ())) else (M.KZ l v10 v11 v12 afE ((↑afE.length:Int)) aE9 aFa aFb aFc afE 0).bind λc=>jX c (λf=>ke (.inl ())) λd=>letE d λe=>kn (i64.wrap (v12+1)))) else ke (.inr v12)
def M.RZ l v10 v11 s:=M.Hw l v10 v11 s (λs=>some (Sum.inl s)) λt=>some (Sum.inr t)
def M.La l v10 v11 s:=fH (M.RZ l v10 v11) s
def F.La:LE X0 21:=le 4 (Ik [dA 0 (pL false 5),dA 10 (pL false 5),dA 11 pI,dA 12 pI] []) (λx=>x.1.va.1) (λx s=>((x.1.1,x.1.2.1,x.1.2.2.1,s,()),())) (λx=> .sum (.leaf (Unit) (λt=>(Ex.ret,⟨[(2,oC false)],[]⟩))) (.leaf (Int) (λt=>(Ex.exit 0,⟨[(0,DC 5 x.1.1),(10,DC 5 x.1.2.1),(11,iE x.1.2.2.1),(12,iE t),(13,oC false)],[]⟩)))) (λx=>M.Hw x.1.1 x.1.2.1 x.1.2.2.1) [fe C.jm] [F.KZ] (by rintro _ _ _ _ _<;>simp only[Gw,M.Hw,nb]<;>rfl)
abbrev M.TW(l:ak)(k:Bool->Option R):=(M.Em l).bind λb=>cond (!b) (k false) ((M.La l l ((↑l.length:Int)) 0).bind λe=>jX e (λf=>k false) λd=>letE d λg=>(M.yT l).bind λa=>(M.kP a.1 a.2.1 a.2.2.1 a.2.2.2.1 (aB a.2.2.2.2)).bind λc=>k (decide (c<=40)))
def M.Ie l:=M.TW l some
def C.Ie:=fTa S.Ie (λx=>M.TW x.1.1) [fe C.Em,fe C.yT,fe C.kP] [F.La]
abbrev S.Dc:=rz 51 [qm zbt,pL false 5]
abbrev S.nR:=rz 23 [qm zbt]
abbrev S.xC:=rc 8 [pL false 5]
abbrev S.qj:=rj 10 [pL false 5]
abbrev S.oN:=rj 11 [pL false 3]
abbrev S.zn:=ra 9 [pL false 1,pL false 1]
abbrev S.Lc:=ra 3 [pL false 1]
abbrev M.ML(t' Du:Int)(Nz UJ:aC)(Q5 kids:ak)(k:Int×Int×aC×aC×ak->Option R):=k (t',Du,Nz,UJ,kids)
def M.Dc t' Du Nz UJ Q5 kids:=M.ML t' Du Nz UJ Q5 kids some
def C.Dc:=fTa S.Dc (λx=>M.ML x.1.1.1 x.1.1.2.1 x.1.1.2.2.1 x.1.1.va.1 x.1.1.va.2.1 x.1.2.1)
def M.zo(iM:zaq)(v8:ak)(v9 x' oO:Int)(pX tZ:aC)(xg:ak)(BI F7:Int)(Jw NG:aC)(s:Int×ak)(kn:Int×ak->Option R)(ke:Int×ak->Option R):Option R:=match s with
 |(v10,Rf)=>bif decide (v10<v9) then((idx v8 v10).bind λb=>Gw 5 b λaFd aRQ aRR aRS azE=>(bif aFd !=34 then((iM aFd aRQ aRR aRS azE).bind λa=>oq Rf [[D.int .i64 a.1,D.int .i64 a.2.1,D.str a.2.2.1,D.str a.2.2.2.1,D.sl false 5 (aB a.2.2.2.2)]] 72 λc=>kn (i64.wrap (v10+1),c)) else kn (i64.wrap (v10+1),Rf))) else ke (v10,Rf)
def M.EZ iM v8 v9 x' oO pX tZ xg BI F7 Jw NG s:=M.zo iM v8 v9 x' oO pX tZ xg BI F7 Jw NG s (λs=>some (Sum.inl s)) λt=>some (Sum.inr t)
def M.IV iM v8 v9 x' oO pX tZ xg BI F7 Jw NG s:=fH (M.EZ iM v8 v9 x' oO pX tZ xg BI F7 Jw NG) s
def F.IV{iM:zaq}(QM:S.nR.ok X0 λx=>lU iM x.1.1):LE X0 23:=le 3 (Ik [dA 1 (pP 300000 0),dA 2 (pP 300001 0),dA 3 (pO 300002 0),dA 8 (pL false 5),dA 9 pI,dA 10 pI] [dA 300000 (cB 50 zbt),dA 300001 zbp,dA 300002 zbr]) (λx=>(x.1.va.2.2.1,x.va.1)) (λx s=>(((),(),(),x.1.va.1,x.1.va.2.1,s.1,()),((x.2.1.1,x.2.1.2.1,x.2.1.2.2.1,x.2.1.va.1,x.2.1.va.2.1,()),(x.2.2.1.1,x.2.2.1.2.1,x.2.2.1.2.2.1,x.2.2.1.va.1,(),()),s.2,()))) (λx=> .leaf (Int×ak) (λt=>(Ex.exit 0,⟨[(1,V.ptr 300000 0),(2,V.ptr 300001 0),(3,V.own 300002 0),(8,DC 5 x.1.va.1),(9,iE x.1.va.2.1),(10,iE t.1),(11,oC false)],[(300000,Cell.box 50 [iE x.2.1.1,iE x.2.1.2.1,qw x.2.1.2.2.1,qw x.2.1.va.1,DC 5 x.2.1.va.2.1]),(300001,Cell.box 50 [iE x.2.2.1.1,iE x.2.2.1.2.1,qw x.2.2.1.2.2.1,qw x.2.2.1.va.1,V.nil 5]),(300002,Cell.arr false false 0 5 t.2)]⟩))) (λx=>zbJ (M.zo iM x.1.va.1 x.1.va.2.1 x.2.1.1 x.2.1.2.1 x.2.1.2.2.1 x.2.1.va.1 x.2.1.va.2.1) x.2.2.1) [fe QM] [] (by rintro _ _ ⟨_,_⟩ _ _<;>simp only[zbJ,oq,Gw,M.zo,nb]<;>rfl)
def M.E5(iM:zaq)(t' Du:Int)(Nz UJ:aC)(Q5:ak)(k:Int×Int×aC×aC×ak->Option R):=(M.IV iM Q5 ((↑Q5.length:Int)) t' Du Nz UJ Q5 0 0 [] [] (0,[])).bind λb=>(M.Dc t' Du Nz UJ Q5 (aB b.2)).bind λa=>k (a.1,a.2.1,a.2.2.1,a.2.2.2.1,aB a.2.2.2.2)
def M.jP:Nat->Int->Int->aC->aC->ak->Option zaM
 |0=>λ_ _ _ _ _=>none
 |n+1=>λt' Du Nz UJ Q5=>M.E5 (M.jP n) t' Du Nz UJ Q5 some
def M.nR t' Du Nz UJ Q5:=lim λn=>M.jP n t' Du Nz UJ Q5
def C.aeP{iM:zaq}(QM:S.nR.ok X0 λx=>lU iM x.1.1):S.nR.ok X0 λx=>lU (M.E5 iM) x.1.1 some:=fnS (λx=>M.E5 iM x.1.1.1 x.1.1.2.1 x.1.1.2.2.1 x.1.1.va.1 x.1.1.va.2.1) [fe C.Dc] [F.IV QM] (by intros;simp only[M.E5,nb]<;>rfl)
def C.jP:∀n,S.nR.ok X0 λx=>M.jP n x.1.1.1 x.1.1.2.1 x.1.1.2.2.1 x.1.1.va.1 x.1.1.va.2.1
 |0=>eP.zero
 |n+1=>C.aeP (C.jP n)
def C.nR:S.nR.ok X0 λx=>lU M.nR x.1.1:=eP.lim C.jP
def M.aeQ{n:Nat}{t' Du:Int}{Nz UJ:aC}{Q5:ak}{r:Int×Int×aC×aC×ak}(h:M.jP n t' Du Nz UJ Q5=some r):M.nR t' Du Nz UJ Q5=some r:=eP.Ij C.jP (by intro a b h;simp[S.nR,rz,sg] at h;first|exact h|simp[Prod.ext_iff,h]) (x:=(((t',Du,Nz,UJ,Q5,()),()),())) h
abbrev M.J7(l:ak)(k:ak->Option R):=(M.Ie l).bind λc=>cond (!c) (k []) ((M.yT l).bind λa=>(M.nR a.1 a.2.1 a.2.2.1 a.2.2.2.1 (aB a.2.2.2.2)).bind λb=>(M.nT b.1 b.2.1 b.2.2.1 b.2.2.2.1 (aB b.2.2.2.2)).bind λd=>k d)
def M.xC l:=M.J7 l some
def C.xC:=fTa S.xC (λx=>M.J7 x.1.1) [fe C.Ie,fe C.yT,fe C.nR,fe C.nT]
def M.wZ(v7:ak)(v8:Int)(s:Int×ak)(kn:Int×ak->Option R)(ke:Int×ak->Option R):Option R:=match s with
 |(v9,x')=>bif decide (v9<v8) then((idx v7 v9).bind λa=>Gw 1 a λaRW _ aRX _ _=>(bif aRW==34 then(oq x' [[D.str aRX]] 16 λb=>kn (i64.wrap (v9+1),b)) else kn (i64.wrap (v9+1),x'))) else ke (v9,x')
def M.Ba v7 v8 s:=M.wZ v7 v8 s (λs=>some (Sum.inl s)) λt=>some (Sum.inr t)
def M.qQ v7 v8 s:=fH (M.Ba v7 v8) s
def F.qQ:LE X0 10:=le 3 (Ik [dA 3 (pO 300000 0),dA 7 (pL false 5),dA 8 pI,dA 9 pI] [dA 300000 zbl]) (λx=>(x.1.va.1,x.2.1)) (λx s=>(((),x.1.2.1,x.1.2.2.1,s.1,()),(s.2,()))) (λx=> .leaf (Int×ak) (λt=>(Ex.exit 0,⟨[(3,V.own 300000 0),(7,DC 5 x.1.2.1),(8,iE x.1.2.2.1),(9,iE t.1),(10,oC false)],[(300000,Cell.arr false true 0 1 t.2)]⟩))) (λx=>M.wZ x.1.2.1 x.1.2.2.1) [] [] (by rintro _ _ ⟨_,_⟩ _ _<;>simp only[oq,Gw,M.wZ,nb]<;>rfl)
abbrev M.Gq(l:ak)(k:ak->Option R):=(M.qQ l ((↑l.length:Int)) (0,[])).bind λa=>cond (aj a.2) (k a.2) none
def M.qj l:=M.Gq l some
def C.qj:=fTa S.qj (λx=>M.Gq x.1.1) [] [F.qQ]
def M.uZ(v7:ak)(v8:Int)(s:Int×ak)(kn:Int×ak->Option R)(ke:Int×ak->Option R):Option R:=match s with
 |(v9,x')=>bif decide (v9<v8) then((idx v7 v9).bind λa=>(jq .i64 a 0).bind λb=>(cStr a 1).bind λc=>(jq .i64 a 2).bind λd=>bif b==2 then(oq x' [[D.str c]] 16 λe=>kn (i64.wrap (v9+1),e)) else kn (i64.wrap (v9+1),x')) else ke (v9,x')
def M.zI v7 v8 s:=M.uZ v7 v8 s (λs=>some (Sum.inl s)) λt=>some (Sum.inr t)
def M.pW v7 v8 s:=fH (M.zI v7 v8) s
def F.pW:LE X0 11:=le 3 (Ik [dA 3 (pO 300000 0),dA 7 (pL false 3),dA 8 pI,dA 9 pI] [dA 300000 zbl]) (λx=>(x.1.va.1,x.2.1)) (λx s=>(((),x.1.2.1,x.1.2.2.1,s.1,()),(s.2,()))) (λx=> .leaf (Int×ak) (λt=>(Ex.exit 0,⟨[(3,V.own 300000 0),(7,DC 3 x.1.2.1),(8,iE x.1.2.2.1),(9,iE t.1),(10,oC false)],[(300000,Cell.arr false true 0 1 t.2)]⟩))) (λx=>M.uZ x.1.2.1 x.1.2.2.1) [] [] (by rintro _ _ ⟨_,_⟩ _ _<;>simp only[oq,M.uZ,nb]<;>rfl)
abbrev M.E8(l:ak)(k:ak->Option R):=(M.pW l ((↑l.length:Int)) (0,[])).bind λa=>cond (aj a.2) (k a.2) none
def M.oN l:=M.E8 l some
def C.oN:=fTa S.oN (λx=>M.E8 x.1.1) [] [F.pW]
def M.Ap(a b:ak)(s:Int)(kn:Int->Option R)(ke:(Unit)⊕(Int)->Option R):Option R:=match s with
 |i=>bif decide (i<(↑a.length:Int)) then((idx a i).bind λf=>(cStr f 0).bind λc=>(idx b i).bind λe=>(cStr e 0).bind λd=>bif !c==d then(ke (.inl ())) else kn (i64.wrap (i+1))) else ke (.inr i)
def M.Gs a b s:=M.Ap a b s (λs=>some (Sum.inl s)) λt=>some (Sum.inr t)
def M.J8 a b s:=fH (M.Gs a b) s
def F.J8:LE X0 9:=le 4 (Ik [dA 0 (pL false 1),dA 1 (pL false 1),dA 5 pI] []) (λx=>x.1.2.2.1) (λx s=>((x.1.1,x.1.2.1,s,()),())) (λx=> .sum (.leaf (Unit) (λt=>(Ex.ret,⟨[(4,oC false)],[]⟩))) (.leaf (Int) (λt=>(Ex.exit 0,⟨[(0,DC 1 x.1.1),(1,DC 1 x.1.2.1),(5,iE t),(14,oC false)],[]⟩)))) (λx=>M.Ap x.1.1 x.1.2.1) [] [] (by rintro _ _ _ _ _<;>simp only[M.Ap,nb]<;>rfl)
abbrev M.MN(a b:ak)(k:Bool->Option R):=cond ((↑a.length:Int) !=(↑b.length:Int)) (k false) ((M.J8 a b 0).bind λc=>jX c (λe=>k false) λd=>letE d λf=>k true)
def M.zn a b:=M.MN a b some
def C.zn:=fTa S.zn (λx=>M.MN x.1.1 x.1.2.1) [] [F.J8]
abbrev M.TY(code:ak)(k:Bool->Option R):=(M.VP code).bind λi=>cond i (k true) ((M.yR code).bind λf=>(M.KE f).bind λa=>cond (a.2.1 !=0) (k ((↑a.1.length:Int)==0)) ((M.Uk f).bind λe=>(M.xC (aB a.1)).bind λb=>cond ([[D.sl true 5 b]].all fB) ((M.qj (aB a.1)).bind λh=>cond ([[D.sl true 1 h]].all fB) ((M.oN e.1).bind λc=>cond ([[D.sl true 1 c]].all fB) ((M.zn h c).bind λj=>cond j ((M.wB (aB a.1)).bind λl=>cond l ((M.qj (aB b)).bind λd=>cond ([[D.sl true 1 d]].all fB) (cond ((↑d.length:Int)==0) ((M.oN e.1).bind λg=>cond ([[D.sl true 1 g]].all fB) (cond ((↑b.length:Int)==i64.wrap ((↑a.1.length:Int) - (↑g.length:Int))) ((M.wB (aB b)).bind λm=>k m) (k false)) none) (k false)) none) (k false)) (k false)) none) none) none))
def M.Lc code:=M.TY code some
def C.Lc:=fTa S.Lc (λx=>M.TY x.1.1) [fe C.VP,fe C.yR,fe C.KE,fe C.Uk,fe C.xC,fe C.qj,fe C.oN,fe C.zn,fe C.wB]
end
open Int (reduceLE reduceLT reduceSub reduceAdd)
def gu:(∀a b:Int,(a>=b)=(b<=a))/\(∀a b:Int,(a>b)=(b<a))/\(∀h:Decidable True,@decide True h=true)/\(∀h:Decidable False,@decide False h=false)/\(∀(α:Type) (a b:α),cond true a b=a)/\(∀(α:Type) (a b:α),cond false a b=b)/\(∀b:Bool,(b && true)=b)/\(∀b:Bool,(b && false)=false)/\(∀b:Bool,(true && b)=b)/\(∀b:Bool,(false && b)=false)/\((!true)=false)/\((!false)=true):=
 ⟨λ_ _=>rfl,λ_ _=>rfl,λh=>@decide_eq_true True h trivial,λh=>@decide_eq_false False h id,λ_ _ _=>rfl,λ_ _ _=>rfl,λb=>by cases b<;>rfl,λb=>by cases b<;>rfl,λ_=>rfl,λ_=>rfl,rfl,rfl⟩
def bI{m n:Nat}(h:m<=n):m.ble n=true:=Nat.ble_eq_true_of_le h
def ah{α β:Type}(a:α)(f:α->Option β):(some a).bind f=f a:=rfl
def Wy:((0:Nat):Int)=0:=rfl
def qx(s:aC)(a:Int):Int:=if 0<=a then(match s[a.toNat]? with|some c=>(c.toNat:Int)|none=> -1) else -1
def isD(b:Int):Bool:=decide (b>=48) && decide (b<=57)
def E9(s:aC)(a:Int):Int:=if 0<=a then a+(((s.drop a.toNat).takeWhile λc=>isD (c.toNat:Int)).length:Nat) else a
def arj(c:UInt8):c.toNat<256:=c.toNat_lt
def IW(s:aC)(i:Nat):qx s (i:Int)=(match s[i]? with|some c=>(c.toNat:Int)|none=> -1):=by rw[qx,if_pos au,ztn]
section
variable {s:aC} (h:s.length<=1048576)
include h
theorem Df(a:Int):M.fZ s a=some (qx s a):=by
 simp only[M.fZ,M.Tc]
 by_cases h0:a<0
 ·rw[zdt h0,aH,qx,if_neg au]
 ·rw[xE h0,bG];obtain⟨i,rfl⟩:∃i:Nat,a=i:=⟨a.toNat,au⟩
  rw[IW]
  by_cases h1:(i:Int)>=(s.length:Int)
  ·rw[zdt h1,aH,List.getElem?_eq_none au]
  ·obtain⟨c,hc⟩:∃c,s[i]? =some c:=⟨s[i]'au,by simp⟩
   have:=arj c;rw[xE h1,bG,bZ,hc,ah,aJ au au]
theorem Dh(a:Int):M.iT s a=some (qx s a):=by
 simp only[M.iT,M.TI,M.eX,M.FT];rw[aJ au au]
 by_cases h0:a<0
 ·rw[xE au,bG,ah,Bool.not_false,aH,qx,if_neg au]
 ·rw[zdt au,aH,ah];obtain⟨i,rfl⟩:∃i:Nat,a=i:=⟨a.toNat,au⟩
  rw[IW]
  by_cases h1:(i:Int)>=(s.length:Int)
  ·rw[xE au,Bool.not_false,aH,List.getElem?_eq_none au]
  ·obtain⟨c,hc⟩:∃c,s[i]? =some c:=⟨s[i]'au,by simp⟩
   have:=arj c;rw[zdt au,zaW,bG,bZ,hc,ah,aJ au au]
end
def akn(b:Int):M.tH b=some (isD b):=by simp only[M.tH,M.PZ,M.dQ,M.Ep,isD];cases decide (b>=48)<;>rfl
def ako(b:Int):M.tN b=some (isD b):=by simp only[M.tN,M.Qp,isD];cases decide (b>=48)<;>rfl
def aFm{s:aC}{b:Int->Option (Int⊕Int)}(hb:∀a,0<=a->a<=2000000->b a=some (bif isD (qx s a) then .inl (a+1) else .inr a))(h:s.length<=1048576):
  ∀(rest pre:aC),s=pre++rest->fH b (pre.length:Int)=some ((pre.length:Int)+((rest.takeWhile λc=>isD (c.toNat:Int)).length:Nat))
 |[],pre,e=>by
  have hl:pre.length=s.length:=by rw[e];simp
  refine aV ?_;rw[hb _ au au,IW,List.getElem?_eq_none au];simp[isD]
 |c::rest,pre,e=>by
  have hl:s.length=pre.length+(rest.length+1):=by rw[e];simp
  have hget:s[pre.length]? =some c:=by rw[e,List.getElem?_append_right (zaX _),Nat.sub_self];rfl
  have hs:=hb (pre.length:Int) au au;rw[IW,hget] at hs;simp only at hs;cases hd:isD (c.toNat:Int) with
  |true=>have:=aFm hb h rest (pre++[c]) (by rw[e];simp);rw[Gt,OW] at this;rw[hd,aH] at hs;rw[bQ hs,List.takeWhile_cons,if_pos hd,show(pre.length:Int)+1=((pre.length+1:Nat):Int) by omega,this];simp;omega
  |false=>rw[hd,bG] at hs;rw[aV hs,List.takeWhile_cons,hd];simp
def azF{s:aC}{b:Int->Option (Int⊕Int)}(hb:∀a,0<=a->a<=2000000->b a=some (bif isD (qx s a) then .inl (a+1) else .inr a))(h:s.length<=1048576)(a:Int)(h0:0<=a)(h1:a<=2000000):fH b a=some (E9 s a):=by
 obtain⟨i,rfl⟩:∃i:Nat,a=i:=⟨a.toNat,au⟩
 rw[E9,if_pos h0,ztn]
 by_cases hi:i<=s.length
 ·have:=aFm hb h (s.drop i) (s.take i) (List.take_append_drop i s).symm;rw[zlt,Nat.min_eq_left hi] at this;exact this
 ·rw[List.drop_eq_nil_of_le au];refine aV ?_;rw[hb _ h0 h1,IW,List.getElem?_eq_none au];simp[isD]
def Ld{s:aC}(h:s.length<=1048576){a:Int}(h0:0<=a):a<=E9 s a/\(E9 s a<=a\/E9 s a<=s.length):=by have h1:=(List.takeWhile_sublist (p:=λc:UInt8=>isD (c.toNat:Int)) (l:=s.drop a.toNat)).length_le;rw[List.length_drop] at h1;rw[E9,if_pos h0];omega
section
variable {s:aC} (h:s.length<=1048576)
include h
theorem Hy(a:Int)(h0:0<=a)(h1:a<=2000000):M.fM s a=some (E9 s a):=by simp only[M.fM,M.NZ,M.LU];rw[azF (λa h0 h1=>by simp only[M.VR,M.Ir,Df h,akn,ah];rw[aJ au au];cases isD (qx s a)<;>rfl) h a h0 h1,ah]
theorem Fa(a:Int)(h0:0<=a)(h1:a<=2000000):M.jr s a=some (E9 s a):=by simp only[M.jr,M.Mc,M.JR];rw[azF (λa h0 h1=>by simp only[M.UW,M.Gg,Dh h,ako,ah];rw[aJ au au];cases isD (qx s a)<;>rfl) h a h0 h1,ah]
end
def XB(s:aC)(r:Int):Int:=bif(qx s r==101)||(qx s r==69) then
  (bif(qx s (r+1)==43)||(qx s (r+1)==45) then(bif decide (E9 s (r+1+1)>r+1+1) then E9 s (r+1+1) else r) else(bif decide (E9 s (r+1)>r+1) then E9 s (r+1) else r)) else r
def Wi(s:aC)(a:Int):Int:=if a<0\/(s.length:Int)<=a then -1 else
 bif qx s (E9 s a)==46 then(bif(E9 s a==a) &&(E9 s (E9 s a+1)==E9 s a+1) then -1 else XB s (E9 s (E9 s a+1))) else(bif E9 s a==a then -1 else XB s (E9 s a))
section
variable {s:aC} (h:s.length<=1048576)
include h
set_option maxHeartbeats 2000000 in
theorem abx(a:Int)(ha:a<=1048576):M.yS s a=some (Wi s a):=by
 simp only[M.yS,M.TJ,M.Hg,M.eX,M.FT,Wi];rw[aJ au au]
 by_cases h0:a<0
 ·rw[xE au,bG,ah,Bool.not_false,aH,if_pos (.inl h0)]
 ·rw[zdt au,aH,ah]
  by_cases h1:(s.length:Int)<=a
  ·rw[xE au,Bool.not_false,aH,if_pos (.inr h1)]
  ·rw[zdt au,zaW,bG,if_neg au,Fa h a au au,ah];have e1:=Ld h (a:=a) au;generalize hE:E9 s a=e at e1|-;simp only[Dh h,ah];rw[aJ (n:=e+1) au au,aJ (n:=e - a) au au,Fa h (e+1) au au,ah];have e2:=Ld h (a:=e+1) au;generalize hK:E9 s (e+1)=k at e2|-;have hz:(i64.wrap (e - a+i64.wrap (i64.wrap (k - e) - 1))==0)=((e==a) &&(k==e+1)):=by rw[aJ (n:=k - e) au au,aJ (n:=k - e - 1) au au,aJ au au,Bool.eq_iff_iff];simp only[zq,beq_iff_eq];omega
   have hz2:(e - a==0)=(e==a):=by rw[Bool.eq_iff_iff];simp only[beq_iff_eq];omega
   rw[hz,hz2];have ex:∀r:Int,0<=r->r<=1048578->(bif qx s r==101 then
      ((some (qx s (i64.wrap (r+1)))).bind λaR8=>
      (bif aR8==43 then
       ((M.jr s (i64.wrap (i64.wrap (r+1)+1))).bind λaR9=>
       (bif decide (aR9>i64.wrap (i64.wrap (r+1)+1)) then(some aR9) else(some r))) else
       (bif aR8==45 then
       ((M.jr s (i64.wrap (i64.wrap (r+1)+1))).bind λaCb=>(bif decide (aCb>i64.wrap (i64.wrap (r+1)+1)) then(some aCb) else(some r))) else
       ((M.jr s (i64.wrap (r+1))).bind λaSa=>(bif decide (aSa>i64.wrap (r+1)) then(some aSa) else(some r)))))) else
      (bif qx s r==69 then
      ((some (qx s (i64.wrap (r+1)))).bind λaSb=>
       (bif aSb==43 then
       ((M.jr s (i64.wrap (i64.wrap (r+1)+1))).bind λaCc=>(bif decide (aCc>i64.wrap (i64.wrap (r+1)+1)) then(some aCc) else(some r))) else
       (bif aSb==45 then
        ((M.jr s (i64.wrap (i64.wrap (r+1)+1))).bind λaCo=>
        (bif decide (aCo>i64.wrap (i64.wrap (r+1)+1)) then(some aCo) else(some r))) else
        ((M.jr s (i64.wrap (r+1))).bind λaCd=>(bif decide (aCd>i64.wrap (r+1)) then(some aCd) else(some r)))))) else(some r)))=some (XB s r):=by
    intro r h0 h1;rw[aJ (n:=r+1) au au,aJ (n:=r+1+1) au au,Fa h (r+1) au au,Fa h (r+1+1) au au,XB];simp only[ah];cases qx s r==101<;>cases qx s r==69<;>cases qx s (r+1)==43<;>cases qx s (r+1)==45<;>cases decide (E9 s (r+1+1)>r+1+1)<;>cases decide (E9 s (r+1)>r+1)<;>rfl
   simp only[ah] at ex;cases qx s e==46 with
   |true=>
    simp only[aH];cases(e==a) &&(k==e+1) with
    |true=>rfl
    |false=>simp only[bG];exact ex k au au
   |false=>
    simp only[bG];cases e==a with
    |true=>rfl
    |false=>simp only[bG];have h2:=ex e au au;rw[aJ (n:=e+1) au au,Fa h (e+1) au au,hK] at h2;simp only[ah] at h2;exact h2
theorem aby(a:Int)(ha:a<=1048576):M.yP s a=some (Wi s a):=by
 simp only[M.yP,M.Td,M.yU,Wi]
 by_cases h0:a<0
 ·rw[zdt h0,aH,if_pos (.inl h0)]
 ·rw[xE h0,bG];have e1:=Ld h (a:=a) au;rw[Hy h a au au,ah];simp only[Df h,ah]
  by_cases h1:(s.length:Int)<=a
  ·have he:E9 s a=a:=au;obtain⟨i,rfl⟩:∃i:Nat,a=i:=⟨a.toNat,au⟩
   have hb:qx s (i:Int)= -1:=by rw[IW,List.getElem?_eq_none au]
   rw[he,hb,if_pos (.inr h1),show((-1:Int)==46)=false from rfl,bG,beq_self_eq_true,aH]
  ·rw[if_neg au];generalize hE:E9 s a=e at e1|-;have e2:=Ld h (a:=e+1) au;rw[aJ (n:=e+1) au au,Hy h (e+1) au au,ah];have ex:∀r:Int,0<=r->r<=1048578->(bif qx s r==101 then
      (bif qx s (i64.wrap (r+1))==43 then
       ((M.fM s (i64.wrap (i64.wrap (r+1)+1))).bind λa0z=>
        (bif decide (a0z>i64.wrap (i64.wrap (r+1)+1)) then
        ((M.fM s (i64.wrap (i64.wrap (r+1)+1))).bind λa0A=>(some a0A)) else(some r))) else
        (bif qx s (i64.wrap (r+1))==45 then
        ((M.fM s (i64.wrap (i64.wrap (r+1)+1))).bind λa0B=>
         (bif decide (a0B>i64.wrap (i64.wrap (r+1)+1)) then
         ((M.fM s (i64.wrap (i64.wrap (r+1)+1))).bind λa0C=>(some a0C)) else(some r))) else
        ((M.fM s (i64.wrap (r+1))).bind λa0D=>(bif decide (a0D>i64.wrap (r+1)) then((M.fM s (i64.wrap (r+1))).bind λa0E=>(some a0E)) else(some r))))) else
       (bif qx s r==69 then
        (bif qx s (i64.wrap (r+1))==43 then
        ((M.fM s (i64.wrap (i64.wrap (r+1)+1))).bind λa0F=>
         (bif decide (a0F>i64.wrap (i64.wrap (r+1)+1)) then
         ((M.fM s (i64.wrap (i64.wrap (r+1)+1))).bind λa0G=>(some a0G)) else(some r))) else
         (bif qx s (i64.wrap (r+1))==45 then
         ((M.fM s (i64.wrap (i64.wrap (r+1)+1))).bind λa0H=>
          (bif decide (a0H>i64.wrap (i64.wrap (r+1)+1)) then
          ((M.fM s (i64.wrap (i64.wrap (r+1)+1))).bind λa0I=>(some a0I)) else(some r))) else
         ((M.fM s (i64.wrap (r+1))).bind λa0J=>(bif decide (a0J>i64.wrap (r+1)) then((M.fM s (i64.wrap (r+1))).bind λa0K=>(some a0K)) else(some r))))) else(some r)))=some (XB s r):=by
    intro r h0 h1;rw[aJ (n:=r+1) au au,aJ (n:=r+1+1) au au,Hy h (r+1) au au,Hy h (r+1+1) au au,XB];simp only[ah];cases qx s r==101<;>cases qx s r==69<;>cases qx s (r+1)==43<;>cases qx s (r+1)==45<;>cases decide (E9 s (r+1+1)>r+1+1)<;>cases decide (E9 s (r+1)>r+1)<;>rfl
   generalize hK:E9 s (e+1)=k at e2|-;have hka:(k==a)=false:=by rw[QV];omega
   rw[hka];cases qx s e==46 with
   |true=>
    simp only[aH,bG];cases e==a with
    |true=>
     simp only[aH,Bool.true_and];cases k==e+1 with
     |true=>rfl
     |false=>simp only[bG];exact ex k au au
    |false=>simp only[bG,Bool.false_and];exact ex k au au
   |false=>
    simp only[bG];cases e==a with
    |true=>rfl
    |false=>simp only[bG];have h2:=ex e au au;rw[aJ (n:=e+1) au au,Hy h (e+1) au au,hK] at h2;simp only[ah] at h2;exact h2
end
def afF(q:Int):aC->Int->Int
 |[],_=> -1
 |c::l,i=>if(c.toNat:Int)=q then i+1 else if(c.toNat:Int)=10 then -1 else if(c.toNat:Int)=92 then(match l with
   |[]=> -1
   |d::l'=>if(d.toNat:Int)=10 then -1 else afF q l' (i+2)) else afF q l (i+1)
def agQ(q:Int)(c:UInt8)(l:aC)(i:Int):afF q (c::l) i=if(c.toNat:Int)=q then i+1 else if(c.toNat:Int)=10 then -1 else if(c.toNat:Int)=92 then(match l with
   |[]=> -1
   |d::l'=>if(d.toNat:Int)=10 then -1 else afF q l' (i+2)) else afF q l (i+1):=by
 cases l with
 |nil=>simp[afF]
 |cons d l=>simp[afF]
def hdI:aC->Int
 |[]=> -1
 |d::_=>(d.toNat:Int)
def quoted(s:aC)(a q:Int):Int:=if qx s a=q then afF q (s.drop (a+1).toNat) (a+1) else -1
def azG{s:aC}(h:s.length<=1048576)(q:Int)(hq:q≠10):∀(n:Nat) (rest pre:aC),rest.length<=n->s=pre++rest->
  (∃r,M.x8 s q (pre.length:Int)=some r/\(jX r some λu=>letE u λ_=>some (-1))=some (afF q rest (pre.length:Int)))/\
  (∃r,M.wL s q (pre.length:Int)=some r/\(jX r some λu=>letE u λ_=>some (-1))=some (afF q rest (pre.length:Int)))
 |n,[],pre,hn,e=>by
  have hl:pre.length=s.length:=by rw[e];simp
  constructor
  ·refine⟨.inr (pre.length:Int), ?_,rfl⟩;rw[M.x8];refine aV ?_;simp only[M.BX,M.xZ];rw[xE au,bG]
  ·refine⟨.inr (pre.length:Int), ?_,rfl⟩;rw[M.wL];refine aV ?_;simp only[M.Ac,M.xk];rw[xE au,bG]
 |0,c::rest,pre,hn,e=>by simp at hn
 |n+1,c::rest,pre,hn,e=>by
  simp only[Pq] at hn;have hl:s.length=pre.length+(rest.length+1):=by rw[e];simp
  have hget:s[pre.length]? =some c:=by rw[e,List.getElem?_append_right (zaX _),Nat.sub_self];rfl
  have hc:=arj c;have hw:i64.wrap ((c.toNat:Nat):Int)=(c.toNat:Int):=aJ au au;have hw1:i64.wrap ((pre.length:Int)+1)=((pre.length+1:Nat):Int):=by rw[aJ au au];omega
  have hw2:i64.wrap (((pre.length+1:Nat):Int)+1)=((pre.length+2:Nat):Int):=by rw[aJ au au];omega
  have hnext:qx s ((pre.length+1:Nat):Int)=hdI rest:=by rw[IW,e,List.getElem?_append_right au,show pre.length+1 - pre.length=1 by omega];cases rest<;>rfl
  have hS:M.BX s q (pre.length:Int)=some (if(c.toNat:Int)=q then .inr (.inl ((pre.length+1:Nat):Int)) else if(c.toNat:Int)=10 then .inr (.inl (-1)) else if(c.toNat:Int)=92 then
    (if qx s ((pre.length+1:Nat):Int)=10 then .inr (.inl (-1)) else .inl ((pre.length+2:Nat):Int)) else .inl ((pre.length+1:Nat):Int)):=by
   simp only[M.BX,M.xZ,bZ,hget,ah,hw,hw1,hw2,Df h];rw[zdt au,aH]
   by_cases c1:(c.toNat:Int)=q
   ·rw[if_pos c1,show((c.toNat:Int)==q)=true by simpa using c1,aH]
   ·rw[if_neg c1,show((c.toNat:Int)==q)=false by simpa using c1,bG]
    by_cases c2:(c.toNat:Int)=10
    ·rw[if_pos c2,show((c.toNat:Int)==10)=true by simpa using c2,aH]
    ·rw[if_neg c2,show((c.toNat:Int)==10)=false by simpa using c2,bG]
     by_cases c3:(c.toNat:Int)=92
     ·rw[if_pos c3,show((c.toNat:Int)==92)=true by simpa using c3,aH]
      by_cases c4:qx s ((pre.length+1:Nat):Int)=10
      ·rw[if_pos c4,c4];rfl
      ·rw[if_neg c4,show(qx s ((pre.length+1:Nat):Int)==10)=false by simpa using c4,bG]
     ·rw[if_neg c3,show((c.toNat:Int)==92)=false by simpa using c3,bG]
  have hI:M.Ac s q (pre.length:Int)=some (if(c.toNat:Int)=10 then .inr (.inr (pre.length:Int)) else if(c.toNat:Int)=q then .inr (.inl ((pre.length+1:Nat):Int)) else if(c.toNat:Int)=92 then
    (if qx s ((pre.length+1:Nat):Int)=10 then .inl ((pre.length+1:Nat):Int) else .inl ((pre.length+2:Nat):Int)) else .inl ((pre.length+1:Nat):Int)):=by
   simp only[M.Ac,M.xk,bZ,hget,ah,hw,hw1,hw2,Dh h];rw[zdt au,aH]
   by_cases c2:(c.toNat:Int)=10
   ·rw[if_pos c2,show((c.toNat:Int) !=10)=false by simpa using c2,bG]
   ·rw[if_neg c2,show((c.toNat:Int) !=10)=true by simpa using c2,aH]
    by_cases c1:(c.toNat:Int)=q
    ·rw[if_pos c1,show((c.toNat:Int)==q)=true by simpa using c1,aH]
    ·rw[if_neg c1,show((c.toNat:Int)==q)=false by simpa using c1,bG]
     by_cases c3:(c.toNat:Int)=92
     ·rw[if_pos c3,show((c.toNat:Int)==92)=true by simpa using c3,aH]
      by_cases c4:qx s ((pre.length+1:Nat):Int)=10
      ·rw[if_pos c4,c4];rfl
      ·rw[if_neg c4,show(qx s ((pre.length+1:Nat):Int) !=10)=true by simpa using c4,aH]
     ·rw[if_neg c3,show((c.toNat:Int)==92)=false by simpa using c3,bG]
  have e1:s=(pre++[c])++rest:=by rw[e];simp
  have ih1:=azG h q hq n rest (pre++[c]) au e1;rw[Gt,OW] at ih1;rw[M.x8,M.wL] at ih1|-;rw[agQ]
  by_cases c1:(c.toNat:Int)=q
  ·have c2:¬(c.toNat:Int)=10:=au;rw[if_pos c1];rw[if_pos c1] at hS;rw[if_neg c2,if_pos c1] at hI;refine⟨⟨_,aV hS, ?_⟩,⟨_,aV hI, ?_⟩⟩<;>simp[jX]
  ·rw[if_neg c1];rw[if_neg c1] at hS
   by_cases c2:(c.toNat:Int)=10
   ·rw[if_pos c2];rw[if_pos c2] at hS hI;exact⟨⟨_,aV hS,rfl⟩,⟨_,aV hI,rfl⟩⟩
   ·rw[if_neg c2];rw[if_neg c2] at hS hI;rw[if_neg c1] at hI
    by_cases c3:(c.toNat:Int)=92
    ·rw[if_pos c3];rw[if_pos c3] at hS hI;cases rest with
     |nil=>
      rw[hnext,hdI] at hS hI;simp only[show¬((-1:Int)=10) by omega,if_false] at hS hI;have hend:∀(b:Int->Option (Int⊕(Int⊕Int))),True:=λ_=>trivial
      simp only[UR] at hl;refine⟨⟨.inr ((pre.length+2:Nat):Int), ?_,rfl⟩,⟨.inr ((pre.length+2:Nat):Int), ?_,rfl⟩⟩
      ·rw[bQ hS];refine aV ?_;simp only[M.BX,M.xZ];rw[xE au,bG]
      ·rw[bQ hI];refine aV ?_;simp only[M.Ac,M.xk];rw[xE au,bG]
     |cons d rest'=>
      simp only[hdI] at hnext|-;rw[hnext] at hS hI
      by_cases c4:(d.toNat:Int)=10
      ·rw[if_pos c4];rw[if_pos c4] at hS hI;refine⟨⟨_,aV hS,rfl⟩, ?_⟩;obtain⟨r,h1,h2⟩:=ih1.2;refine⟨r,by rw[bQ hI];exact h1, ?_⟩;rw[h2,agQ,if_neg au,if_pos c4]
      ·rw[if_neg c4];rw[if_neg c4] at hS hI;have e2:s=(pre++[c,d])++rest':=by rw[e];simp
       simp only[Pq] at hn;have ih2:=azG h q hq n rest' (pre++[c,d]) au e2;rw[Gt,show[c,d].length=2 from rfl,M.x8,M.wL] at ih2;rw[bQ hS,bQ hI,show(pre.length:Int)+2=((pre.length+2:Nat):Int) by omega];exact ih2
    ·rw[if_neg c3];rw[if_neg c3] at hS hI;rw[bQ hS,bQ hI,show(pre.length:Int)+1=((pre.length+1:Nat):Int) by omega];exact ih1
section
variable {s:aC} (h:s.length<=1048576)
include h
theorem amY(a q:Int)(h0:0<=a)(h1:a<=1048576)(hq:0<=q)(hq2:q≠10):M.vI s a q=some (quoted s a q)/\M.sS s a q=some (quoted s a q):=by
 simp only[M.vI,M.N7,M.sS,M.Md,Df h,Dh h,ah,quoted]
 by_cases hb:qx s a=q
 ·rw[if_pos hb,show(qx s a !=q)=false by simpa using hb,bG,bG,aJ au au];obtain⟨i,rfl⟩:∃i:Nat,a=i:=⟨a.toNat,au⟩
  have hi:i<s.length:=by
   rcases Nat.lt_or_ge i s.length with hlt|hge
   ·exact hlt
   ·rw[IW,List.getElem?_eq_none hge] at hb;simp only at hb;omega
  obtain⟨⟨r,k1,k2⟩,⟨r',k3,k4⟩⟩:=azG h q hq2 _ (s.drop (i+1)) (s.take (i+1)) (zaX _) (List.take_append_drop _ s).symm;rw[zlt,Nat.min_eq_left au] at k1 k2 k3 k4;rw[show(i:Int)+1=((i+1:Nat):Int) by omega,ztn,k1,k3,ah,ah];exact⟨k2,k4⟩
 ·rw[if_neg hb,show(qx s a !=q)=true by simpa using hb,aH,aH];exact⟨rfl,rfl⟩
theorem agR(a:Int)(h0:0<=a)(h1:a<=1048576):M.Bq s a=some (quoted s a 34)/\M.BF s a=some (quoted s a 34):=by have:=amY h a 34 h0 h1 au au;simp only[M.Bq,M.Tf,M.BF,M.TK,this.1,this.2,ah];constructor<;>first|rfl|trivial
def XC(s:aC)(a:Int):Int:=bif quoted s a 47==a+2 then -1 else quoted s a 47
theorem agS(a:Int)(h0:0<=a)(h1:a<=1048576):M.Bv s a=some (XC s a)/\M.BG s a=some (XC s a):=by have:=amY h a 47 h0 h1 au au;simp only[M.Bv,M.Ti,M.BG,M.TM,this.1,this.2,ah,XC];rw[aJ au au];cases quoted s a 47==a+2<;>simp
end
end Go.Proofs.YtgealgmioiepeaaGreatDoor
namespace Go.Proofs.YtgealgmioiepeaaGreatDoor
open Go Go.Vm
open Int (reduceLE reduceLT reduceSub reduceAdd)
@[simp] theorem Le(l:List (aC)):(encS l).length=l.length:=by simp[encS]
@[simp] theorem Yp(l:List (aC))(i:Nat):(encS l)[i]? =(l[i]?).map λs=>[D.str s]:=by simp[encS]
def cS0(s:aC):cStr [D.str s] 0=some s:=rfl
def strsOf:Row->List (aC)
 |[]=>[]
 | .str s::r=>s::strsOf r
 |_::r=>strsOf r
def Y2:List (aC):=strsOf H8
def UL:List (aC):=strsOf VO
def ark:List (aC):=strsOf O1
def Uw(s:aC):List (aC)->Int->Int
 |[],_=> -1
 |x::l,i=>if x==s then i else Uw s l (i+1)
def abz(s:aC):∀(l:List (aC)) (i:Int),0<=i-> -1<=Uw s l i/\Uw s l i<i+l.length
 |[],i,h=>by simp[Uw];omega
 |x::l,i,h=>by
  rw[Uw];split
  ·simp;omega
  ·have:=abz s l (i+1) au;simp only[Pq];omega
def amZ(s:aC)(l:List (aC))(hl:l.length<=1048576){b:Int->Option (Int⊕(Int⊕Int))}
  (hb:∀(i:Nat) x,l[i]? =some x->b (i:Int)=some (if x==s then .inr (.inl (i:Int)) else .inl ((i:Int)+1))) (he:b (l.length:Int)=some (.inr (.inr (l.length:Int)))):
  ∃r,fH b 0=some r/\(jX r some λu=>letE u λ_=>some (-1))=some (Uw s l 0):=by
 have key:∀(t:List (aC)) (i:Nat),l.drop i=t->i<=l.length->∃r,fH b (i:Int)=some r/\(jX r some λu=>letE u λ_=>some (-1))=some (Uw s t (i:Int)):=by
  intro t;induction t with
  |nil=>
   intro i hd hi;have:i=l.length:=by have:=congrArg List.length hd;simp at this;omega
   subst this;exact⟨_,aV he,rfl⟩
  |cons x t ih=>
   intro i hd hi;have hx:l[i]? =some x:=by
    have:(l.drop i)[0]? =some x:=by rw[hd];rfl
    simpa using this
   have hlt:i<l.length:=(Po.1 hx).1;have hd':l.drop (i+1)=t:=by rw[<-List.drop_drop,hd];rfl
   have hs:=hb i x hx;rw[Uw];cases hxs:x==s with
   |true=>rw[hxs] at hs;exact⟨_,aV hs,rfl⟩
   |false=>
    rw[hxs] at hs;obtain⟨r,h1,h2⟩:=ih (i+1) hd' hlt;refine⟨r, ?_, ?_⟩
    ·rw[bQ hs,show(i:Int)+1=((i+1:Nat):Int) by omega];exact h1
    ·rw[h2];simp
 exact key l 0 rfl (Nat.zero_le _)
def am0(s:aC)(l:List (aC))(hl:l.length<=1048576):M.Bo (encS l) s=some (Uw s l 0):=by
 obtain⟨r,h1,h2⟩:=amZ s l hl (b:=M.LM (encS l) s)
  (λi x hx=>by have hi:=(Po.1 hx).1;simp only[M.LM,M.Gz,Le,bZ,Yp,hx,MS,ah,cS0];rw[zdt au,aH,aJ au au];cases x==s<;>rfl)
  (by simp only[M.LM,M.Gz,Le];rw[xE au,bG])
 simp only[M.Bo,M.SY,M.P5];rw[h1,ah];exact h2
def akp(s:aC)(l:List (aC))(hl:l.length<=1048576):M.slices_Index (encS l) s=some (Uw s l 0):=by
 obtain⟨r,h1,h2⟩:=amZ s l hl (b:=M.JW (encS l) s (l.length:Int))
  (λi x hx=>by have hi:=(Po.1 hx).1;simp only[M.JW,M.EK,bZ,Yp,hx,MS,ah,cS0];rw[zdt au,aH,aJ au au,show(s==x)=(x==s) by rw[Bool.eq_iff_iff,beq_iff_eq,beq_iff_eq];exact⟨Eq.symm,Eq.symm⟩];cases x==s<;>rfl)
  (by simp only[M.JW,M.EK];rw[xE au,bG])
 simp only[M.slices_Index,M.Qs,M.Ot,Le];rw[h1,ah];exact h2
def aio(s:aC):Int:=if Uw s Y2 0<0 then 0 else 10+Uw s Y2 0
def Xg(s:aC):Bool:=decide (Uw s ark 0>=0)
def arl:M.Aw=some (encS Y2):=rfl
def arn:M.qR=some (encS ark):=rfl
def akq:M.Az=some (encS UL):=rfl
def aHO:List.map (λx=>[x]) H8=encS Y2:=rfl
def aDc:List.map (λx=>[x]) O1=encS ark:=rfl
def Y3(s:aC):M.qF s=some (aio s)/\M.qH s=some (aio s):=by
 have hr:=abz s Y2 0 au;have hl:Y2.length=17:=rfl;simp only[M.qF,M.LP,M.qH,M.MB,arl,aHO,ah,am0 s Y2 (by rw[hl];omega),akp s Y2 (by rw[hl];omega),aio]
 by_cases h:Uw s Y2 0<0
 ·rw[zdt h,aH,if_pos h];exact⟨rfl,rfl⟩
 ·rw[xE h,bG,if_neg h,aJ au au];exact⟨rfl,rfl⟩
def MO(s:aC):M.kV s=some (Xg s)/\M.mF s=some (Xg s):=by have hl:ark.length=21:=rfl;simp only[M.kV,M.LQ,M.mF,M.MC,M.slices_Contains,M.EL,arn,aDc,ah,am0 s ark (by rw[hl];omega),akp s ark (by rw[hl];omega),Xg];constructor<;>first|rfl|trivial
def isL(b:Int):Bool:=(decide (b>=97) && decide (b<=122))||((decide (b>=65) && decide (b<=90))||(b==95))
def isW(b:Int):Bool:=isL b||isD b
def O9(b:Int):M.mM b=some (isL b)/\M.mO b=some (isL b):=by simp only[M.mM,M.NW,M.dQ,M.Ep,M.mO,M.Oo,isL];cases decide (b>=97)<;>cases decide (b<=122)<;>cases decide (b>=65)<;>cases decide (b<=90)<;>cases(b==95)<;>exact⟨rfl,rfl⟩
def FU(b:Int):M.jG b=some (isW b)/\M.oQ b=some (isW b):=by simp only[M.jG,M.JL,M.oQ,M.JU,O9,akn,ako,ah,isW];cases isL b<;>cases isD b<;>exact⟨rfl,rfl⟩
def azH(s:aC):Bool:=s.all λc=>isW (c.toNat:Int)
def a0L:aC->Bool
 |[]=>false
 |c::_=>isL (c.toNat:Int)
def Ju(s:aC):Bool:=azH s &&((decide ((s.length:Int)>=1) && decide ((s.length:Int)<=12)) && a0L s)
def akr(s:aC){b:Int->Option (Int⊕(Unit⊕Int))}
  (hb:∀(i:Nat) c,s[i]? =some c->b (i:Int)=some (bif isW (c.toNat:Int) then .inl ((i:Int)+1) else .inr (.inl ()))) (he:b (s.length:Int)=some (.inr (.inr (s.length:Int)))):
  fH b 0=some (bif azH s then .inr (s.length:Int) else .inl ()):=by
 have key:∀(t:aC) (i:Nat),s.drop i=t->i<=s.length->fH b (i:Int)=some (bif azH t then .inr (s.length:Int) else .inl ()):=by
  intro t;induction t with
  |nil=>
   intro i hd hi;have:i=s.length:=by have:=congrArg List.length hd;simp at this;omega
   subst this;exact aV he
  |cons x t ih=>
   intro i hd hi;have hx:s[i]? =some x:=by
    have:(s.drop i)[0]? =some x:=by rw[hd];rfl
    simpa using this
   have hlt:i<s.length:=(Po.1 hx).1;have hd':s.drop (i+1)=t:=by rw[<-List.drop_drop,hd];rfl
   have hs:=hb i x hx;rw[azH,List.all_cons];cases hw:isW (x.toNat:Int) with
   |true=>rw[hw,aH] at hs;rw[bQ hs,show(i:Int)+1=((i+1:Nat):Int) by omega,ih (i+1) hd' hlt,Bool.true_and];rfl
   |false=>rw[hw,bG] at hs;rw[aV hs];rfl
 exact key s 0 rfl (Nat.zero_le _)
def Y4(s:aC)(h:s.length<=1048576):M.qE s=some (Ju s)/\M.qG s=some (Ju s):=by
 have hw:∀c:UInt8,i64.wrap ((c.toNat:Nat):Int)=(c.toNat:Int):=λc=>by have:=arj c;exact aJ au au
 have h1:=akr s (b:=M.F6 s)
  (λi c hc=>by have hi:=(Po.1 hc).1;simp only[M.F6,M.zW,bZ,hc,ah,hw,FU];rw[zdt au,aH,aJ au au];cases isW (c.toNat:Int)<;>rfl)
  (by simp only[M.F6,M.zW];rw[xE au,bG])
 have h2:=akr s (b:=M.Gi s (s.length:Int))
  (λi c hc=>by have hi:=(Po.1 hc).1;simp only[M.Gi,M.Ad,bZ,hc,ah,hw,FU];rw[zdt au,aH,aJ au au];cases isW (c.toNat:Int)<;>rfl)
  (by simp only[M.Gi,M.Ad];rw[xE au,bG])
 simp only[M.qE,M.LK,M.qG,M.Me,M.JM,M.JV,M.dQ,M.Ep,M.eX,M.FT];rw[h1,h2,ah,ah,Ju];cases azH s with
 |false=>exact⟨rfl,rfl⟩
 |true=>
  simp only[aH,jX,letE,Bool.true_and];cases s with
  |nil=>exact⟨rfl,rfl⟩
  |cons c l=>have hi:idx (c::l) 0=some c:=rfl;simp only[hi,ah,hw,O9];cases decide (((c::l).length:Int)>=1)<;>cases decide (((c::l).length:Int)<=12)<;>exact⟨rfl,rfl⟩
def yD(s:aC):Bool:=Ju s &&((aio s==0) && !(Xg s))
def Yq(s:aC)(h:s.length<=1048576):M.kG s=some (yD s)/\M.lD s=some (yD s):=by have h1:=Y4 s h;simp only[M.kG,M.S9,M.lD,M.TN,h1.1,h1.2,Y3,MO,ah,yD];cases Ju s<;>cases aio s==0<;>cases Xg s<;>exact⟨rfl,rfl⟩
end Go.Proofs.YtgealgmioiepeaaGreatDoor
namespace Go.Proofs.YtgealgmioiepeaaGreatDoor
open Go Go.Vm
open Int (reduceLE reduceLT reduceSub reduceAdd)
def aFo(c:UInt8)(n:Nat)(h:n<256):(((c.toNat:Nat):Int)==(n:Int))=(c==UInt8.ofNat n):=by
 rw[Bool.eq_iff_iff,beq_iff_eq,beq_iff_eq];constructor
 ·intro e;apply UInt8.toNat_inj.1;rw[UInt8.toNat_ofNat',Nat.mod_eq_of_lt h];omega
 ·rintro rfl;rw[UInt8.toNat_ofNat',Nat.mod_eq_of_lt h]
def hasB(c:UInt8)(s:aC):Bool:=s.any (· ==c)
def aw5(s:aC)(c:UInt8):decide (0<=Lib.indexByte s c)=hasB c s:=by
 have hge:=Lib.indexByte_ge s c;rw[Bool.eq_iff_iff,decide_eq_true_eq,hasB,List.any_eq_true];constructor
 ·intro h;obtain⟨i,hi⟩:∃i:Nat,Lib.indexByte s c=i:=⟨(Lib.indexByte s c).toNat,au⟩
  exact⟨c,Ro (Lib.indexByte_some hi).1,by simp⟩
 ·rintro⟨x,hx,hc⟩;have:=beq_iff_eq.1 hc;subst this;rcases Int.lt_or_le (Lib.indexByte s x) 0 with h|h
  ·obtain⟨i,hi⟩:=List.mem_iff_getElem?.1 hx;exact absurd hi (Lib.indexByte_none au i)
  ·exact h
def aro(s:aC)(h:s.length<=1000000000):M.yG s=some (!(hasB 10 s)):=by
 have key:∀(t:aC) (i:Nat),s.drop i=t->i<=s.length->fH (M.Ew s) (i:Int)=some (bif hasB 10 t then .inl () else .inr (s.length:Int)):=by
  intro t;induction t with
  |nil=>
   intro i hd hi;have:i=s.length:=by have:=congrArg List.length hd;simp at this;omega
   subst this;refine aV ?_;simp only[M.Ew,M.Eu];rw[xE au,bG];rfl
  |cons x t ih=>
   intro i hd hi;have hx:s[i]? =some x:=by
    have:(s.drop i)[0]? =some x:=by rw[hd];rfl
    simpa using this
   have hlt:i<s.length:=(Po.1 hx).1;have hd':s.drop (i+1)=t:=by rw[<-List.drop_drop,hd];rfl
   have hs:M.Ew s (i:Int)=some (bif x==10 then .inr (.inl ()) else .inl ((i:Int)+1)):=by simp only[M.Ew,M.Eu,bZ,hx,ah];rw[zdt au,aH,show(10:Int)=((10:Nat):Int) from rfl,aFo _ _ au,aJ au au,show(x==UInt8.ofNat 10)=(x==10) from rfl];cases x==10<;>rfl
   rw[hasB,List.any_cons];cases hc:x==10 with
   |true=>rw[hc,aH] at hs;rw[aV hs];rfl
   |false=>rw[hc,bG] at hs;rw[bQ hs,show(i:Int)+1=((i+1:Nat):Int) by omega,ih (i+1) hd' hlt,Bool.false_or];rfl
 have:=key s 0 rfl (Nat.zero_le _);rw[Wy] at this;simp only[M.yG,M.P6,M.NY];rw[this,ah];cases hasB 10 s<;>rfl
def aDd:∀i,i<17->cStr H8 i=Y2[i]? :=by decide+kernel
def avj:∀i,i<39->cStr VO i=UL[i]? :=by decide+kernel
def spell(k:Int):aC:=if k=1 then[10] else if 10<=k/\k<=26 then Y2[(k - 10).toNat]?.getD [] else if 30<=k/\k<=68 then UL[(k - 30).toNat]?.getD [] else[]
def Si(k:Int)(hk:I64 k):M.jo k=some (spell k)/\M.Ef k=some (spell k):=by
 have l1:Y2.length=17:=rfl;have l2:UL.length=39:=rfl;simp only[M.jo,M.P7,M.Ef,M.Qx,M.um,M.EN,M.zN,M.JY,M.eX,M.FT,M.dQ,M.Ep,arl,akq,ah,spell]
 by_cases h1:k=1
 ·subst h1;exact⟨rfl,rfl⟩
 ·rw[show(k==1)=false by simpa using h1,bG,bG,if_neg h1]
  by_cases h2:10<=k/\k<=26
  ·obtain⟨i,hi⟩:∃i:Nat,k=10+i:=⟨(k - 10).toNat,au⟩
   have hw:i64.wrap (k - 10)=(i:Int):=by rw[aJ au au];omega
   obtain⟨x,hx⟩:∃x,Y2[i]? =some x:=⟨Y2[i]'au,by simp⟩
   rw[if_pos h2,zdt (show k>=10 by omega),aH,zdt (show k<=26 by omega),hw,zdt (show(0:Int)<=(i:Int) by omega),zdt (show(i:Int)<17 by omega)];simp only[ah,aH,bZ,ztn,Yp,hx,MS,cS0,Bool.and_self,Nat.zero_add,Nat.mul_one,aDd i au];rw[show(k - 10).toNat=i by omega,hx];exact⟨rfl,rfl⟩
  ·have hf:(bif decide (k>=10) then some (decide (k<=26)) else some false)=some false:=by
    by_cases h3:k>=10
    ·rw[zdt h3,aH,xE au]
    ·rw[xE h3,bG]
   rw[if_neg h2,hf];simp only[ah,bG]
   by_cases h4:30<=k/\k<=68
   ·obtain⟨i,hi⟩:∃i:Nat,k=30+i:=⟨(k - 30).toNat,au⟩
    have hw:i64.wrap (k - 30)=(i:Int):=by rw[aJ au au];omega
    obtain⟨x,hx⟩:∃x,UL[i]? =some x:=⟨UL[i]'au,by simp⟩
    rw[if_pos h4,zdt (show k>=30 by omega),aH,zdt (show k<=68 by omega),hw,zdt (show(0:Int)<=(i:Int) by omega),zdt (show(i:Int)<39 by omega)];simp only[ah,aH,bZ,ztn,Yp,hx,MS,cS0,Bool.and_self,Nat.zero_add,Nat.mul_one,avj i au];rw[show(k - 30).toNat=i by omega,hx];exact⟨rfl,rfl⟩
   ·have hf:(bif decide (k>=30) then some (decide (k<=68)) else some false)=some false:=by
     by_cases h3:k>=30
     ·rw[zdt h3,aH,xE au]
     ·rw[xE h3,bG]
    rw[if_neg h4,hf];exact⟨rfl,rfl⟩
def tX(k:Int)(s:aC):Bool:=bif s==[] then false else
 bif k==2 then(qx s 0==35) && !(hasB 10 s) else bif k==3 then Wi s 0==(s.length:Int) else bif k==4 then quoted s 0 34==(s.length:Int) else bif k==5 then XC s 0==(s.length:Int) else
 bif k==6 then yD s else bif k==7 then yD s else bif k==8 then Xg s else s==spell k
def aeR(k:Int)(s:aC)(a:Int)(h:s.length<=1048576)(hk:I64 k):M.nJ k s a=some (tX k s)/\M.ru k s a=some (tX k s):=by
 have hn:=Yq s h;have hb:=MO s;have hst:=agR h 0 au au;have her:=agS h 0 au au;have hsp:=Si k hk;have hct:M.strings_Contains s [10]=some (hasB 10 s):=by rw[M.strings_Contains,aw5]
 simp only[M.nJ,M.P8,M.ru,M.Qy,hn.1,hn.2,hb.1,hb.2,hst.1,hst.2,her.1,her.2,hsp.1,hsp.2,hct,aro s au,aby h 0 au,abx h 0 au,ah,tX];cases s with
 |nil=>refine⟨?_,rfl⟩;have q1:yD []=false:=rfl;have q2:Xg []=false:=rfl;have q3:(quoted [] 0 34==(([]:aC).length:Int))=false:=rfl;have q4:(XC [] 0==(([]:aC).length:Int))=false:=rfl;rw[q1,q2,q3,q4];cases k==2<;>cases k==3<;>cases k==4<;>cases k==5<;>cases k==6<;>cases k==7<;>cases k==8<;>rfl
 |cons c l=>
  have hi:idx (c::l) 0=some c:=rfl;have hb0:qx (c::l) 0=(c.toNat:Int):=rfl;have hne:((c::l:aC)==[])=false:=rfl;have hgt:decide (((c::l).length:Int)>0)=true:=by simp
  have hsw:(spell k==c::l)=(c::l==spell k):=by rw[Bool.eq_iff_iff,beq_iff_eq,beq_iff_eq];exact⟨Eq.symm,Eq.symm⟩
  rw[hi,hb0,hne,hgt,hsw];simp only[ah,aH,bG,Bool.not_false];cases k==2<;>cases k==3<;>cases k==4<;>cases k==5<;>cases k==6<;>cases k==7<;>cases k==8<;>cases(c.toNat:Int)==35<;>exact⟨rfl,rfl⟩
end Go.Proofs.YtgealgmioiepeaaGreatDoor
namespace Go.Proofs.YtgealgmioiepeaaGreatDoor
open Go Go.Vm
open Int (reduceLE reduceLT reduceSub reduceAdd)
def dL(x a b:Int):M.dQ x a b=some (decide (x>=a) && decide (x<=b)):=by simp only[M.dQ,M.Ep];cases decide (x>=a)<;>rfl
def eF(x a b:Int):M.eX x a b=some (decide (x>=a) && decide (x<=b)):=dL x a b
def ZA(op:Int):Bool:=op==60||op==57||op==58||op==59||op==55||op==56||op==99||op==63||op==48||op==47||op==50||op==62||op==49||op==67||op==46||op==45||op==44
def Di(op:Int):M.D6 op=some (ZA op)/\∃lv,M.nM op=some lv/\(lv !=0)=ZA op:=by
 by_cases h44:op=44
 ·subst h44;exact⟨rfl,_,rfl,rfl⟩
 have e44:(op==44)=false:=by simpa using h44
 by_cases h45:op=45
 ·subst h45;exact⟨rfl,_,rfl,rfl⟩
 have e45:(op==45)=false:=by simpa using h45
 by_cases h67:op=67
 ·subst h67;exact⟨rfl,_,rfl,rfl⟩
 have e67:(op==67)=false:=by simpa using h67
 by_cases h46:op=46
 ·subst h46;exact⟨rfl,_,rfl,rfl⟩
 have e46:(op==46)=false:=by simpa using h46
 by_cases h63:op=63
 ·subst h63;exact⟨rfl,_,rfl,rfl⟩
 have e63:(op==63)=false:=by simpa using h63
 by_cases h48:op=48
 ·subst h48;exact⟨rfl,_,rfl,rfl⟩
 have e48:(op==48)=false:=by simpa using h48
 by_cases h47:op=47
 ·subst h47;exact⟨rfl,_,rfl,rfl⟩
 have e47:(op==47)=false:=by simpa using h47
 by_cases h50:op=50
 ·subst h50;exact⟨rfl,_,rfl,rfl⟩
 have e50:(op==50)=false:=by simpa using h50
 by_cases h62:op=62
 ·subst h62;exact⟨rfl,_,rfl,rfl⟩
 have e62:(op==62)=false:=by simpa using h62
 by_cases h49:op=49
 ·subst h49;exact⟨rfl,_,rfl,rfl⟩
 have e49:(op==49)=false:=by simpa using h49
 by_cases h99:op=99
 ·subst h99;exact⟨rfl,_,rfl,rfl⟩
 have e99:(op==99)=false:=by simpa using h99
 by_cases h55:op=55
 ·subst h55;exact⟨rfl,_,rfl,rfl⟩
 have e55:(op==55)=false:=by simpa using h55
 by_cases h56:op=56
 ·subst h56;exact⟨rfl,_,rfl,rfl⟩
 have e56:(op==56)=false:=by simpa using h56
 by_cases h57:op=57
 ·subst h57;exact⟨rfl,_,rfl,rfl⟩
 have e57:(op==57)=false:=by simpa using h57
 by_cases h58:op=58
 ·subst h58;exact⟨rfl,_,rfl,rfl⟩
 have e58:(op==58)=false:=by simpa using h58
 by_cases h59:op=59
 ·subst h59;exact⟨rfl,_,rfl,rfl⟩
 have e59:(op==59)=false:=by simpa using h59
 by_cases h60:op=60
 ·subst h60;exact⟨rfl,_,rfl,rfl⟩
 have e60:(op==60)=false:=by simpa using h60
 simp only[M.D6,M.PY,M.nM,M.KP,ZA,e44,e45,e67,e46,e63,e48,e47,e50,e62,e49,e99,e55,e56,e57,e58,e59,e60,bG,Bool.or_self];exact⟨trivial,0,rfl,rfl⟩
def Xh(op:Int):Bool:=op==54||(decide (op>=38) && decide (op<=43))
def pJ(op:Int):M.xw op=some (Xh op)/\M.vN op=some (Xh op):=by simp only[M.xw,M.JK,M.vN,M.Ox,dL,eF,ah,Xh];cases op==54<;>exact⟨rfl,rfl⟩
def abA(s:aC)(l:List (aC))(hl:l.length<=1048576):M.slices_Contains (encS l) s=some (decide (Uw s l 0>=0)):=by simp only[M.slices_Contains,M.EL,akp s l hl,ah]
def Jv:([[D.str []],[D.str [62]],[D.str [62,62]],[D.str [124]]]:ak)=encS [[],[62],[62,62],[124]]:=rfl
def aeS(s:aC):decide (Uw s [[],[62],[62,62],[124]] 0>=0)=(s==[]||(s==[62]||(s==[62,62]||s==[124]))):=by
 have sw:∀a b:aC,(a==b)=(b==a):=λa b=>by rw[Bool.eq_iff_iff,beq_iff_eq,beq_iff_eq];exact⟨Eq.symm,Eq.symm⟩
 simp only[Uw,sw _ s];cases s==[]<;>cases s==[62]<;>cases s==[62,62]<;>cases s==[124]<;>rfl
def FOk(k op:Int)(t o:aC)(kids:ak):Prop:=∃b,M.aG k op t o kids=some b/\M.jm k op t o kids=some b
def aDe(k:Int)(op:Int)(t o:aC)(kids:ak)(ht:t.length<=1048576)(ho:o.length<=1048576)(hk:kids.length<=400)(hkk:k=1\/k=2\/k=3\/k=4\/k=5\/k=6\/k=7\/k=8\/k=9\/k=10\/k=11\/k=12\/k=13\/k=14\/k=15\/k=16\/k=20\/k=22\/k=23\/k=24\/k=25\/k=26\/k=27\/k=28\/k=29\/k=30\/k=31\/k=32\/k=33\/k=34\/k=40\/k=41\/k=44\/k=45):FOk k op t o kids:=by
 have hn:=Yq t ht;have hn2:=Yq o ho;have hb:=MO t;have ha:=pJ op;obtain⟨hi,lv,hlv,hi2⟩:=Di op;have tk:=λk hk=>aeR k t 0 ht hk
 have tk2:=tk 2 ⟨au,au⟩;have tk3:=tk 3 ⟨au,au⟩;have tk4:=tk 4 ⟨au,au⟩;have tk5:=tk 5 ⟨au,au⟩;have hc2:jq IntKind.i64 [D.int IntKind.i64 3,D.int IntKind.i64 4,D.int IntKind.i64 5] (i64.wrap 0).toNat=some 3:=rfl;have d12:decide ((0:Int)<=i64.wrap 0)=true:=rfl;have d22:decide (i64.wrap 0<3)=true:=rfl;have hc3:jq IntKind.i64 [D.int IntKind.i64 3,D.int IntKind.i64 4,D.int IntKind.i64 5] (i64.wrap 1).toNat=some 4:=rfl;have d13:decide ((0:Int)<=i64.wrap 1)=true:=rfl;have d23:decide (i64.wrap 1<3)=true:=rfl;have hc4:jq IntKind.i64 [D.int IntKind.i64 3,D.int IntKind.i64 4,D.int IntKind.i64 5] (i64.wrap 2).toNat=some 5:=rfl;have d14:decide ((0:Int)<=i64.wrap 2)=true:=rfl;have d24:decide (i64.wrap 2<3)=true:=rfl;have z1:decide ((kids.length:Int)<=400)=true:=zdt au;have z2:decide ((0:Int)<=(kids.length:Int))=true:=zdt au;have z3:decide ((kids.length:Int)<=(kids.length:Int))=true:=zdt au;rcases hkk with rfl|rfl|rfl|rfl|rfl|rfl|rfl|rfl|rfl|rfl|rfl|rfl|rfl|rfl|rfl|rfl|rfl|rfl|rfl|rfl|rfl|rfl|rfl|rfl|rfl|rfl|rfl|rfl|rfl|rfl|rfl|rfl|rfl|rfl<;>simp only[FOk,M.aG,M.aK,M.aZ,M.aS,M.bV,M.bD,M.bg,M.aU,M.jm,M.jR,M.fO,M.lN,M.jV,M.lQ,M.kH,M.kR,M.jE,M.kJ,M.kS,M.kK,M.kT,M.iw,M.mV,dL,eF,hn.1,hn.2,hn2.1,hn2.2,hb.1,hb.2,ha.1,ha.2,hi,hlv,hi2,tk2.1,tk2.2,tk3.1,tk3.2,tk4.1,tk4.2,tk5.1,tk5.2,hc2,d12,d22,hc3,d13,d23,hc4,d14,d24,z1,z2,z3,ge_iff_le,Int.reduceBEq,reduceLE,reduceSub,decide_true,decide_false,aH,bG,Bool.and_true,Bool.and_false,Bool.true_and,Bool.false_and,ah]
 ·cases(op==0)<;>cases(yD t)<;>cases(o==[])<;>exact⟨_,rfl,rfl⟩
 ·cases(op==0)<;>cases(tX 3 t)<;>cases(o==[])<;>exact⟨_,rfl,rfl⟩
 ·cases(op==0)<;>cases(tX 4 t)<;>cases(o==[])<;>exact⟨_,rfl,rfl⟩
 ·cases(op==0)<;>cases(tX 5 t)<;>cases(o==[])<;>exact⟨_,rfl,rfl⟩
 ·cases(op==0)<;>cases(yD t)<;>cases(o==[])<;>exact⟨_,rfl,rfl⟩
 ·cases(op==0)<;>cases(t==[])<;>cases(o==[])<;>exact⟨_,rfl,rfl⟩
 ·cases(op==0)<;>cases(yD t)<;>cases(o==[])<;>exact⟨_,rfl,rfl⟩
 ·cases(op==0)<;>cases(Xg t)<;>cases(o==[])<;>exact⟨_,rfl,rfl⟩
 ·cases(op==51)<;>cases(op==52)<;>cases(t==[])<;>cases(o==[])<;>exact⟨_,rfl,rfl⟩
 ·cases(op==51)<;>cases(op==52)<;>cases(t==[])<;>cases(o==[])<;>exact⟨_,rfl,rfl⟩
 ·cases(op==55)<;>cases(op==56)<;>cases(op==61)<;>cases(t==[])<;>cases(o==[])<;>exact⟨_,rfl,rfl⟩
 ·cases(ZA op)<;>cases(t==[])<;>cases(o==[])<;>exact⟨_,rfl,rfl⟩
 ·cases(op==0)<;>cases(yD t)<;>cases(o==[])<;>exact⟨_,rfl,rfl⟩
 ·cases(op==0)<;>cases(t==[])<;>cases(o==[])<;>exact⟨_,rfl,rfl⟩
 ·cases(Xh op)<;>cases(t==[])<;>cases(o==[])<;>exact⟨_,rfl,rfl⟩
 ·cases(op==0)<;>cases(t==[])<;>cases(o==[])<;>exact⟨_,rfl,rfl⟩
 ·cases(op==0)<;>cases(t==[])<;>cases(o==[])<;>exact⟨_,rfl,rfl⟩
 ·cases(op==0)<;>cases(t==[])<;>cases(o==[])<;>exact⟨_,rfl,rfl⟩
 ·cases(op==0)<;>cases(t==[])<;>cases(o==[])<;>exact⟨_,rfl,rfl⟩
 ·cases(op==0)<;>cases(t==[])<;>cases(o==[])<;>exact⟨_,rfl,rfl⟩
 ·cases(op==0)<;>cases(t==[])<;>cases(o==[])<;>exact⟨_,rfl,rfl⟩
 ·cases(op==0)<;>cases(t==[])<;>cases(o==[])<;>exact⟨_,rfl,rfl⟩
 ·cases(op==0)<;>cases(yD t)<;>cases(o==[])<;>exact⟨_,rfl,rfl⟩
 ·cases(op==0)<;>cases(t==[])<;>cases(o==[])<;>exact⟨_,rfl,rfl⟩
 ·cases(op==0)<;>cases(t==[])<;>cases(o==[])<;>exact⟨_,rfl,rfl⟩
 ·cases(op==0)<;>cases(t==[])<;>cases(o==[])<;>exact⟨_,rfl,rfl⟩
 ·cases(op==0)<;>cases(t==[])<;>cases(o==[])<;>exact⟨_,rfl,rfl⟩
 ·cases(op==0)<;>cases(yD t)<;>cases(yD o)<;>exact⟨_,rfl,rfl⟩
 ·cases(op==0)<;>cases(t==[])<;>cases(o==[])<;>exact⟨_,rfl,rfl⟩
 ·cases(op==0)<;>cases(tX 2 t)<;>cases(o==[])<;>exact⟨_,rfl,rfl⟩
 ·cases(op==0)<;>cases(t==[])<;>cases(o==[])<;>exact⟨_,rfl,rfl⟩
 ·cases(op==0)<;>cases(t==[])<;>cases(o==[])<;>exact⟨_,rfl,rfl⟩
 ·cases(op==0)<;>cases(yD t)<;>cases(o==[])<;>exact⟨_,rfl,rfl⟩
 ·cases(op==0)<;>cases(t==[])<;>cases(o==[])<;>exact⟨_,rfl,rfl⟩
def aSc(op:Int)(t o:aC)(kids:ak)(ht:t.length<=1048576)(ho:o.length<=1048576)(hk:kids.length<=400):FOk 21 op t o kids:=by
 have hp:=abA o [[],[62],[62,62],[124]] (by decide);rw[aeS] at hp
 by_cases h0:op=0
 ·subst h0;simp only[FOk,M.aG,M.aK,M.aZ,M.aS,M.bV,M.bD,M.bg,M.aU,M.jm,M.jR,M.fO,M.lN,M.jV,M.lQ,M.kH,M.kR,M.jE,M.kJ,M.kS,M.kK,M.kT,M.iw,M.mV,dL,eF,Jv,hp,show i64.wrap (0+1)=1 from rfl,show i64.wrap (1+1)=2 from rfl,show i64.wrap (1+i64.wrap (Int.tdiv 1 3))=1 from rfl,show i64.wrap (1+i64.wrap (Int.tdiv 2 3))=1 from rfl,show i64.wrap (1+i64.wrap (Int.tdiv 3 3))=2 from rfl,show i64.wrap (2+i64.wrap (Int.tdiv 1 3))=2 from rfl,show i64.wrap (2+i64.wrap (Int.tdiv 3 3))=3 from rfl,ge_iff_le,Int.reduceBEq,reduceLE,reduceSub,decide_true,decide_false,aH,bG,Bool.and_true,Bool.and_false,Bool.true_and,Bool.false_and,ah];generalize (t==[])=a0;generalize (o==[])=a1;generalize (o==[62])=a2;generalize (o==[62,62])=a3;generalize (o==[124])=a4;cases a0<;>cases a1<;>cases a2<;>cases a3<;>cases a4<;>exact⟨_,rfl,rfl⟩
 by_cases h1:op=1
 ·subst h1;simp only[FOk,M.aG,M.aK,M.aZ,M.aS,M.bV,M.bD,M.bg,M.aU,M.jm,M.jR,M.fO,M.lN,M.jV,M.lQ,M.kH,M.kR,M.jE,M.kJ,M.kS,M.kK,M.kT,M.iw,M.mV,dL,eF,Jv,hp,show i64.wrap (0+1)=1 from rfl,show i64.wrap (1+1)=2 from rfl,show i64.wrap (1+i64.wrap (Int.tdiv 1 3))=1 from rfl,show i64.wrap (1+i64.wrap (Int.tdiv 2 3))=1 from rfl,show i64.wrap (1+i64.wrap (Int.tdiv 3 3))=2 from rfl,show i64.wrap (2+i64.wrap (Int.tdiv 1 3))=2 from rfl,show i64.wrap (2+i64.wrap (Int.tdiv 3 3))=3 from rfl,ge_iff_le,Int.reduceBEq,reduceLE,reduceSub,decide_true,decide_false,aH,bG,Bool.and_true,Bool.and_false,Bool.true_and,Bool.false_and,ah];generalize (t==[])=a0;generalize (o==[])=a1;generalize (o==[62])=a2;generalize (o==[62,62])=a3;generalize (o==[124])=a4;cases a0<;>cases a1<;>cases a2<;>cases a3<;>cases a4<;>exact⟨_,rfl,rfl⟩
 have e0:(op==0)=false:=by simpa using h0
 have e1:(op==1)=false:=by simpa using h1
 have hf:(decide ((0:Int)<=op) && decide (op<=1))=false:=by rw[Bool.and_eq_false_iff,decide_eq_false_iff_not,decide_eq_false_iff_not];omega
 simp only[FOk,M.aG,M.aK,M.aZ,M.aS,M.bV,M.bD,M.bg,M.aU,M.jm,M.jR,M.fO,M.lN,M.jV,M.lQ,M.kH,M.kR,M.jE,M.kJ,M.kS,M.kK,M.kT,M.iw,M.mV,dL,eF,Jv,hp,e0,e1,hf,ge_iff_le,Int.reduceBEq,reduceLE,reduceSub,decide_true,decide_false,aH,bG,Bool.and_true,Bool.and_false,Bool.true_and,Bool.false_and,ah];generalize (t==[])=a0;generalize (o==[])=a1;generalize (o==[62])=a2;generalize (o==[62,62])=a3;generalize (o==[124])=a4;cases a0<;>cases a1<;>cases a2<;>cases a3<;>cases a4<;>exact⟨_,rfl,rfl⟩
def aSd(op:Int)(t o:aC)(kids:ak)(ht:t.length<=1048576)(ho:o.length<=1048576)(hk:kids.length<=400):FOk 42 op t o kids:=by
 have hp:=abA o [[],[62],[62,62],[124]] (by decide);rw[aeS] at hp
 by_cases h1:op=1
 ·subst h1;simp only[FOk,M.aG,M.aK,M.aZ,M.aS,M.bV,M.bD,M.bg,M.aU,M.jm,M.jR,M.fO,M.lN,M.jV,M.lQ,M.kH,M.kR,M.jE,M.kJ,M.kS,M.kK,M.kT,M.iw,M.mV,dL,eF,Jv,hp,show i64.wrap (0+1)=1 from rfl,show i64.wrap (1+1)=2 from rfl,show i64.wrap (1+i64.wrap (Int.tdiv 1 3))=1 from rfl,show i64.wrap (1+i64.wrap (Int.tdiv 2 3))=1 from rfl,show i64.wrap (1+i64.wrap (Int.tdiv 3 3))=2 from rfl,show i64.wrap (2+i64.wrap (Int.tdiv 1 3))=2 from rfl,show i64.wrap (2+i64.wrap (Int.tdiv 3 3))=3 from rfl,ge_iff_le,Int.reduceBEq,reduceLE,reduceSub,decide_true,decide_false,aH,bG,Bool.and_true,Bool.and_false,Bool.true_and,Bool.false_and,ah];generalize (t==[])=a0;generalize (o==[])=a1;cases a0<;>cases a1<;>exact⟨_,rfl,rfl⟩
 by_cases h2:op=2
 ·subst h2;simp only[FOk,M.aG,M.aK,M.aZ,M.aS,M.bV,M.bD,M.bg,M.aU,M.jm,M.jR,M.fO,M.lN,M.jV,M.lQ,M.kH,M.kR,M.jE,M.kJ,M.kS,M.kK,M.kT,M.iw,M.mV,dL,eF,Jv,hp,show i64.wrap (0+1)=1 from rfl,show i64.wrap (1+1)=2 from rfl,show i64.wrap (1+i64.wrap (Int.tdiv 1 3))=1 from rfl,show i64.wrap (1+i64.wrap (Int.tdiv 2 3))=1 from rfl,show i64.wrap (1+i64.wrap (Int.tdiv 3 3))=2 from rfl,show i64.wrap (2+i64.wrap (Int.tdiv 1 3))=2 from rfl,show i64.wrap (2+i64.wrap (Int.tdiv 3 3))=3 from rfl,ge_iff_le,Int.reduceBEq,reduceLE,reduceSub,decide_true,decide_false,aH,bG,Bool.and_true,Bool.and_false,Bool.true_and,Bool.false_and,ah];generalize (t==[])=a0;generalize (o==[])=a1;cases a0<;>cases a1<;>exact⟨_,rfl,rfl⟩
 by_cases h3:op=3
 ·subst h3;simp only[FOk,M.aG,M.aK,M.aZ,M.aS,M.bV,M.bD,M.bg,M.aU,M.jm,M.jR,M.fO,M.lN,M.jV,M.lQ,M.kH,M.kR,M.jE,M.kJ,M.kS,M.kK,M.kT,M.iw,M.mV,dL,eF,Jv,hp,show i64.wrap (0+1)=1 from rfl,show i64.wrap (1+1)=2 from rfl,show i64.wrap (1+i64.wrap (Int.tdiv 1 3))=1 from rfl,show i64.wrap (1+i64.wrap (Int.tdiv 2 3))=1 from rfl,show i64.wrap (1+i64.wrap (Int.tdiv 3 3))=2 from rfl,show i64.wrap (2+i64.wrap (Int.tdiv 1 3))=2 from rfl,show i64.wrap (2+i64.wrap (Int.tdiv 3 3))=3 from rfl,ge_iff_le,Int.reduceBEq,reduceLE,reduceSub,decide_true,decide_false,aH,bG,Bool.and_true,Bool.and_false,Bool.true_and,Bool.false_and,ah];generalize (t==[])=a0;generalize (o==[])=a1;cases a0<;>cases a1<;>exact⟨_,rfl,rfl⟩
 have e1:(op==1)=false:=by simpa using h1
 have e2:(op==2)=false:=by simpa using h2
 have e3:(op==3)=false:=by simpa using h3
 have hf:(decide ((1:Int)<=op) && decide (op<=3))=false:=by rw[Bool.and_eq_false_iff,decide_eq_false_iff_not,decide_eq_false_iff_not];omega
 simp only[FOk,M.aG,M.aK,M.aZ,M.aS,M.bV,M.bD,M.bg,M.aU,M.jm,M.jR,M.fO,M.lN,M.jV,M.lQ,M.kH,M.kR,M.jE,M.kJ,M.kS,M.kK,M.kT,M.iw,M.mV,dL,eF,Jv,hp,e1,e2,e3,hf,ge_iff_le,Int.reduceBEq,reduceLE,reduceSub,decide_true,decide_false,aH,bG,Bool.and_true,Bool.and_false,Bool.true_and,Bool.false_and,ah];generalize (t==[])=a0;generalize (o==[])=a1;cases a0<;>cases a1<;>exact⟨_,rfl,rfl⟩
def aSe(op:Int)(t o:aC)(kids:ak)(ht:t.length<=1048576)(ho:o.length<=1048576)(hk:kids.length<=400):FOk 43 op t o kids:=by
 have hp:=abA o [[],[62],[62,62],[124]] (by decide);rw[aeS] at hp
 by_cases h1:op=1
 ·subst h1;simp only[FOk,M.aG,M.aK,M.aZ,M.aS,M.bV,M.bD,M.bg,M.aU,M.jm,M.jR,M.fO,M.lN,M.jV,M.lQ,M.kH,M.kR,M.jE,M.kJ,M.kS,M.kK,M.kT,M.iw,M.mV,dL,eF,Jv,hp,show i64.wrap (0+1)=1 from rfl,show i64.wrap (1+1)=2 from rfl,show i64.wrap (1+i64.wrap (Int.tdiv 1 3))=1 from rfl,show i64.wrap (1+i64.wrap (Int.tdiv 2 3))=1 from rfl,show i64.wrap (1+i64.wrap (Int.tdiv 3 3))=2 from rfl,show i64.wrap (2+i64.wrap (Int.tdiv 1 3))=2 from rfl,show i64.wrap (2+i64.wrap (Int.tdiv 3 3))=3 from rfl,ge_iff_le,Int.reduceBEq,reduceLE,reduceSub,decide_true,decide_false,aH,bG,Bool.and_true,Bool.and_false,Bool.true_and,Bool.false_and,ah];generalize (t==[])=a0;generalize (o==[])=a1;cases a0<;>cases a1<;>exact⟨_,rfl,rfl⟩
 by_cases h3:op=3
 ·subst h3;simp only[FOk,M.aG,M.aK,M.aZ,M.aS,M.bV,M.bD,M.bg,M.aU,M.jm,M.jR,M.fO,M.lN,M.jV,M.lQ,M.kH,M.kR,M.jE,M.kJ,M.kS,M.kK,M.kT,M.iw,M.mV,dL,eF,Jv,hp,show i64.wrap (0+1)=1 from rfl,show i64.wrap (1+1)=2 from rfl,show i64.wrap (1+i64.wrap (Int.tdiv 1 3))=1 from rfl,show i64.wrap (1+i64.wrap (Int.tdiv 2 3))=1 from rfl,show i64.wrap (1+i64.wrap (Int.tdiv 3 3))=2 from rfl,show i64.wrap (2+i64.wrap (Int.tdiv 1 3))=2 from rfl,show i64.wrap (2+i64.wrap (Int.tdiv 3 3))=3 from rfl,ge_iff_le,Int.reduceBEq,reduceLE,reduceSub,decide_true,decide_false,aH,bG,Bool.and_true,Bool.and_false,Bool.true_and,Bool.false_and,ah];generalize (t==[])=a0;generalize (o==[])=a1;cases a0<;>cases a1<;>exact⟨_,rfl,rfl⟩
 have e1:(op==1)=false:=by simpa using h1
 have e3:(op==3)=false:=by simpa using h3
 have hf:True:=trivial;simp only[FOk,M.aG,M.aK,M.aZ,M.aS,M.bV,M.bD,M.bg,M.aU,M.jm,M.jR,M.fO,M.lN,M.jV,M.lQ,M.kH,M.kR,M.jE,M.kJ,M.kS,M.kK,M.kT,M.iw,M.mV,dL,eF,Jv,hp,e1,e3,hf,ge_iff_le,Int.reduceBEq,reduceLE,reduceSub,decide_true,decide_false,aH,bG,Bool.and_true,Bool.and_false,Bool.true_and,Bool.false_and,ah];generalize (t==[])=a0;generalize (o==[])=a1;cases a0<;>cases a1<;>exact⟨_,rfl,rfl⟩
def arp(k:Int)(op:Int)(t o:aC)(kids:ak)(ht:t.length<=1048576)(ho:o.length<=1048576)(hk:kids.length<=400):FOk k op t o kids:=by
 by_cases hkk:k=1\/k=2\/k=3\/k=4\/k=5\/k=6\/k=7\/k=8\/k=9\/k=10\/k=11\/k=12\/k=13\/k=14\/k=15\/k=16\/k=20\/k=22\/k=23\/k=24\/k=25\/k=26\/k=27\/k=28\/k=29\/k=30\/k=31\/k=32\/k=33\/k=34\/k=40\/k=41\/k=44\/k=45
 ·exact aDe k op t o kids ht ho hk hkk
 by_cases h21:k=21
 ·subst h21;exact aSc op t o kids ht ho hk
 by_cases h42:k=42
 ·subst h42;exact aSd op t o kids ht ho hk
 by_cases h43:k=43
 ·subst h43;exact aSe op t o kids ht ho hk
 have h1:k≠1:=au;have h2:k≠2:=au;have h3:k≠3:=au;have h4:k≠4:=au;have h5:k≠5:=au;have h6:k≠6:=au;have h7:k≠7:=au;have h8:k≠8:=au;have h9:k≠9:=au;have h10:k≠10:=au;have h11:k≠11:=au;have h12:k≠12:=au;have h13:k≠13:=au;have h14:k≠14:=au;have h15:k≠15:=au;have h16:k≠16:=au;have h20:k≠20:=au;have h22:k≠22:=au;have h23:k≠23:=au;have h24:k≠24:=au;have h25:k≠25:=au;have h26:k≠26:=au;have h27:k≠27:=au;have h28:k≠28:=au;have h29:k≠29:=au;have h30:k≠30:=au;have h31:k≠31:=au;have h32:k≠32:=au;have h33:k≠33:=au;have h34:k≠34:=au;have h40:k≠40:=au;have h41:k≠41:=au;have h44:k≠44:=au;have h45:k≠45:=au;have f1:(decide (k>=1) && decide (k<=16))=false:=by rw[Bool.and_eq_false_iff,decide_eq_false_iff_not,decide_eq_false_iff_not];omega
 have f2:(decide (k>=20) && decide (k<=34))=false:=by rw[Bool.and_eq_false_iff,decide_eq_false_iff_not,decide_eq_false_iff_not];omega
 have f3:(decide (k>=40) && decide (k<=45))=false:=by rw[Bool.and_eq_false_iff,decide_eq_false_iff_not,decide_eq_false_iff_not];omega
 have f4:(decide (k>=1) && decide (k<=15))=false:=by rw[Bool.and_eq_false_iff,decide_eq_false_iff_not,decide_eq_false_iff_not];omega
 have g:(k==16)=false:=by simpa using h16
 have e1:(k==1)=false:=by simpa using h1
 have e2:(k==2)=false:=by simpa using h2
 have e3:(k==3)=false:=by simpa using h3
 have e4:(k==4)=false:=by simpa using h4
 have e5:(k==5)=false:=by simpa using h5
 have e6:(k==6)=false:=by simpa using h6
 have e7:(k==7)=false:=by simpa using h7
 have e8:(k==8)=false:=by simpa using h8
 have e9:(k==9)=false:=by simpa using h9
 have e10:(k==10)=false:=by simpa using h10
 have e11:(k==11)=false:=by simpa using h11
 have e12:(k==12)=false:=by simpa using h12
 have e13:(k==13)=false:=by simpa using h13
 have e14:(k==14)=false:=by simpa using h14
 have e15:(k==15)=false:=by simpa using h15
 have e16:(k==16)=false:=by simpa using h16
 have e20:(k==20)=false:=by simpa using h20
 have e21:(k==21)=false:=by simpa using h21
 have e22:(k==22)=false:=by simpa using h22
 have e23:(k==23)=false:=by simpa using h23
 have e24:(k==24)=false:=by simpa using h24
 have e25:(k==25)=false:=by simpa using h25
 have e26:(k==26)=false:=by simpa using h26
 have e27:(k==27)=false:=by simpa using h27
 have e28:(k==28)=false:=by simpa using h28
 have e29:(k==29)=false:=by simpa using h29
 have e30:(k==30)=false:=by simpa using h30
 have e31:(k==31)=false:=by simpa using h31
 have e32:(k==32)=false:=by simpa using h32
 have e33:(k==33)=false:=by simpa using h33
 have e34:(k==34)=false:=by simpa using h34
 have e40:(k==40)=false:=by simpa using h40
 have e41:(k==41)=false:=by simpa using h41
 have e42:(k==42)=false:=by simpa using h42
 have e43:(k==43)=false:=by simpa using h43
 have e44:(k==44)=false:=by simpa using h44
 have e45:(k==45)=false:=by simpa using h45
 simp only[FOk,M.aG,M.aK,M.aZ,M.aS,M.jm,M.jR,M.fO,M.lN,M.jV,M.lQ,dL,eF,f1,f2,f3,f4,e1,e2,e3,e4,e5,e6,e7,e8,e9,e10,e11,e12,e13,e14,e15,e16,e20,e21,e22,e23,e24,e25,e26,e27,e28,e29,e30,e31,e32,e33,e34,e40,e41,e42,e43,e44,e45,bG,ah];exact⟨false,rfl,rfl⟩
end Go.Proofs.YtgealgmioiepeaaGreatDoor
namespace Go.Proofs.YtgealgmioiepeaaGreatDoor
open Go Go.Vm
open Int (reduceLE reduceLT reduceSub reduceAdd)
structure Cons(k op:Int)(n:Nat):Prop where
 two:k=29\/k=30->n=2
 four:k=31->n=4
 rule:k=42->(op=1/\n=1)\/(op=2/\n=1)\/(op=3/\n=2)
 range:k=43->(op=1/\n=2)\/(op=3/\n=3)
def a0M(op:Int)(t o:aC)(kids:ak)(h:M.aG 29 op t o kids=some true):kids.length=2:=by simp only[M.aG,M.aK,M.aZ,M.aS,M.bV,M.bD,M.bg,M.aU,dL,eF,Int.reduceBEq,reduceLE,reduceLT,reduceSub,reduceAdd,gu,ah] at h;revert h;cases op==0<;>cases t==[]<;>cases o==[]<;>simp<;>omega
def a0N(op:Int)(t o:aC)(kids:ak)(h:M.aG 30 op t o kids=some true):kids.length=2:=by simp only[M.aG,M.aK,M.aZ,M.aS,M.bV,M.bD,M.bg,M.aU,dL,eF,Int.reduceBEq,reduceLE,reduceLT,reduceSub,reduceAdd,gu,ah] at h;revert h;cases op==0<;>cases t==[]<;>cases o==[]<;>simp<;>omega
def a0O(op:Int)(t o:aC)(kids:ak)(h:M.aG 31 op t o kids=some true):kids.length=4:=by simp only[M.aG,M.aK,M.aZ,M.aS,M.bV,M.bD,M.bg,M.aU,dL,eF,Int.reduceBEq,reduceLE,reduceLT,reduceSub,reduceAdd,gu,ah] at h;revert h;cases op==0<;>cases t==[]<;>cases o==[]<;>simp<;>omega
def a0P(op:Int)(t o:aC)(kids:ak)(h:M.aG 42 op t o kids=some true):(op=1/\kids.length=1)\/(op=2/\kids.length=1)\/(op=3/\kids.length=2):=by
 by_cases h1:op=1
 ·subst h1;simp only[M.aG,M.aK,M.aZ,M.aS,M.bV,M.bD,M.bg,M.aU,dL,eF,show i64.wrap (1+i64.wrap (Int.tdiv 1 3))=1 from rfl,show i64.wrap (1+i64.wrap (Int.tdiv 2 3))=1 from rfl,show i64.wrap (1+i64.wrap (Int.tdiv 3 3))=2 from rfl,show i64.wrap (2+i64.wrap (Int.tdiv 1 3))=2 from rfl,show i64.wrap (2+i64.wrap (Int.tdiv 3 3))=3 from rfl,Int.reduceBEq,reduceLE,reduceLT,reduceSub,reduceAdd,gu,ah] at h;revert h;cases t==[]<;>cases o==[]<;>simp<;>omega
 have e1:(op==1)=false:=by simpa using h1
 by_cases h2:op=2
 ·subst h2;simp only[M.aG,M.aK,M.aZ,M.aS,M.bV,M.bD,M.bg,M.aU,dL,eF,show i64.wrap (1+i64.wrap (Int.tdiv 1 3))=1 from rfl,show i64.wrap (1+i64.wrap (Int.tdiv 2 3))=1 from rfl,show i64.wrap (1+i64.wrap (Int.tdiv 3 3))=2 from rfl,show i64.wrap (2+i64.wrap (Int.tdiv 1 3))=2 from rfl,show i64.wrap (2+i64.wrap (Int.tdiv 3 3))=3 from rfl,Int.reduceBEq,reduceLE,reduceLT,reduceSub,reduceAdd,gu,ah] at h;revert h;cases t==[]<;>cases o==[]<;>simp<;>omega
 have e2:(op==2)=false:=by simpa using h2
 by_cases h3:op=3
 ·subst h3;simp only[M.aG,M.aK,M.aZ,M.aS,M.bV,M.bD,M.bg,M.aU,dL,eF,show i64.wrap (1+i64.wrap (Int.tdiv 1 3))=1 from rfl,show i64.wrap (1+i64.wrap (Int.tdiv 2 3))=1 from rfl,show i64.wrap (1+i64.wrap (Int.tdiv 3 3))=2 from rfl,show i64.wrap (2+i64.wrap (Int.tdiv 1 3))=2 from rfl,show i64.wrap (2+i64.wrap (Int.tdiv 3 3))=3 from rfl,Int.reduceBEq,reduceLE,reduceLT,reduceSub,reduceAdd,gu,ah] at h;revert h;cases t==[]<;>cases o==[]<;>simp<;>omega
 have e3:(op==3)=false:=by simpa using h3
 have hf:(decide ((1:Int)<=op) && decide (op<=3))=false:=by rw[Bool.and_eq_false_iff,decide_eq_false_iff_not,decide_eq_false_iff_not];omega
 simp only[M.aG,M.aK,M.aZ,M.aS,M.bV,M.bD,M.bg,M.aU,dL,eF,e1,e2,e3,hf,Int.reduceBEq,reduceLE,reduceLT,reduceSub,reduceAdd,gu,ah] at h;cases h
def a0Q(op:Int)(t o:aC)(kids:ak)(h:M.aG 43 op t o kids=some true):(op=1/\kids.length=2)\/(op=3/\kids.length=3):=by
 by_cases h1:op=1
 ·subst h1;simp only[M.aG,M.aK,M.aZ,M.aS,M.bV,M.bD,M.bg,M.aU,dL,eF,show i64.wrap (1+i64.wrap (Int.tdiv 1 3))=1 from rfl,show i64.wrap (1+i64.wrap (Int.tdiv 2 3))=1 from rfl,show i64.wrap (1+i64.wrap (Int.tdiv 3 3))=2 from rfl,show i64.wrap (2+i64.wrap (Int.tdiv 1 3))=2 from rfl,show i64.wrap (2+i64.wrap (Int.tdiv 3 3))=3 from rfl,Int.reduceBEq,reduceLE,reduceLT,reduceSub,reduceAdd,gu,ah] at h;revert h;cases t==[]<;>cases o==[]<;>simp<;>omega
 have e1:(op==1)=false:=by simpa using h1
 by_cases h3:op=3
 ·subst h3;simp only[M.aG,M.aK,M.aZ,M.aS,M.bV,M.bD,M.bg,M.aU,dL,eF,show i64.wrap (1+i64.wrap (Int.tdiv 1 3))=1 from rfl,show i64.wrap (1+i64.wrap (Int.tdiv 2 3))=1 from rfl,show i64.wrap (1+i64.wrap (Int.tdiv 3 3))=2 from rfl,show i64.wrap (2+i64.wrap (Int.tdiv 1 3))=2 from rfl,show i64.wrap (2+i64.wrap (Int.tdiv 3 3))=3 from rfl,Int.reduceBEq,reduceLE,reduceLT,reduceSub,reduceAdd,gu,ah] at h;revert h;cases t==[]<;>cases o==[]<;>simp<;>omega
 have e3:(op==3)=false:=by simpa using h3
 have hf:True:=trivial;simp only[M.aG,M.aK,M.aZ,M.aS,M.bV,M.bD,M.bg,M.aU,dL,eF,e1,e3,hf,Int.reduceBEq,reduceLE,reduceLT,reduceSub,reduceAdd,gu,ah] at h;cases h
def aol{k op:Int}{t o:aC}{kids:ak}(h:M.aG k op t o kids=some true):Cons k op kids.length:=
 ⟨λe=>(by rcases e with rfl|rfl;exact a0M op t o kids h;exact a0N op t o kids h),λe=>(by subst e;exact a0O op t o kids h),λe=>(by subst e;exact a0P op t o kids h),λe=>(by subst e;exact a0Q op t o kids h)⟩
def IX(k:Int):Bool:=decide (1<=k) && decide (k<=15)
def Pn(k:Int):Bool:=k==1||(k==5||k==6)
def acr(k:Int):Bool:=decide (20<=k) && decide (k<=34)
def isIt(k:Int):Bool:=decide (40<=k) && decide (k<=44)
def eH(k:Int):M.lC k=some (IX k)/\M.fO k=some (IX k):=by simp only[M.lC,M.Tj,M.fO,M.lN,dL,eF,ah,IX,ge_iff_le];constructor<;>first|rfl|trivial
def iF(k:Int):M.H9 k=some (acr k)/\M.jV k=some (acr k):=by simp only[M.H9,M.Tq,M.jV,M.lQ,dL,eF,ah,acr,ge_iff_le];constructor<;>first|rfl|trivial
def iG(k:Int):M.dQ k 40 44=some (isIt k)/\M.Ic k=some (isIt k):=by simp only[M.Ic,M.TV,dL,eF,ah,isIt,ge_iff_le];constructor<;>first|rfl|trivial
def eu(k:Int):M.vJ k=some (Pn k)/\M.vO k=some (Pn k):=by simp only[M.vJ,M.N8,M.vO,M.OA,Pn];cases k==1<;>cases k==5<;>exact⟨rfl,rfl⟩
def aSf(k:Int):Pn k=(IX k && Pn k):=by
 by_cases h1:k=1
 ·subst h1;rfl
 by_cases h5:k=5
 ·subst h5;rfl
 by_cases h6:k=6
 ·subst h6;rfl
 have e:Pn k=false:=by simp[Pn,h1,h5,h6]
 rw[e,Bool.and_false]
def Y5(k op:Int)(t o:aC)(kids:ak)(j d:Int):Prop:=∃b,M.aW k op t o kids j d=some b/\M.gI k op t o kids j d=some b
def MR(k:Int)(op:Int)(t o:aC)(kids:ak)(j d:Int)(h0:0<=j)(h1:j<kids.length)(hk:kids.length<=400)(hc:Cons k op kids.length)(hx:k=1\/k=2\/k=3\/k=4\/k=5\/k=6\/k=7\/k=8\/k=11\/k=12\/k=13\/k=14\/k=16\/k=20\/k=21\/k=22\/k=23\/k=24\/k=25\/k=26\/k=27\/k=34):Y5 k op t o kids j d:=by
 rcases hx with rfl|rfl|rfl|rfl|rfl|rfl|rfl|rfl|rfl|rfl|rfl|rfl|rfl|rfl|rfl|rfl|rfl|rfl|rfl|rfl|rfl|rfl
 all_goals
  simp only[Y5,M.aW,M.aX,M.aP,M.gI,M.fQ,eH,iF,iG,eu,Int.reduceBEq,reduceLE,reduceLT,reduceSub,reduceAdd,gu,ah];generalize (IX d)=a0;cases a0<;>exact⟨_,rfl,rfl⟩
def aFp(k:Int)(op:Int)(t o:aC)(kids:ak)(j d:Int)(h0:0<=j)(h1:j<kids.length)(hk:kids.length<=400)(hc:Cons k op kids.length)(hx:k=9\/k=10):Y5 k op t o kids j d:=by
 rcases hx with rfl|rfl
 all_goals
  simp only[Y5,M.aW,M.aX,M.aP,M.gI,M.fQ,eH,iF,iG,eu,Int.reduceBEq,reduceLE,reduceLT,reduceSub,reduceAdd,gu,ah];generalize (Pn d)=a0;cases a0<;>exact⟨_,rfl,rfl⟩
def aSg(op:Int)(t o:aC)(kids:ak)(j d:Int)(h0:0<=j)(h1:j<kids.length)(hk:kids.length<=400)(hc:Cons 15 op kids.length):Y5 15 op t o kids j d:=by
 by_cases hj:j=0
 ·subst hj;have hl:=aSf d;simp only[Y5,M.aW,M.aX,M.aP,M.gI,M.fQ,eH,iF,iG,eu,Int.reduceBEq,reduceLE,reduceLT,reduceSub,reduceAdd,gu,ah];revert hl;cases IX d<;>cases Pn d<;>intro hl<;>first|exact⟨_,rfl,rfl⟩|cases hl
 have e0:(j==0)=false:=by simpa using hj
 have e1:decide (0<j)=true:=zdt au;simp only[Y5,M.aW,M.aX,M.aP,M.gI,M.fQ,eH,iF,iG,eu,e0,e1,Int.reduceBEq,reduceLE,reduceLT,reduceSub,reduceAdd,gu,ah];generalize (IX d)=a0;cases a0<;>exact⟨_,rfl,rfl⟩
def aSh(op:Int)(t o:aC)(kids:ak)(j d:Int)(h0:0<=j)(h1:j<kids.length)(hk:kids.length<=400)(hc:Cons 28 op kids.length):Y5 28 op t o kids j d:=by
 by_cases hj:j=0
 ·subst hj;simp only[Y5,M.aW,M.aX,M.aP,M.gI,M.fQ,eH,iF,iG,eu,Int.reduceBEq,reduceLE,reduceLT,reduceSub,reduceAdd,gu,ah];generalize (IX d)=a0;generalize (d==33)=a1;cases a0<;>cases a1<;>exact⟨_,rfl,rfl⟩
 have e0:(j==0)=false:=by simpa using hj
 have e1:decide (0<j)=true:=zdt au;simp only[Y5,M.aW,M.aX,M.aP,M.gI,M.fQ,eH,iF,iG,eu,e0,e1,Int.reduceBEq,reduceLE,reduceLT,reduceSub,reduceAdd,gu,ah];generalize (d==33)=a0;cases a0<;>exact⟨_,rfl,rfl⟩
def aFq(k:Int)(op:Int)(t o:aC)(kids:ak)(j d:Int)(h0:0<=j)(h1:j<kids.length)(hk:kids.length<=400)(hc:Cons k op kids.length)(hx:k=29\/k=30):Y5 k op t o kids j d:=by
 rcases hx with rfl|rfl
 all_goals
  have hl:=hc.two au;obtain rfl|rfl:j=0\/j=1:=au
  ·simp only[Y5,M.aW,M.aX,M.aP,M.gI,M.fQ,eH,iF,iG,eu,Int.reduceBEq,reduceLE,reduceLT,reduceSub,reduceAdd,gu,ah];generalize (IX d)=a0;generalize (d==33)=a1;cases a0<;>cases a1<;>exact⟨_,rfl,rfl⟩
  ·simp only[Y5,M.aW,M.aX,M.aP,M.gI,M.fQ,eH,iF,iG,eu,Int.reduceBEq,reduceLE,reduceLT,reduceSub,reduceAdd,gu,ah];generalize (IX d)=a0;generalize (d==33)=a1;cases a0<;>cases a1<;>exact⟨_,rfl,rfl⟩
def aSi(op:Int)(t o:aC)(kids:ak)(j d:Int)(h0:0<=j)(h1:j<kids.length)(hk:kids.length<=400)(hc:Cons 31 op kids.length):Y5 31 op t o kids j d:=by
 have hl:=hc.four rfl;have hw:i64.wrap ((kids.length:Int) - 1)=3:=by rw[hl];rfl
 obtain rfl|rfl|rfl|rfl:j=0\/j=1\/j=2\/j=3:=au
 ·simp only[Y5,M.aW,M.aX,M.aP,M.gI,M.fQ,eH,iF,iG,eu,hw,Int.reduceBEq,reduceLE,reduceLT,reduceSub,reduceAdd,gu,ah];generalize (IX d)=a0;generalize (d==16)=a1;generalize (d==33)=a2;cases a0<;>cases a1<;>cases a2<;>exact⟨_,rfl,rfl⟩
 ·simp only[Y5,M.aW,M.aX,M.aP,M.gI,M.fQ,eH,iF,iG,eu,hw,Int.reduceBEq,reduceLE,reduceLT,reduceSub,reduceAdd,gu,ah];generalize (IX d)=a0;generalize (d==16)=a1;generalize (d==33)=a2;cases a0<;>cases a1<;>cases a2<;>exact⟨_,rfl,rfl⟩
 ·simp only[Y5,M.aW,M.aX,M.aP,M.gI,M.fQ,eH,iF,iG,eu,hw,Int.reduceBEq,reduceLE,reduceLT,reduceSub,reduceAdd,gu,ah];generalize (IX d)=a0;generalize (d==16)=a1;generalize (d==33)=a2;cases a0<;>cases a1<;>cases a2<;>exact⟨_,rfl,rfl⟩
 ·simp only[Y5,M.aW,M.aX,M.aP,M.gI,M.fQ,eH,iF,iG,eu,hw,Int.reduceBEq,reduceLE,reduceLT,reduceSub,reduceAdd,gu,ah];generalize (IX d)=a0;generalize (d==16)=a1;generalize (d==33)=a2;cases a0<;>cases a1<;>cases a2<;>exact⟨_,rfl,rfl⟩
def azI(k:Int)(op:Int)(t o:aC)(kids:ak)(j d:Int)(h0:0<=j)(h1:j<kids.length)(hk:kids.length<=400)(hc:Cons k op kids.length)(hx:k=32\/k=40\/k=41):Y5 k op t o kids j d:=by
 rcases hx with rfl|rfl|rfl
 all_goals
  simp only[Y5,M.aW,M.aX,M.aP,M.gI,M.fQ,eH,iF,iG,eu,Int.reduceBEq,reduceLE,reduceLT,reduceSub,reduceAdd,gu,ah];generalize (d==33)=a0;cases a0<;>exact⟨_,rfl,rfl⟩
def aSj(op:Int)(t o:aC)(kids:ak)(j d:Int)(h0:0<=j)(h1:j<kids.length)(hk:kids.length<=400)(hc:Cons 33 op kids.length):Y5 33 op t o kids j d:=by simp only[Y5,M.aW,M.aX,M.aP,M.gI,M.fQ,eH,iF,iG,eu,Int.reduceBEq,reduceLE,reduceLT,reduceSub,reduceAdd,gu,ah];generalize (acr d)=a0;cases a0<;>exact⟨_,rfl,rfl⟩
def aSk(op:Int)(t o:aC)(kids:ak)(j d:Int)(h0:0<=j)(h1:j<kids.length)(hk:kids.length<=400)(hc:Cons 42 op kids.length):Y5 42 op t o kids j d:=by
 rcases hc.rule rfl with⟨rfl,hl⟩|⟨rfl,hl⟩|⟨rfl,hl⟩
 ·have hw:i64.wrap ((kids.length:Int) - 1)=0:=by rw[hl];rfl
  obtain rfl:j=0:=au;simp only[Y5,M.aW,M.aX,M.aP,M.gI,M.fQ,eH,iF,iG,eu,hw,Int.reduceBEq,reduceLE,reduceLT,reduceSub,reduceAdd,gu,ah];generalize (IX d)=a0;generalize (d==33)=a1;cases a0<;>cases a1<;>exact⟨_,rfl,rfl⟩
 ·have hw:i64.wrap ((kids.length:Int) - 1)=0:=by rw[hl];rfl
  obtain rfl:j=0:=au;simp only[Y5,M.aW,M.aX,M.aP,M.gI,M.fQ,eH,iF,iG,eu,hw,Int.reduceBEq,reduceLE,reduceLT,reduceSub,reduceAdd,gu,ah];generalize (IX d)=a0;generalize (d==33)=a1;cases a0<;>cases a1<;>exact⟨_,rfl,rfl⟩
 ·have hw:i64.wrap ((kids.length:Int) - 1)=1:=by rw[hl];rfl
  obtain rfl|rfl:j=0\/j=1:=au
  ·simp only[Y5,M.aW,M.aX,M.aP,M.gI,M.fQ,eH,iF,iG,eu,hw,Int.reduceBEq,reduceLE,reduceLT,reduceSub,reduceAdd,gu,ah];generalize (IX d)=a0;generalize (d==33)=a1;cases a0<;>cases a1<;>exact⟨_,rfl,rfl⟩
  ·simp only[Y5,M.aW,M.aX,M.aP,M.gI,M.fQ,eH,iF,iG,eu,hw,Int.reduceBEq,reduceLE,reduceLT,reduceSub,reduceAdd,gu,ah];generalize (IX d)=a0;generalize (d==33)=a1;cases a0<;>cases a1<;>exact⟨_,rfl,rfl⟩
def aSl(op:Int)(t o:aC)(kids:ak)(j d:Int)(h0:0<=j)(h1:j<kids.length)(hk:kids.length<=400)(hc:Cons 43 op kids.length):Y5 43 op t o kids j d:=by
 rcases hc.range rfl with⟨rfl,hl⟩|⟨rfl,hl⟩
 ·have hw:i64.wrap ((kids.length:Int) - 1)=1:=by rw[hl];rfl
  obtain rfl|rfl:j=0\/j=1:=au
  ·simp only[Y5,M.aW,M.aX,M.aP,M.gI,M.fQ,eH,iF,iG,eu,hw,Int.reduceBEq,reduceLE,reduceLT,reduceSub,reduceAdd,gu,ah];generalize (IX d)=a0;generalize (d==33)=a1;cases a0<;>cases a1<;>exact⟨_,rfl,rfl⟩
  ·simp only[Y5,M.aW,M.aX,M.aP,M.gI,M.fQ,eH,iF,iG,eu,hw,Int.reduceBEq,reduceLE,reduceLT,reduceSub,reduceAdd,gu,ah];generalize (IX d)=a0;generalize (d==33)=a1;cases a0<;>cases a1<;>exact⟨_,rfl,rfl⟩
 ·have hw:i64.wrap ((kids.length:Int) - 1)=2:=by rw[hl];rfl
  obtain rfl|rfl|rfl:j=0\/j=1\/j=2:=au
  ·simp only[Y5,M.aW,M.aX,M.aP,M.gI,M.fQ,eH,iF,iG,eu,hw,Int.reduceBEq,reduceLE,reduceLT,reduceSub,reduceAdd,gu,ah];generalize (IX d)=a0;generalize (d==33)=a1;cases a0<;>cases a1<;>exact⟨_,rfl,rfl⟩
  ·simp only[Y5,M.aW,M.aX,M.aP,M.gI,M.fQ,eH,iF,iG,eu,hw,Int.reduceBEq,reduceLE,reduceLT,reduceSub,reduceAdd,gu,ah];generalize (IX d)=a0;generalize (d==33)=a1;cases a0<;>cases a1<;>exact⟨_,rfl,rfl⟩
  ·simp only[Y5,M.aW,M.aX,M.aP,M.gI,M.fQ,eH,iF,iG,eu,hw,Int.reduceBEq,reduceLE,reduceLT,reduceSub,reduceAdd,gu,ah];generalize (IX d)=a0;generalize (d==33)=a1;cases a0<;>cases a1<;>exact⟨_,rfl,rfl⟩
def aSm(op:Int)(t o:aC)(kids:ak)(j d:Int)(h0:0<=j)(h1:j<kids.length)(hk:kids.length<=400)(hc:Cons 44 op kids.length):Y5 44 op t o kids j d:=by simp only[Y5,M.aW,M.aX,M.aP,M.gI,M.fQ,eH,iF,iG,eu,Int.reduceBEq,reduceLE,reduceLT,reduceSub,reduceAdd,gu,ah];generalize (j==i64.wrap ((kids.length:Int) - 1))=a0;generalize (d==33)=a1;generalize (d==1)=a2;cases a0<;>cases a1<;>cases a2<;>exact⟨_,rfl,rfl⟩
def aSn(op:Int)(t o:aC)(kids:ak)(j d:Int)(h0:0<=j)(h1:j<kids.length)(hk:kids.length<=400)(hc:Cons 45 op kids.length):Y5 45 op t o kids j d:=by simp only[Y5,M.aW,M.aX,M.aP,M.gI,M.fQ,eH,iF,iG,eu,Int.reduceBEq,reduceLE,reduceLT,reduceSub,reduceAdd,gu,ah];generalize (isIt d)=a0;generalize (d==34)=a1;cases a0<;>cases a1<;>exact⟨_,rfl,rfl⟩
def aHP(k:Int)(op:Int)(t o:aC)(kids:ak)(j d:Int)(hj0:0<=j)(hj1:j<kids.length)(hk:kids.length<=400)(hc:Cons k op kids.length):Y5 k op t o kids j d:=by
 by_cases h1:k=1
 ·subst h1;exact MR _ op t o kids j d hj0 hj1 hk hc au
 by_cases h2:k=2
 ·subst h2;exact MR _ op t o kids j d hj0 hj1 hk hc au
 by_cases h3:k=3
 ·subst h3;exact MR _ op t o kids j d hj0 hj1 hk hc au
 by_cases h4:k=4
 ·subst h4;exact MR _ op t o kids j d hj0 hj1 hk hc au
 by_cases h5:k=5
 ·subst h5;exact MR _ op t o kids j d hj0 hj1 hk hc au
 by_cases h6:k=6
 ·subst h6;exact MR _ op t o kids j d hj0 hj1 hk hc au
 by_cases h7:k=7
 ·subst h7;exact MR _ op t o kids j d hj0 hj1 hk hc au
 by_cases h8:k=8
 ·subst h8;exact MR _ op t o kids j d hj0 hj1 hk hc au
 by_cases h9:k=9
 ·subst h9;exact aFp _ op t o kids j d hj0 hj1 hk hc au
 by_cases h10:k=10
 ·subst h10;exact aFp _ op t o kids j d hj0 hj1 hk hc au
 by_cases h11:k=11
 ·subst h11;exact MR _ op t o kids j d hj0 hj1 hk hc au
 by_cases h12:k=12
 ·subst h12;exact MR _ op t o kids j d hj0 hj1 hk hc au
 by_cases h13:k=13
 ·subst h13;exact MR _ op t o kids j d hj0 hj1 hk hc au
 by_cases h14:k=14
 ·subst h14;exact MR _ op t o kids j d hj0 hj1 hk hc au
 by_cases h15:k=15
 ·subst h15;exact aSg op t o kids j d hj0 hj1 hk hc
 by_cases h16:k=16
 ·subst h16;exact MR _ op t o kids j d hj0 hj1 hk hc au
 by_cases h20:k=20
 ·subst h20;exact MR _ op t o kids j d hj0 hj1 hk hc au
 by_cases h21:k=21
 ·subst h21;exact MR _ op t o kids j d hj0 hj1 hk hc au
 by_cases h22:k=22
 ·subst h22;exact MR _ op t o kids j d hj0 hj1 hk hc au
 by_cases h23:k=23
 ·subst h23;exact MR _ op t o kids j d hj0 hj1 hk hc au
 by_cases h24:k=24
 ·subst h24;exact MR _ op t o kids j d hj0 hj1 hk hc au
 by_cases h25:k=25
 ·subst h25;exact MR _ op t o kids j d hj0 hj1 hk hc au
 by_cases h26:k=26
 ·subst h26;exact MR _ op t o kids j d hj0 hj1 hk hc au
 by_cases h27:k=27
 ·subst h27;exact MR _ op t o kids j d hj0 hj1 hk hc au
 by_cases h28:k=28
 ·subst h28;exact aSh op t o kids j d hj0 hj1 hk hc
 by_cases h29:k=29
 ·subst h29;exact aFq _ op t o kids j d hj0 hj1 hk hc au
 by_cases h30:k=30
 ·subst h30;exact aFq _ op t o kids j d hj0 hj1 hk hc au
 by_cases h31:k=31
 ·subst h31;exact aSi op t o kids j d hj0 hj1 hk hc
 by_cases h32:k=32
 ·subst h32;exact azI _ op t o kids j d hj0 hj1 hk hc au
 by_cases h33:k=33
 ·subst h33;exact aSj op t o kids j d hj0 hj1 hk hc
 by_cases h34:k=34
 ·subst h34;exact MR _ op t o kids j d hj0 hj1 hk hc au
 by_cases h40:k=40
 ·subst h40;exact azI _ op t o kids j d hj0 hj1 hk hc au
 by_cases h41:k=41
 ·subst h41;exact azI _ op t o kids j d hj0 hj1 hk hc au
 by_cases h42:k=42
 ·subst h42;exact aSk op t o kids j d hj0 hj1 hk hc
 by_cases h43:k=43
 ·subst h43;exact aSl op t o kids j d hj0 hj1 hk hc
 by_cases h44:k=44
 ·subst h44;exact aSm op t o kids j d hj0 hj1 hk hc
 by_cases h45:k=45
 ·subst h45;exact aSn op t o kids j d hj0 hj1 hk hc
 have e1:(k==1)=false:=by simpa using h1
 have e2:(k==2)=false:=by simpa using h2
 have e3:(k==3)=false:=by simpa using h3
 have e4:(k==4)=false:=by simpa using h4
 have e5:(k==5)=false:=by simpa using h5
 have e6:(k==6)=false:=by simpa using h6
 have e7:(k==7)=false:=by simpa using h7
 have e8:(k==8)=false:=by simpa using h8
 have e9:(k==9)=false:=by simpa using h9
 have e10:(k==10)=false:=by simpa using h10
 have e11:(k==11)=false:=by simpa using h11
 have e12:(k==12)=false:=by simpa using h12
 have e13:(k==13)=false:=by simpa using h13
 have e14:(k==14)=false:=by simpa using h14
 have e15:(k==15)=false:=by simpa using h15
 have e16:(k==16)=false:=by simpa using h16
 have e20:(k==20)=false:=by simpa using h20
 have e21:(k==21)=false:=by simpa using h21
 have e22:(k==22)=false:=by simpa using h22
 have e23:(k==23)=false:=by simpa using h23
 have e24:(k==24)=false:=by simpa using h24
 have e25:(k==25)=false:=by simpa using h25
 have e26:(k==26)=false:=by simpa using h26
 have e27:(k==27)=false:=by simpa using h27
 have e28:(k==28)=false:=by simpa using h28
 have e29:(k==29)=false:=by simpa using h29
 have e30:(k==30)=false:=by simpa using h30
 have e31:(k==31)=false:=by simpa using h31
 have e32:(k==32)=false:=by simpa using h32
 have e33:(k==33)=false:=by simpa using h33
 have e34:(k==34)=false:=by simpa using h34
 have e40:(k==40)=false:=by simpa using h40
 have e41:(k==41)=false:=by simpa using h41
 have e42:(k==42)=false:=by simpa using h42
 have e43:(k==43)=false:=by simpa using h43
 have e44:(k==44)=false:=by simpa using h44
 have e45:(k==45)=false:=by simpa using h45
 simp only[Y5,M.aW,M.aX,M.aP,M.gI,M.fQ,eH,iF,iG,eu,e1,e2,e3,e4,e5,e6,e7,e8,e9,e10,e11,e12,e13,e14,e15,e16,e20,e21,e22,e23,e24,e25,e26,e27,e28,e29,e30,e31,e32,e33,e34,e40,e41,e42,e43,e44,e45,bG,ah];exact⟨_,rfl,rfl⟩
end Go.Proofs.YtgealgmioiepeaaGreatDoor
namespace Go.Proofs.YtgealgmioiepeaaGreatDoor
open Go Go.Vm
open Int (reduceLE reduceLT reduceSub reduceAdd)
def QN(x lo hi:Int):M.dQ x lo hi=some (decide (lo<=x) && decide (x<=hi)):=by
 simp only[M.dQ,M.Ep]
 by_cases h:lo<=x
 ·rw[zdt (show x>=lo from h)];rfl
 ·rw[xE (show¬x>=lo from h)];rfl
def arq:∀k:List Int,an7 (encI k)=some k
 |[]=>rfl
 |x::k=>by have:encI (x::k)=[D.int .i64 x]::encI k:=rfl;rw[this];simp only[an7,arq k,MS]
def nk(n:Nd):Nk:=⟨n.kind,n.op,⟨⟨n.text⟩⟩,⟨⟨n.other⟩⟩,n.kids⟩
def am1(o:Bool):∀l:List Nd,(∀n,n∈l->n.kids.length<=1048576)->aar (dJ o l)=some (l.map nk)
 |[],_=>rfl
 |n::l,h=>by
  have:dJ o (n::l)=YR o n::dJ o l:=rfl;rw[this,aar];have hk:atj (YR o n)=some (nk n):=by simp only[YR,atj,arq,ah];rw[if_pos (h n zmf)];rfl
  rw[hk,ah,am1 o l (λm hm=>h m (zmm _ hm))];rfl
def aSo(l:List Nd):(l.map nk).map (·.kids)=ks l:=by simp[ks,nk]
def aip(l:List Nd)(o:Bool)(hl:l.length<=1048576)(hk:∀n,n∈l->n.kids.length<=1048576):M.Em (dJ o l)=some (Fh l):=by
 simp only[M.Em,M.QL,M.lG,am1 o l hk,ah,aSo,zaY];rw[if_pos hl,Fh];cases uN (ks l) with
 |none=>rfl
 |some st=>rfl
def afG(l:List Nd)(o:Bool){i:Nat}{n:Nd}{st:List Int}(hi:l[i]? =some n)(hl:l.length<=1048576)(hkl:n.kids.length<=1048576)(hst:ab6 st)(hs:st.length=i):
  ∀(j:Nat) (a:Int),j<=n.kids.length->0<=a->a<=i->M.xX (dJ o l) (i:Int) (encI st) (a,(j:Int) - 1)=some (match gG st (n.kids.take j).reverse (a - 1) with
   |none=> .inl ()
   |some r=> .inr (r+1, -1))
 |0,a,hj,h0,h1=>by rw[M.xX];apply aV;simp only[M.Ip,M.BR];rw[xE au,bG,List.take_zero,List.reverse_nil,gG];simp
 |j+1,a,hj,h0,h1=>by
  have hlt:i<l.length:=(Po.1 hi).1;obtain⟨k,hk⟩:∃k,n.kids[j]? =some k:=⟨n.kids[j]'au,by simp⟩
  have ht:(n.kids.take (j+1)).reverse=k::(n.kids.take j).reverse:=by rw[List.take_add_one,hk,Option.toList_some,List.reverse_append];rfl
  rw[ht,gG];have e1:(((j+1:Nat):Int) - 1)=(j:Int):=au;rw[e1];have hstep:M.Ip (dJ o l) (i:Int) (encI st) (a,(j:Int))=if a - 1<0\/k≠a - 1 then some (.inr (.inl ())) else some (.inl (st[k.toNat]?.getD 0,(j:Int) - 1)):=by
   simp only[M.Ip,M.BR,bZ,qo,hi,MS,ah,cN4,yO,hk,cI0];rw[zdt au,aH,aJ (n:=a - 1) au au]
   by_cases h2:k=a - 1
   ·have:(k !=a - 1)=false:=by simp[h2]
    rw[this,bG]
    by_cases h3:a=0
    ·have:(a==0)=true:=by simp[h3]
     rw[this,aH,if_pos (.inl au)]
    ·have:(a==0)=false:=by simp[h3]
     rw[this,bG,if_neg au];obtain⟨d,hd⟩:∃d:Nat,a - 1=(d:Int):=⟨(a - 1).toNat,au⟩
     have hdl:d<st.length:=au;rw[h2,hd];simp only[ajM,bZ,yO,ztn];rw[List.getElem?_eq_getElem hdl];simp only[MS,ah,cI0,Option.getD_some];rw[aJ au au]
   ·have:(k !=a - 1)=true:=by simp[h2]
    rw[this,aH,if_pos (.inr h2)]
  by_cases hc:a - 1<0\/k≠a - 1
  ·rw[if_pos hc];rw[if_pos hc] at hstep;exact aV hstep
  ·rw[if_neg hc];rw[if_neg hc] at hstep;rw[M.xX,bQ hstep];have hz:=VN hst k.toNat;have:=afG l o hi hl hkl hst hs j (st[k.toNat]?.getD 0) au hz.1 au;rw[M.xX] at this;exact this
def adS(l:List Nd)(o:Bool)(hl:l.length<=1048576)(hk:∀n,n∈l->n.kids.length<=1048576):∀(rest:List Nd) (i:Nat) (st:List Int),l.drop i=rest->st.length=i->i<=l.length->ab6 st->
  M.xY (dJ o l) ((i:Int),encI st)=some (match iD st (ks rest) with
   |none=> .inl ()
   |some r=> .inr ((l.length:Int),encI r))
 |[],i,st,hd,hs,hi,hst=>by have:l.length<=i:=List.drop_eq_nil_iff.1 hd;rw[M.xY];apply aV;simp only[Fj,M.Iq,M.BU,iV];rw[xE au,bG];have:i=l.length:=au;subst this;rfl
 |n::rest,i,st,hd,hs,hi,hst=>by
  have hn:l[i]? =some n:=by
   have:(l.drop i)[0]? =some n:=by rw[hd];rfl
   simpa using this
  have hlt:i<l.length:=(Po.1 hn).1;have hd':l.drop (i+1)=rest:=by rw[<-List.drop_drop,hd];rfl
  have hkn:=hk n (Ro hn);have hin:=afG l o hn hl hkn hst hs n.kids.length (i:Int) (zaX _) au au;rw[List.take_length] at hin;have hks:ks (n::rest)=n.kids::ks rest:=rfl;rw[hks,iD,hs];have hstep:M.Iq (dJ o l) ((i:Int),encI st)=some (match gG st n.kids.reverse ((i:Int) - 1) with
    |none=> .inr (.inl ())
    |some a=> .inl (((i+1:Nat):Int),encI (st++[a+1]))):=by
   simp only[Fj,M.Iq,M.BU,iV,bZ,qo,hn,MS,ah,cN4,dZ];rw[zdt au,aH,aJ (n:=(n.kids.length:Int) - 1) au au,hin];cases hw:gG st n.kids.reverse ((i:Int) - 1) with
   |none=>rfl
   |some a=>simp only[ah,jX,letE,OW];rw[bI au,aH,bI au,aH,aJ au au];simp[encI]
  cases hw:gG st n.kids.reverse ((i:Int) - 1) with
  |none=>rw[hw] at hstep;exact aV hstep
  |some a=>rw[hw] at hstep;rw[M.xY,bQ hstep];have hr:=Kw hst _ _ _ au au hw;have:=adS l o hl hk rest (i+1) (st++[a+1]) hd' (by simp[hs]) hlt (X8 hst hr.1 hr.2);rw[M.xY] at this;exact this
def ZB(l:List Nd)(o:Bool)(hl:l.length<=1048576)(hk:∀n,n∈l->n.kids.length<=1048576):M.yF (dJ o l)=some (Fh l):=by
 simp only[M.yF,M.PV,QN,ah,iV]
 by_cases h1:1<=l.length/\l.length<=400
 ·have hb:(decide ((1:Int)<=(l.length:Int)) && decide ((l.length:Int)<=400))=true:=by simp;omega
  rw[hb,zaW,bG];have h:=adS l o hl hk l 0 [] rfl rfl (Nat.zero_le _) X9;have e0:((0:Nat):Int)=0:=rfl;rw[e0] at h;simp only[M.FC,M.NU];rw[show([]:ak)=encI [] from rfl,h,Fh,uN,if_pos (by rw[OZ];exact h1)];cases hs:iD [] (ks l) with
  |none=>rfl
  |some r=>
   have hrl:r.length=l.length:=by have:=YT _ _ _ hs;rw[OZ] at this;simpa using this
   simp only[ah,jX,letE,RH,aH];rw[aJ au au,show(l.length:Int) - 1=((l.length - 1:Nat):Int) by omega];simp only[ajM,bZ,yO,ztn];rw[List.getElem?_eq_getElem au];simp only[MS,ah,cI0,Option.getD_some]
 ·have hb:(decide ((1:Int)<=(l.length:Int)) && decide ((l.length:Int)<=400))=false:=by
   cases hq:(decide ((1:Int)<=(l.length:Int)) && decide ((l.length:Int)<=400)) with
   |false=>rfl
   |true=>simp at hq;omega
  rw[hb,Bool.not_false,aH,Fh,uN,if_neg (by rw[OZ];exact h1)]
def am2{st:List Int}(h:ab6 st):∀(l:List Int) (a r:Int),a<st.length->gG st l a=some r->∀k,k∈l->0<=k/\k<st.length
 |[],a,r,h1,e,k,hk=>absurd hk List.not_mem_nil
 |x::l,a,r,h1,e,k,hk=>by
  rw[gG] at e;split at e
  ·cases e
  ·rename_i hc;have hz:=VN h x.toNat;rcases List.mem_cons.1 hk with rfl|hk
   ·omega
   ·exact am2 h l _ r au e k hk
def ahN:∀(l:List (List Int)) (st r:List Int),ab6 st->iD st l=some r->∀(i:Nat) n,l[i]? =some n->∀k,k∈n->0<=k/\k<st.length+i
 |[],st,r,h0,h,i,n,hn=>by simp at hn
 |m::l,st,r,h0,h,i,n,hn=>by
  rw[iD] at h;split at h
  ·cases h
  ·rename_i a ha;have hr:=Kw h0 _ _ _ au au ha;cases i with
   |zero=>simp only[List.getElem?_cons_zero,kU] at hn;subst hn;intro k hk;have:=am2 h0 _ _ _ au ha k (List.mem_reverse.2 hk);omega
   |succ i=>simp only[List.getElem?_cons_succ] at hn;intro k hk;have:=ahN l _ r (X8 h0 hr.1 hr.2) h i n hn k hk;simp at this;omega
def agT{l:List Nd}(h:Fh l=true):1<=l.length/\l.length<=400:=by
 unfold Fh at h;cases hs:uN (ks l) with
 |none=>rw[hs] at h;cases h
 |some r=>
  unfold uN at hs;split at hs
  ·rename_i hq;rw[OZ] at hq;exact hq
  ·cases hs
def adT:∀(l:List (List Int)) (st r:List Int),iD st l=some r->∃t,r=st++t
 |[],st,r,h=>by rw[iD] at h;cases h;exact⟨[],by simp⟩
 |n::l,st,r,h=>by
  rw[iD] at h;split at h
  ·cases h
  ·obtain⟨t,ht⟩:=adT l _ r h;exact⟨_,by rw[ht,QW]⟩
def ars{st t:List Int}(h:ab6 st):∀(ks:List Int) (a:Int),a<st.length->gG (st++t) ks a=gG st ks a
 |[],a,_=>rfl
 |k::ks,a,ha=>by
  rw[gG,gG];split
  ·rfl
  ·rename_i hc;have hk:k.toNat<st.length:=au;have e:(st++t)[k.toNat]? =st[k.toNat]? :=List.getElem?_append_left hk;rw[e];have hz:=VN h k.toNat;exact ars h ks _ au
def am3:∀(l:List (List Int)) (st r:List Int),ab6 st->iD st l=some r->∀(i:Nat) n,l[i]? =some n->∃a,gG r n.reverse ((st.length:Int)+i - 1)=some a/\r[st.length+i]? =some (a+1)
 |[],st,r,h0,h,i,n,hn=>by simp at hn
 |m::l,st,r,h0,h,i,n,hn=>by
  rw[iD] at h;split at h
  ·cases h
  ·rename_i a ha;have hr:=Kw h0 _ _ _ au au ha;obtain⟨t,ht⟩:=adT l _ r h;cases i with
   |zero=>
    simp only[List.getElem?_cons_zero,kU] at hn;subst hn;refine⟨a, ?_, ?_⟩
    ·rw[ht,QW,ars h0 _ _ (by simp;omega)];simpa using ha
    ·rw[ht];simp
   |succ i=>
    simp only[List.getElem?_cons_succ] at hn;obtain⟨b,h1,h2⟩:=am3 l _ r (X8 h0 hr.1 hr.2) h i n hn;refine⟨b, ?_, ?_⟩
    ·rw[<-h1];congr 1;simp;omega
    ·rw[<-h2];congr 1;simp;omega
def abB:List Int->Int
 |[]=>0
 |x::l=>x+abB l
def ahO:∀(a b:List Int),abB (a++b)=abB a+abB b
 |[],b=>by simp[abB]
 |x::a,b=>by rw[zca,abB,abB,ahO a b];omega
def afH:∀l:List Int,abB l.reverse=abB l
 |[]=>rfl
 |x::l=>by rw[List.reverse_cons,ahO,afH l];simp[abB];omega
def sz(r:List Int)(k:Int):Int:=k - (r[k.toNat]?.getD 0)+1
def aru(r:List Int):∀(ks:List Int) (a b:Int),gG r ks a=some b->abB (ks.map (sz r))=a - b
 |[],a,b,h=>by rw[gG] at h;cases h;simp[abB]
 |k::ks,a,b,h=>by
  rw[gG] at h;split at h
  ·cases h
  ·rename_i hc;have:=aru r ks _ b h;rw[zmc,abB,this,sz];omega
structure Val(l:List Nd)(r:List Int):Prop where
 st:iD [] (ks l)=some r
 pos:1<=l.length
 le:l.length<=400
def aom{l:List Nd}(h:Fh l=true):∃r,Val l r:=by
 have hl:=agT h;unfold Fh at h;cases hs:uN (ks l) with
 |none=>rw[hs] at h;cases h
 |some r=>
  unfold uN at hs;split at hs
  ·exact⟨r,hs,hl.1,hl.2⟩
  ·cases hs
section
variable {l:List Nd} {r:List Int}
def Val.len(h:Val l r):r.length=l.length:=by have:=YT _ _ _ h.st;rw[OZ] at this;simpa using this
def Val.ok(h:Val l r):ab6 r:=agy _ _ _ X9 h.st
def Val.kids(h:Val l r){i:Nat}{n:Nd}(hn:l[i]? =some n):∀k,k∈n.kids->0<=k/\k<i:=by have:=ahN _ _ _ X9 h.st i n.kids (by simp[ks,hn]);simpa using this
def Val.sum(h:Val l r){i:Nat}{n:Nd}(hn:l[i]? =some n):abB (n.kids.map (sz r))+1=sz r i:=by obtain⟨a,h1,h2⟩:=am3 _ _ _ X9 h.st i n.kids (by simp[ks,hn]);have:=aru r _ _ _ h1;rw[List.map_reverse,afH] at this;simp at h2;rw[this,sz,ztn,h2];simp;omega
def Val.Dj(h:Val l r){k:Int}(h0:0<=k):1<=sz r k/\sz r k<=k+1:=by have:=VN h.ok k.toNat;rw[sz];omega
end
def aks(l:List Nd)(i:Nat):List Int:=match l[i]? with|some n=>n.kids|none=>[]
def MP{l:List Nd}{i:Nat}{n:Nd}(h:l[i]? =some n):aks l i=n.kids:=by rw[aks,h]
def mx:Int->List Int->Int
 |a,[]=>a
 |a,x::l=>mx (bif decide (a<x) then x else a) l
def abC(B:Int):∀(l:List Int) (a:Int),a<=B->(∀x,x∈l->x<=B)->a<=mx a l/\mx a l<=B
 |[],a,h,_=>⟨Int.le_refl _,h⟩
 |x::l,a,h,hl=>by
  have hx:=hl x zmf;rw[mx]
  by_cases c:a<x
  ·rw[zdt c,aH];have:=abC B l x hx λy hy=>hl y (zmm _ hy)
   omega
  ·rw[xE c,bG];exact abC B l a h λy hy=>hl y (zmm _ hy)
def aiK:∀(l:List Int) (a x:Int),mx a (l++[x])=(bif decide (mx a l<x) then x else mx a l)
 |[],a,x=>rfl
 |y::l,a,x=>by rw[zca,mx,mx,aiK l]
def azJ:∀(l:List Int) (a:Int),mx (1+a) (l.map λd=>1+d)=1+mx a l
 |[],a=>rfl
 |x::l,a=>by
  rw[zmc,mx,mx,<-azJ l]
  by_cases c:a<x
  ·rw[zdt c,aH,zdt au,aH]
  ·rw[xE c,bG,xE au,bG]
def dep(l:List Nd):Nat->Nat->Int
 |0,_=>0
 |f+1,i=>mx 0 ((aks l i).map λk=>dep l f k.toNat)+1
def agU(l:List Nd):∀f i,0<=dep l f i/\dep l f i<=f
 |0,i=>by simp[dep]
 |f+1,i=>by have:=abC (f:Int) ((aks l i).map λk=>dep l f k.toNat) 0 au (λx hx=>by obtain⟨k,_,rfl⟩:=List.mem_map.1 hx;exact(agU l f k.toNat).2);rw[dep];omega
section
variable {l:List Nd} {r:List Int} {o:Bool}
def arv(h:Val l r):∀(f f' i:Nat),i<f->i<f'->i<l.length->dep l f i=dep l f' i
 |0,_,i,h1,_,_=>absurd h1 (Nat.not_lt_zero _)
 |f+1,0,i,_,h2,_=>absurd h2 (Nat.not_lt_zero _)
 |f+1,f'+1,i,h1,h2,h3=>by
  obtain⟨n,hn⟩:∃n,l[i]? =some n:=⟨l[i],by simp⟩
  rw[dep,dep,MP hn];congr 2;refine List.map_congr_left λk hk=> ?_
  have hkr:=h.kids hn k hk;exact arv h f f' k.toNat au au au
def akt(l:List Nd)(i:Nat):List Int:=(List.range i).map λj=>dep l (j+1) j
def azK(l:List Nd)(i:Nat):(akt l i).length=i:=by simp[akt]
def arw(l:List Nd){i j:Nat}(h:j<i):(akt l i)[j]? =some (dep l (j+1) j):=by simp[akt,List.getElem?_range h]
def aw6(l:List Nd)(i:Nat):akt l (i+1)=akt l i++[dep l (i+1) i]:=by simp[akt,List.range_succ]
def arx(h:Val l r){i:Nat}{n:Nd}(hn:l[i]? =some n)(hk:n.kids.length<=1048576):M.Jc (dJ o l) (i:Int) (encI (akt l i)) (1,0)=some (dep l (i+1) i,(n.kids.length:Int)):=by
 have hil:=(Po.1 hn).1;have hle:=h.le;have hdk:∀k,k∈n.kids->dep l i k.toNat=dep l (k.toNat+1) k.toNat:=λk hkm=>by have:=h.kids hn k hkm;exact arv h _ _ _ au au au
 have hval:∀(j:Nat),(1:Int)+mx 0 ((n.kids.take j).map λk=>dep l i k.toNat)=mx 1 ((n.kids.take j).map λk=>1+dep l i k.toNat):=λj=>by have:=azJ ((n.kids.take j).map λk=>dep l i k.toNat) 0;rw[List.map_map] at this;exact this.symm
 have hloop:=uM (b:=M.JI (dJ o l) (i:Int) (encI (akt l i))) (t:=(dep l (i+1) i,(n.kids.length:Int))) (λj=>(mx 1 ((n.kids.take j).map λk=>1+dep l i k.toNat),(j:Int))) n.kids.length
  (by
   intro j hj;obtain⟨k,hkj⟩:∃k,n.kids[j]? =some k:=⟨n.kids[j],by simp⟩
   have hkm:=Ro hkj;have hkr:=h.kids hn k hkm;obtain⟨q,hq⟩:∃q:Nat,k=q:=⟨k.toNat,au⟩
   have hd:=hdk k hkm;have hr:=agU l (q+1) q;subst hq;rw[ztn] at hd;simp only[M.JI,M.Es,bZ,qo,hn,MS,ah,cN4,dZ,yO,hkj,cI0,ztn,arw l (show q<i by omega)];rw[zdt au,aH,aJ (n:=(j:Int)+1) au au,aJ (n:=1+dep l (q+1) q) au au,List.take_add_one,hkj,Option.toList_some,List.map_append,zmc,List.map_nil,aiK,ztn,hd];rfl)
  (by simp only[M.JI,M.Es,bZ,qo,hn,MS,ah,cN4,dZ];rw[xE au,bG,<-hval,List.take_length,dep,MP hn,Int.add_comm]) 0 (Nat.zero_le _)
 rw[M.Jc];exact hloop
def depth(l:List Nd):Int:=if Fh l then dep l l.length (l.length - 1) else 0
def aiq(l:List Nd)(o:Bool)(hl:l.length<=1048576)(hk:∀n,n∈l->n.kids.length<=1048576):M.D5 (dJ o l)=some (depth l):=by
 simp only[M.D5,M.PX,ZB l o hl hk,ah,iV,depth];cases hs:Fh l with
 |false=>rfl
 |true=>
  obtain⟨r,h⟩:=aom hs;have h1:=h.pos;have h2:=h.le;have hloop:=uM (b:=M.JJ (dJ o l)) (t:=((l.length:Int),encI (akt l l.length))) (λi=>((i:Int),encI (akt l i))) l.length
   (by
    intro i hi;obtain⟨n,hn⟩:∃n,l[i]? =some n:=⟨l[i],by simp⟩
    have hin:=arx (o:=o) h hn (hk n (Ro hn));simp only[Fj,M.JJ,M.Et,iV,hin,ah,dZ,azK,OW];rw[zdt au,aH,bI au,aH,bI au,aH,aJ au au,aw6];simp[encI])
   (by simp only[Fj,M.JJ,M.Et,iV];rw[xE au,bG]) 0 (Nat.zero_le _)
  have OQ:M.NV (dJ o l) (0,[])=_:=hloop;rw[zaW,bG,OQ,ah,aJ au au,show(l.length:Int) - 1=((l.length - 1:Nat):Int) by omega,if_pos rfl];simp only[bZ,ztn,yO,arw l (show l.length - 1<l.length by omega),MS,ah,cI0];rw[show l.length - 1+1=l.length by omega]
def ZQ(l:List Nd)(i:Nat):Nd:=match l[i]? with|some n=>n|none=>⟨0,0,[],[],[]⟩
def aku(n:Nd)(rows:ak):Row:=[.int .i64 n.kind,.int .i64 n.op,.str n.text,.str n.other,.sl true 5 rows]
def J9(l:List Nd):Nat->Nat->ak
 |0,_=>[]
 |f+1,i=>(aks l i).map λk=>aku (ZQ l k.toNat) (J9 l f k.toNat)
def am4(h:Val l r)(hk:∀n,n∈l->n.kids.length<=400):∀(f i:Nat) (n:Nd),i<f->l[i]? =some n->M.kM f (dJ o l) (i:Int)=some (n.kind,n.op,n.text,n.other,J9 l f i)
 |0,i,n,hf,_=>absurd hf (Nat.not_lt_zero _)
 |f+1,i,n,hf,hn=>by
  have hkn:=hk n (Ro hn);have hil:=(Po.1 hn).1;have hkl:=h.kids hn;simp only[Fj,M.kM,M.Jt,bZ,qo,hn,MS,ah,cN0,cN1,cN2,cN3,cN4,dZ];have hrec:∀(j:Nat) k,n.kids[j]? =some k->M.kM f (dJ o l) k=some ((ZQ l k.toNat).kind,(ZQ l k.toNat).op,(ZQ l k.toNat).text,(ZQ l k.toNat).other,J9 l f k.toNat):=by
   intro j k hj;have hkr:=hkl k (Ro hj);obtain⟨q,hq⟩:∃q:Nat,k=q:=⟨k.toNat,au⟩
   subst hq;obtain⟨m,hm⟩:∃m,l[q]? =some m:=⟨l[q]'au,by simp⟩
   have:=am4 h hk f q m au hm;rw[this,ztn,ZQ,hm]
  have hloop:=uM (b:=M.nZ (M.kM f))
   (t:=if n.kids=[] then .inl (dJ o l,encI n.kids,(n.kids.length:Int),0,0,0,[],[],n.kind,n.op,n.text,n.other) else .inr (dJ o l,encI n.kids,(n.kids.length:Int),(n.kids.length:Int),0,0,[],[],n.kind,n.op,n.text,n.other,J9 l (f+1) i))
   (λj=>if j=0 then .inl (dJ o l,encI n.kids,(n.kids.length:Int),0,0,0,[],[],n.kind,n.op,n.text,n.other) else .inr (dJ o l,encI n.kids,(n.kids.length:Int),(j:Int),0,0,[],[],n.kind,n.op,n.text,n.other,(n.kids.take j).map λk=>aku (ZQ l k.toNat) (J9 l f k.toNat))) n.kids.length
   (by
    intro j hj;obtain⟨k,hkj⟩:∃k,n.kids[j]? =some k:=⟨n.kids[j],by simp⟩
    have hr:=hrec j k hkj;have htk:(n.kids.take (j+1)).map (λk=>aku (ZQ l k.toNat) (J9 l f k.toNat))=(n.kids.take j).map (λk=>aku (ZQ l k.toNat) (J9 l f k.toNat))++[aku (ZQ l k.toNat) (J9 l f k.toNat)]:=by rw[List.take_add_one,hkj,Option.toList_some,List.map_append];rfl
    rw[if_neg (show¬j+1=0 by omega),htk]
    by_cases h0:j=0
    ·subst h0;rw[if_pos rfl];have a0R:idx (encI n.kids) 0=some [D.int .i64 k]:=by have:=bZ (encI n.kids) 0;rw[Wy] at this;rw[this,yO,hkj];rfl
     simp only[Fj,M.nZ,M.nY,a0R,ah,cI0,hr];rw[zdt au,aH];rfl
    ·rw[if_neg h0];simp only[Fj,M.nZ,M.nY,bZ,yO,hkj,MS,ah,cI0,hr,zaY,zlt,OW];rw[zdt au,aH,bI au,aH,bI au,aH,aJ au au];rfl)
   (by
    by_cases h0:n.kids.length=0
    ·have he:n.kids=[]:=List.length_eq_zero_iff.1 h0;rw[if_pos h0,if_pos he];simp only[Fj,M.nZ,M.nY];rw[xE au,bG]
    ·have he:¬n.kids=[]:=λe=>h0 (by rw[e];rfl)
     rw[if_neg h0,if_neg he,List.take_length];simp only[Fj,M.nZ,M.nY];rw[xE au,bG,J9,MP hn]) 0 (Nat.zero_le _)
  rw[if_pos rfl] at hloop;rw[M.KY,hloop,ah]
  by_cases he:n.kids=[]
  ·rw[if_pos he,J9,MP hn,he];rfl
  ·rw[if_neg he];rfl
def Y6:∀rows:ak,aB rows=rows.map Bf
 |[]=>rfl
 |x::rows=>by rw[aB,Y6 rows,zmc]
def arz(h:Val l r)(hk:∀n,n∈l->n.kids.length<=400):∀(f i:Nat) (n:Nd) (a b:Int) (c d:aC),i<f->f<=1000->l[i]? =some n->M.iL f a b c d (aB (J9 l f i))=some (dep l f i)
 |0,i,n,a,b,c,d,hf,_,_=>absurd hf (Nat.not_lt_zero _)
 |f+1,i,n,a,b,c,d,hf,hf2,hn=>by
  have hkn:=hk n (Ro hn);have hil:=(Po.1 hn).1;have hkl:=h.kids hn;have hdr:=agU l (f+1) i;have hlen:(aB (J9 l (f+1) i)).length=n.kids.length:=by rw[Y6,J9,MP hn];simp
  simp only[M.iL,M.zG,hlen];have hloop:=uM (b:=M.qP (M.iL f) (aB (J9 l (f+1) i)) (n.kids.length:Int)) (t:=(mx 0 (n.kids.map λk=>dep l f k.toNat),(n.kids.length:Int)))
   (λj=>(mx 0 ((n.kids.take j).map λk=>dep l f k.toNat),(j:Int))) n.kids.length
   (by
    intro j hj;obtain⟨k,hkj⟩:∃k,n.kids[j]? =some k:=⟨n.kids[j],by simp⟩
    have hkr:=hkl k (Ro hkj);obtain⟨q,hq⟩:∃q:Nat,k=q:=⟨k.toNat,au⟩
    subst hq;obtain⟨m,hm⟩:∃m,l[q]? =some m:=⟨l[q]'au,by simp⟩
    have hrow:(aB (J9 l (f+1) i))[j]? =some (Bf (aku m (J9 l f q))):=by rw[Y6,J9,MP hn,List.getElem?_map,List.getElem?_map,hkj];simp only[MS,ztn,ZQ,hm]
    have hrec:=arz h hk f q m m.kind m.op m.text m.other au au hm;have k0:jq .i64 (Bf (aku m (J9 l f q))) 0=some m.kind:=rfl;have k1:jq .i64 (Bf (aku m (J9 l f q))) 1=some m.op:=rfl;have k2:cStr (Bf (aku m (J9 l f q))) 2=some m.text:=rfl;have k3:cStr (Bf (aku m (J9 l f q))) 3=some m.other:=rfl;have k4:cSl 5 (Bf (aku m (J9 l f q))) 4=some (aB (J9 l f q)):=rfl;simp only[Fj,M.qP,M.qO,bZ,hrow,ah,k0,k1,k2,k3,k4,hrec];rw[zdt au,aH,aJ au au,List.take_add_one,hkj,Option.toList_some,List.map_append,zmc,List.map_nil,aiK,ztn];rfl)
   (by simp only[Fj,M.qP,M.qO];rw[xE au,bG,List.take_length]) 0 (Nat.zero_le _)
  have OQ:M.C9 (M.iL f) (aB (J9 l (f+1) i)) (n.kids.length:Int) (0,0)=_:=hloop;rw[OQ,ah];rw[dep,MP hn] at hdr|-;rw[aJ au au]
end
end Go.Proofs.YtgealgmioiepeaaGreatDoor
