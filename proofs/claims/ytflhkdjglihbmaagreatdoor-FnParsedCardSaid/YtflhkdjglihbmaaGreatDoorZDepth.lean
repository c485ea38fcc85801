import Derived.Test.YtflhkdjglihbmaaGreatDoorPForms2
import Derived.Lib.IndexLaws
set_option linter.defProp false
set_option linter.unusedVariables false
set_option linter.unusedSimpArgs false
set_option linter.unusedSectionVars false
open Go.IntKind (i64)
namespace Go.Proofs.YtflhkdjglihbmaaGreatDoor
open Go Go.Vm
noncomputable section
variable {R:Type}
def M.ru(aS:zaf)(c:au)(c1:Int)(c2:Bool)(c3:au)(k:Int×Int×aC×aC×Bool×au×Bool×au×Int×Bool×au->Option R):=cond (aj c3) ((M.fF c c1 c2 c3).bind λb=>cond (aj b.2.2.2.2) ((M.aA b.2.1 b.2.2.1 b.2.2.2.1 b.2.2.2.2).bind λa=>cond (a.1==34) (cond (aj a.2.2.2.2) ((aS 35 a.2.1 (i64.wrap (a.2.2.1+1)) a.2.2.2.1 a.2.2.2.2).bind λd=>cond (aj d.2.2.2.2.2) (k (5,0,b.1,[],false,aB d.2.1,true,d.2.2)) none) none) (cond (aj a.2.2.2.2) (k (1,0,b.1,[],true,[],true,a.2)) none)) none) none
def C.Yd{aS:zaf}(uz:S.jm.ok X0 λx=>aS x.1.2.1 x.2.1.1 x.2.1.2.1 x.2.1.2.2.1 x.2.1.va.1):S.oC.ok X0 λx=>M.ru aS x.2.1.1 x.2.1.2.1 x.2.1.2.2.1 x.2.1.va.1 some:=fnS (λx=>zbH (M.ru aS) x.2.1) [fe C.fF,fe C.aA,fe uz] [] (by intros;unfold M.ru;exact zbI)
abbrev M.xA(Ye:Bool×au×Int×Bool×au)(aS:zaf)(k:Int×Int×aC×aC×Bool×au×Bool×au×Int×Bool×au->Option R)(JG:aC×au×Int×Bool×au):=cond Ye.1 (cond (aj Ye.2.2.2.2) ((aS 33 Ye.2.1 Ye.2.2.1 Ye.2.2.2.1 Ye.2.2.2.2).bind λa=>cond (aj a.2.2.2.2.2) (k (8,0,JG.1,[],false,aB a.2.1,false,a.2.2)) none) none) (cond (aj Ye.2.2.2.2) (k (8,0,JG.1,[],true,[],false,Ye.2)) none)
abbrev M.wH(qV:Int×au×Int×Bool×au)(k:Int×Int×aC×aC×Bool×au×Bool×au×Int×Bool×au->Option R)(aS:zaf):=cond (aj qV.2.2.2.2) ((M.fF qV.2.1 qV.2.2.1 qV.2.2.2.1 qV.2.2.2.2).bind λc=>cond (qV.1==8) (cond (c.1==[108,101,110,103,116,104]) (cond (aj c.2.2.2.2) ((M.aA c.2.1 c.2.2.1 c.2.2.2.1 c.2.2.2.2).bind λa=>cond (a.1 !=32) (cond (aj a.2.2.2.2) (k (8,0,c.1,[],true,[],false,a.2)) none) (cond (aj a.2.2.2.2) ((M.aO 32 a.2.1 a.2.2.1 a.2.2.2.1 a.2.2.2.2).bind λf=>M.xA f aS k c) none)) none) (cond (aj c.2.2.2.2) ((M.aO 32 c.2.1 c.2.2.1 c.2.2.2.1 c.2.2.2.2).bind λe=>M.xA e aS k c) none)) (cond (aj c.2.2.2.2) ((M.aO 32 c.2.1 c.2.2.1 c.2.2.2.1 c.2.2.2.2).bind λb=>cond b.1 (cond (aj b.2.2.2.2) ((aS 33 b.2.1 b.2.2.1 b.2.2.2.1 b.2.2.2.2).bind λd=>cond (aj d.2.2.2.2.2) (k (7,0,c.1,[],false,aB d.2.1,false,d.2.2)) none) none) (cond (aj b.2.2.2.2) (k (7,0,c.1,[],true,[],false,b.2)) none)) none)) none
def M.pz(iH:zad)(aS:zaf)(bJ:zaa)(c:au)(c1:Int)(c2:Bool)(c3:au)(k:Int×Int×aC×aC×Bool×au×Bool×au×Int×Bool×au->Option R):=cond c2 (cond (aj c3) (k (0,0,[],[],true,[],false,c,c1,c2,c3)) none) (cond (aj c3) ((M.aA c c1 c2 c3).bind λa=>cond (a.1==3) (cond (aj a.2.2.2.2) ((M.fF a.2.1 a.2.2.1 a.2.2.2.1 a.2.2.2.2).bind λh=>cond (aj h.2.2.2.2) (k (2,0,h.1,[],true,[],false,h.2)) none) none) (cond (a.1==4) (cond (aj a.2.2.2.2) ((M.fF a.2.1 a.2.2.1 a.2.2.2.1 a.2.2.2.2).bind λg=>cond (aj g.2.2.2.2) (k (3,0,g.1,[],true,[],false,g.2)) none) none) (cond (a.1==5) (cond (aj a.2.2.2.2) ((M.fF a.2.1 a.2.2.1 a.2.2.2.1 a.2.2.2.2).bind λf=>cond (aj f.2.2.2.2) (k (4,0,f.1,[],true,[],false,f.2)) none) none) (cond (a.1==6) (cond (aj a.2.2.2.2) ((iH a.2.1 a.2.2.1 a.2.2.2.1 a.2.2.2.2).bind λb=>cond (aj b.2.2.2.2.2.2.2.2.2.2) (k (b.1,b.2.1,b.2.2.1,b.2.2.2.1,false,aB b.2.2.2.2.2.1,b.2.2.2.2.2.2)) none) none) (cond (a.1==7) (M.wH a k aS) (cond (a.1==8) (M.wH a k aS) (cond (a.1==32) (cond (aj a.2.2.2.2) ((bJ false false a.2.1 (i64.wrap (a.2.2.1+1)) a.2.2.2.1 a.2.2.2.2).bind λe=>cond (aj e.2.2.2.2.2.2.2.2.2.2) ((M.aO 33 e.2.2.2.2.2.2.2.1 e.2.2.2.2.2.2.2.2.1 e.2.2.2.2.2.2.2.2.2.1 e.2.2.2.2.2.2.2.2.2.2).bind λi=>cond (aj i.2.2.2.2) (k (e.1,e.2.1,e.2.2.1,e.2.2.2.1,false,aB e.2.2.2.2.2.1,false,i.2)) none) none) none) (cond (aj a.2.2.2.2) ((M.jH a.2.1 a.2.2.1 a.2.2.2.1 a.2.2.2.2).bind λd=>cond (aj d.2.2.2.2.2.2.2.2.2.2) (k (d.1,d.2.1,d.2.2.1,d.2.2.2.1,false,aB d.2.2.2.2.2.1,d.2.2.2.2.2.2)) none) none)))))))) none)
def C.Y2{iH:zad}{aS:zaf}{bJ:zaa}(Ii:S.oC.ok X0 λx=>iH x.2.1.1 x.2.1.2.1 x.2.1.2.2.1 x.2.1.va.1)(uz:S.jm.ok X0 λx=>aS x.1.2.1 x.2.1.1 x.2.1.2.1 x.2.1.2.2.1 x.2.1.va.1)(qE:S.bP.ok X0 λx=>bJ x.1.2.1.1 x.1.2.1.2.1 x.2.1.1 x.2.1.2.1 x.2.1.2.2.1 x.2.1.va.1):S.lM.ok X0 λx=>M.pz iH aS bJ x.2.1.1 x.2.1.2.1 x.2.1.2.2.1 x.2.1.va.1 some:=fnS (λx=>zbH (M.pz iH aS bJ) x.2.1) [fe C.aA,fe C.fF,fe Ii,fe C.aO,fe uz,fe qE,fe C.jH] [] (by intros;unfold M.pz M.wH;exact zbI)
abbrev M.yT(Zt:Int×Int×aC×aC×Bool×au×Bool×au×Int×Bool×au)(k:Int×Int×aC×aC×Bool×au×Bool×au×Int×Bool×au->Option R):=cond (aj Zt.2.2.2.2.2.2.2.2.2.2) (k (6,0,[],[],true,[[D.int .i64 Zt.1,D.int .i64 Zt.2.1,D.str Zt.2.2.1,D.str Zt.2.2.2.1,D.sl false 5 (aB Zt.2.2.2.2.2.1)]],true,Zt.2.2.2.2.2.2.2)) none
def M.rP(pY:zad)(jg:zad)(dY:zad)(c:au)(c1:Int)(c2:Bool)(c3:au)(k:Int×Int×aC×aC×Bool×au×Bool×au×Int×Bool×au->Option R):=cond c2 (cond (aj c3) ((pY c c1 c2 c3).bind λe=>cond (aj e.2.2.2.2.2.2.2.2.2.2) (k (e.1,e.2.1,e.2.2.1,e.2.2.2.1,false,aB e.2.2.2.2.2.1,e.2.2.2.2.2.2)) none) none) (cond (aj c3) ((M.aA c c1 c2 c3).bind λa=>cond (a.1 !=68) (cond (aj a.2.2.2.2) ((pY a.2.1 a.2.2.1 a.2.2.2.1 a.2.2.2.2).bind λb=>cond (aj b.2.2.2.2.2.2.2.2.2.2) (k (b.1,b.2.1,b.2.2.1,b.2.2.2.1,false,aB b.2.2.2.2.2.1,b.2.2.2.2.2.2)) none) none) (cond (aj a.2.2.2.2) ((M.aA a.2.1 (i64.wrap (a.2.2.1+1)) a.2.2.2.1 a.2.2.2.2).bind λd=>(M.iI d.1).bind λg=>cond g (cond (aj d.2.2.2.2) ((jg d.2.1 d.2.2.1 d.2.2.2.1 d.2.2.2.2).bind λh=>M.yT h k) none) (cond (aj d.2.2.2.2) ((dY d.2.1 d.2.2.1 d.2.2.2.1 d.2.2.2.2).bind λf=>M.yT f k) none)) none)) none)
def C.aaH{pY:zad}{jg:zad}{dY:zad}(ZP:S.lM.ok X0 λx=>pY x.2.1.1 x.2.1.2.1 x.2.1.2.2.1 x.2.1.va.1)(Kv:S.kZ.ok X0 λx=>jg x.2.1.1 x.2.1.2.1 x.2.1.2.2.1 x.2.1.va.1)(zZ:S.jF.ok X0 λx=>dY x.2.1.1 x.2.1.2.1 x.2.1.2.2.1 x.2.1.va.1):S.jF.ok X0 λx=>M.rP pY jg dY x.2.1.1 x.2.1.2.1 x.2.1.2.2.1 x.2.1.va.1 some:=fnS (λx=>zbH (M.rP pY jg dY) x.2.1) [fe ZP,fe C.aA,fe C.iI,fe Kv,fe zZ] [] (by intros;unfold M.rP M.yT;exact zbI)
abbrev M.sF(Yf:Int×Int×aC×aC×Bool×au×Bool×au×Int×Bool×au)(k:Int×Int×aC×aC×Bool×au×Bool×au×Int×Bool×au->Option R):=cond (aj Yf.2.2.2.2.2.2.2.2.2.2) (k (Yf.1,Yf.2.1,Yf.2.2.1,Yf.2.2.2.1,false,aB Yf.2.2.2.2.2.1,Yf.2.2.2.2.2.2)) none
def M.uN(dY:zad)(iH:zad)(c:au)(c1:Int)(c2:Bool)(c3:au)(k:Int×Int×aC×aC×Bool×au×Bool×au×Int×Bool×au->Option R):=cond c2 (cond (aj c3) ((M.jH c c1 c2 c3).bind λg=>M.sF g k) none) (cond (aj c3) ((M.aA c c1 c2 c3).bind λb=>cond (b.1==68) (cond (aj b.2.2.2.2) ((dY b.2.1 b.2.2.1 b.2.2.2.1 b.2.2.2.2).bind λe=>M.sF e k) none) (cond (aj b.2.2.2.2) ((M.aA b.2.1 b.2.2.1 b.2.2.2.1 b.2.2.2.2).bind λa=>cond (a.1==6) (cond (aj a.2.2.2.2) ((iH a.2.1 a.2.2.1 a.2.2.2.1 a.2.2.2.2).bind λd=>M.sF d k) none) (cond (aj a.2.2.2.2) ((M.jH a.2.1 a.2.2.1 a.2.2.2.1 a.2.2.2.2).bind λf=>M.sF f k) none)) none)) none)
def C.ZQ{dY:zad}{iH:zad}(zZ:S.jF.ok X0 λx=>dY x.2.1.1 x.2.1.2.1 x.2.1.2.2.1 x.2.1.va.1)(Ii:S.oC.ok X0 λx=>iH x.2.1.1 x.2.1.2.1 x.2.1.2.2.1 x.2.1.va.1):S.uh.ok X0 λx=>M.uN dY iH x.2.1.1 x.2.1.2.1 x.2.1.2.2.1 x.2.1.va.1 some:=fnS (λx=>zbH (M.uN dY iH) x.2.1) [fe C.jH,fe C.aA,fe zZ,fe Ii] [] (by intros;unfold M.uN M.sF;exact zbI)
def M.uO(wI:zad)(c:au)(c1:Int)(c2:Bool)(c3:au)(k:Int×Int×aC×aC×Bool×au×Bool×au×Int×Bool×au->Option R):=cond (aj c3) ((M.aA c c1 c2 c3).bind λb=>cond (aj b.2.2.2.2) ((wI b.2.1 (i64.wrap (b.2.2.1+1)) b.2.2.2.1 b.2.2.2.2).bind λa=>cond (aj a.2.2.2.2.2.2.2.2.2.2) (k (9,b.1,[],[],true,[[D.int .i64 a.1,D.int .i64 a.2.1,D.str a.2.2.1,D.str a.2.2.2.1,D.sl false 5 (aB a.2.2.2.2.2.1)]],false,a.2.2.2.2.2.2.2)) none) none) none
def C.ZR{wI:zad}(aaK:S.uh.ok X0 λx=>wI x.2.1.1 x.2.1.2.1 x.2.1.2.2.1 x.2.1.va.1):S.kZ.ok X0 λx=>M.uO wI x.2.1.1 x.2.1.2.1 x.2.1.2.2.1 x.2.1.va.1 some:=fnS (λx=>zbH (M.uO wI) x.2.1) [fe C.aA,fe aaK] [] (by intros;unfold M.uO;exact zbI)
abbrev M.Aa(tY:Int×Int×aC×aC×Bool×au×Bool×au×Int×Bool×au)(k:Int×Int×aC×aC×Bool×au×Bool×au×Int×Bool×au->Option R):=cond tY.2.2.2.2.2.2.2.2.2.1 (cond (aj tY.2.2.2.2.2.2.2.2.2.2) (k (tY.1,tY.2.1,tY.2.2.1,tY.2.2.2.1,false,aB tY.2.2.2.2.2.1,tY.2.2.2.2.2.2)) none) (cond (!tY.2.2.2.2.2.2.1) (cond (aj tY.2.2.2.2.2.2.2.2.2.2) (k (tY.1,tY.2.1,tY.2.2.1,tY.2.2.2.1,false,aB tY.2.2.2.2.2.1,tY.2.2.2.2.2.2)) none) (cond (aj tY.2.2.2.2.2.2.2.2.2.2) ((M.aA tY.2.2.2.2.2.2.2.1 tY.2.2.2.2.2.2.2.2.1 tY.2.2.2.2.2.2.2.2.2.1 tY.2.2.2.2.2.2.2.2.2.2).bind λa=>(M.iI a.1).bind λc=>cond (!c) (cond (aj a.2.2.2.2) (k (tY.1,tY.2.1,tY.2.2.1,tY.2.2.2.1,false,aB tY.2.2.2.2.2.1,tY.2.2.2.2.2.2.1,a.2)) none) (cond (aj a.2.2.2.2) ((M.aA a.2.1 a.2.2.1 a.2.2.2.1 a.2.2.2.2).bind λb=>cond (aj b.2.2.2.2) (k (10,b.1,[],[],true,[[D.int .i64 tY.1,D.int .i64 tY.2.1,D.str tY.2.2.1,D.str tY.2.2.2.1,D.sl false 5 (aB tY.2.2.2.2.2.1)]],false,b.2.1,i64.wrap (b.2.2.1+1),b.2.2.2)) none) none)) none))
def M.uD(jg:zad)(dY:zad)(c:au)(c1:Int)(c2:Bool)(c3:au)(k:Int×Int×aC×aC×Bool×au×Bool×au×Int×Bool×au->Option R):=cond (!c2) (cond (aj c3) ((M.aA c c1 c2 c3).bind λa=>(M.iI a.1).bind λe=>cond e (cond (aj a.2.2.2.2) ((jg a.2.1 a.2.2.1 a.2.2.2.1 a.2.2.2.2).bind λb=>cond (aj b.2.2.2.2.2.2.2.2.2.2) (k (b.1,b.2.1,b.2.2.1,b.2.2.2.1,false,aB b.2.2.2.2.2.1,b.2.2.2.2.2.2)) none) none) (cond (aj a.2.2.2.2) ((dY a.2.1 a.2.2.1 a.2.2.2.1 a.2.2.2.2).bind λf=>M.Aa f k) none)) none) (cond (aj c3) ((dY c c1 c2 c3).bind λd=>M.Aa d k) none)
def C.acp{jg:zad}{dY:zad}(Kv:S.kZ.ok X0 λx=>jg x.2.1.1 x.2.1.2.1 x.2.1.2.2.1 x.2.1.va.1)(zZ:S.jF.ok X0 λx=>dY x.2.1.1 x.2.1.2.1 x.2.1.2.2.1 x.2.1.va.1):S.oW.ok X0 λx=>M.uD jg dY x.2.1.1 x.2.1.2.1 x.2.1.2.2.1 x.2.1.va.1 some:=fnS (λx=>zbH (M.uD jg dY) x.2.1) [fe C.aA,fe C.iI,fe Kv,fe zZ] [] (by intros;unfold M.uD M.Aa;exact zbI)
abbrev M.CP(op' a a1:Int)(a2 a3:aC)(a4:au)(a5:Bool)(b b1:Int)(b2 b3:aC)(b4:au)(b5:Bool)(k:Int×Int×aC×aC×Bool×au×Bool->Option R):=k (12,op',[],[],true,[[D.int .i64 a,D.int .i64 a1,D.str a2,D.str a3,D.sl false 5 a4],[D.int .i64 b,D.int .i64 b1,D.str b2,D.str b3,D.sl false 5 b4]],false)
def M.ni op' a a1 a2 a3 a4 a5 b b1 b2 b3 b4 b5:=M.CP op' a a1 a2 a3 a4 a5 b b1 b2 b3 b4 b5 some
def C.ni:=fTa S.ni (λx=>M.CP x.1.1 x.1.2.1.1 x.1.2.1.2.1 x.1.2.1.2.2.1 x.1.2.1.va.1 x.1.2.1.va.2.1 x.1.2.1.va.2.2.1 x.1.2.2.1.1 x.1.2.2.1.2.1 x.1.2.2.1.2.2.1 x.1.2.2.1.va.1 x.1.2.2.1.va.2.1 x.1.2.2.1.va.2.2.1)
def M.wJ(yU:zad)(bD:zaa)(r' oU:Bool)(c:au)(c1:Int)(c2:Bool)(c3:au)(k:Int×Int×aC×aC×Bool×au×Bool×au×Int×Bool×au->Option R):=cond (aj c3) ((yU c c1 c2 c3).bind λa=>cond a.2.2.2.2.2.2.2.2.2.1 (cond (aj a.2.2.2.2.2.2.2.2.2.2) (k (a.1,a.2.1,a.2.2.1,a.2.2.2.1,false,aB a.2.2.2.2.2.1,a.2.2.2.2.2.2)) none) (cond (aj a.2.2.2.2.2.2.2.2.2.2) ((M.aA a.2.2.2.2.2.2.2.1 a.2.2.2.2.2.2.2.2.1 a.2.2.2.2.2.2.2.2.2.1 a.2.2.2.2.2.2.2.2.2.2).bind λd=>cond (d.1 !=60) (cond (aj d.2.2.2.2) (k (a.1,a.2.1,a.2.2.1,a.2.2.2.1,false,aB a.2.2.2.2.2.1,a.2.2.2.2.2.2.1,d.2)) none) (cond (aj d.2.2.2.2) ((bD r' oU d.2.1 (i64.wrap (d.2.2.1+1)) d.2.2.2.1 d.2.2.2.2).bind λb=>(M.ni 60 a.1 a.2.1 a.2.2.1 a.2.2.2.1 (aB a.2.2.2.2.2.1) a.2.2.2.2.2.2.1 b.1 b.2.1 b.2.2.1 b.2.2.2.1 (aB b.2.2.2.2.2.1) b.2.2.2.2.2.2.1).bind λe=>cond (aj b.2.2.2.2.2.2.2.2.2.2) (k (e.1,e.2.1,e.2.2.1,e.2.2.2.1,false,aB e.2.2.2.2.2.1,e.2.2.2.2.2.2,b.2.2.2.2.2.2.2)) none) none)) none)) none
def C.aeL{yU:zad}{bD:zaa}(aeM:S.oW.ok X0 λx=>yU x.2.1.1 x.2.1.2.1 x.2.1.2.2.1 x.2.1.va.1)(o8:S.jQ.ok X0 λx=>bD x.1.2.1.1 x.1.2.1.2.1 x.2.1.1 x.2.1.2.1 x.2.1.2.2.1 x.2.1.va.1):S.qN.ok X0 λx=>M.wJ yU bD x.1.2.1.1 x.1.2.1.2.1 x.2.1.1 x.2.1.2.1 x.2.1.2.2.1 x.2.1.va.1 some:=fnS (λx=>zbH (M.wJ yU bD x.1.2.1.1 x.1.2.1.2.1) x.2.1) [fe aeM,fe C.aA,fe o8,fe C.ni] [] (by intros;unfold M.wJ;exact zbI)
abbrev M.yV(MG:Int×au×Int×Bool×au)(o9:zaa)(r' oU:Bool)(k:Int×Int×aC×aC×Bool×au×Bool×au×Int×Bool×au->Option R):=cond (aj MG.2.2.2.2) ((o9 r' oU MG.2.1 MG.2.2.1 MG.2.2.2.1 MG.2.2.2.2).bind λa=>cond (aj a.2.2.2.2.2.2.2.2.2.2) (k (a.1,a.2.1,a.2.2.1,a.2.2.2.1,false,aB a.2.2.2.2.2.1,a.2.2.2.2.2.2)) none) none
abbrev M.uP(MG:Int×au×Int×Bool×au)(bD:zaa)(r' oU:Bool)(k:Int×Int×aC×aC×Bool×au×Bool×au×Int×Bool×au->Option R):=cond (aj MG.2.2.2.2) ((bD r' oU MG.2.1 (i64.wrap (MG.2.2.1+1)) MG.2.2.2.1 MG.2.2.2.2).bind λa=>cond (aj a.2.2.2.2.2.2.2.2.2.2) (k (11,MG.1,[],[],true,[[D.int .i64 a.1,D.int .i64 a.2.1,D.str a.2.2.1,D.str a.2.2.2.1,D.sl false 5 (aB a.2.2.2.2.2.1)]],false,a.2.2.2.2.2.2.2)) none) none
def M.rQ(o9:zaa)(bD:zaa)(r' oU:Bool)(c:au)(c1:Int)(c2:Bool)(c3:au)(k:Int×Int×aC×aC×Bool×au×Bool×au×Int×Bool×au->Option R):=cond (aj c3) ((M.aA c c1 c2 c3).bind λa=>cond a.2.2.2.1 (M.yV a o9 r' oU k) (cond (a.1 !=55) (cond (a.1 !=56) (cond (a.1 !=61) (M.yV a o9 r' oU k) (M.uP a bD r' oU k)) (M.uP a bD r' oU k)) (M.uP a bD r' oU k))) none
def C.aaR{o9:zaa}{bD:zaa}(afH:S.qN.ok X0 λx=>o9 x.1.2.1.1 x.1.2.1.2.1 x.2.1.1 x.2.1.2.1 x.2.1.2.2.1 x.2.1.va.1)(o8:S.jQ.ok X0 λx=>bD x.1.2.1.1 x.1.2.1.2.1 x.2.1.1 x.2.1.2.1 x.2.1.2.2.1 x.2.1.va.1):S.jQ.ok X0 λx=>M.rQ o9 bD x.1.2.1.1 x.1.2.1.2.1 x.2.1.1 x.2.1.2.1 x.2.1.2.2.1 x.2.1.va.1 some:=fnS (λx=>zbH (M.rQ o9 bD x.1.2.1.1 x.1.2.1.2.1) x.2.1) [fe C.aA,fe afH,fe o8] [] (by intros;unfold M.rQ M.uP M.yV;exact zbI)
abbrev M.Kw(op':Int)(k:Int->Option R):=cond (op'==44) (k 3) (cond (op'==45) (k 4) (cond (op'==67) (k 6) (cond (op'==46) (k 6) (cond (op'==63) (k 7) (cond (op'==48) (k 7) (cond (op'==47) (k 7) (cond (op'==50) (k 7) (cond (op'==62) (k 7) (cond (op'==49) (k 7) (cond (op'==99) (k 8) (cond (op'==55) (k 9) (cond (op'==56) (k 9) (cond (op'==57) (k 10) (cond (op'==58) (k 10) (cond (op'==59) (k 10) (cond (op'==60) (k 12) (k 0)))))))))))))))))
def M.nO op':=M.Kw op' some
def C.nO:=fTa S.nO (λx=>M.Kw x.1.1)
def M.yX(bD:zaa)(x' o7:Bool)(qg uX:Int)(xB Dn:aC)(H7:Bool)(s:au×Int×Bool×Int×Int×aC×aC×au×Bool×au)(kn:au×Int×Bool×Int×Int×aC×aC×au×Bool×au->Option R)(ke:au×Int×Bool×Int×Int×aC×aC×au×Bool×au->Option R):Option R:=match s with
 |(v,v1,v2,KW,Pm,Uu,Ij,Nv,OE,QY)=>bif !v2 then(bif aj QY then((M.aA v v1 v2 QY).bind λa=>(M.nO a.1).bind λe=>bif e==10 then(bif aj a.2.2.2.2 then((M.aA a.2.1 a.2.2.1 a.2.2.2.1 a.2.2.2.2).bind λd=>bif aj d.2.2.2.2 then((bD x' o7 d.2.1 (i64.wrap (d.2.2.1+1)) d.2.2.2.1 d.2.2.2.2).bind λb=>(M.ni d.1 KW Pm Uu Ij Nv OE b.1 b.2.1 b.2.2.1 b.2.2.2.1 (aB b.2.2.2.2.2.1) b.2.2.2.2.2.2.1).bind λc=>kn (b.2.2.2.2.2.2.2.1,b.2.2.2.2.2.2.2.2.1,b.2.2.2.2.2.2.2.2.2.1,c.1,c.2.1,c.2.2.1,c.2.2.2.1,aB c.2.2.2.2.2.1,c.2.2.2.2.2.2,b.2.2.2.2.2.2.2.2.2.2)) else none) else none) else ke (a.2.1,a.2.2.1,a.2.2.2.1,KW,Pm,Uu,Ij,Nv,OE,a.2.2.2.2)) else none) else ke (v,v1,v2,KW,Pm,Uu,Ij,Nv,OE,QY)
def M.Ky bD x' o7 qg uX xB Dn H7 s:=M.yX bD x' o7 qg uX xB Dn H7 s (λs=>some (Sum.inl s)) λt=>some (Sum.inr t)
def M.xY bD x' o7 qg uX xB Dn H7 s:=fV (M.Ky bD x' o7 qg uX xB Dn H7) s
def F.xY{bD:zaa}(o8:S.jQ.ok X0 λx=>bD x.1.2.1.1 x.1.2.1.2.1 x.2.1.1 x.2.1.2.1 x.2.1.2.2.1 x.2.1.va.1):LE X0 203:=le 2 (IC zbl zbi) (λx=>(x.2.1.1,x.2.1.2.1,x.2.1.2.2.1,x.va.2.1.1,x.va.2.1.2.1,x.va.2.1.2.2.1,x.va.2.1.va.1,x.va.2.1.va.2.1,x.va.2.1.va.2.2.1,x.va.2.2.1)) (λx s=>(((),(),(),(),()),((s.1,s.2.1,s.2.2.1,(),()),(x.2.2.1.1,x.2.2.1.2.1,()),(x.va.1.1,x.va.1.2.1,x.va.1.2.2.1,x.va.1.va.1,(),x.va.1.va.2.2.1,()),(s.va.1,s.va.2.1,s.va.2.2.1,s.va.va.1,s.va.va.2.1,s.wc.1,()),s.wc.2,()))) (λx=> .leaf zaG (λt=>(Ex.exit 0,⟨[(0,V.ptr 100000 0),(3,V.ptr 300000 0),(4,V.ptr 300001 0),(5,V.ptr 300002 0),(20,ou false)],[(100000,zaY t 300003),(300000,Cell.box 80 [ou x.2.2.1.1,ou x.2.2.1.2.1]),(300001,Cell.box 77 [iY x.va.1.1,iY x.va.1.2.1,qU x.va.1.2.2.1,qU x.va.1.va.1,V.nil 5,ou x.va.1.va.2.2.1]),(300002,Cell.box 77 [iY t.va.1,iY t.va.2.1,qU t.va.2.2.1,qU t.va.va.1,ET 5 t.va.va.2.1,ou t.wc.1]),(300003,Cell.arr false true 0 1 t.wc.2)]⟩))) (λx=>M.yX bD x.2.2.1.1 x.2.2.1.2.1 x.va.1.1 x.va.1.2.1 x.va.1.2.2.1 x.va.1.va.1 x.va.1.va.2.2.1) [fe C.aA,fe C.nO,fe o8,fe C.ni] [] (by rintro _ _ ⟨_,_,_,_,_,_,_,_,_,_⟩ _ _<;>unfold M.yX<;>exact zbI)
def M.wL(bD:zaa)(r' oU:Bool)(c:au)(c1:Int)(c2:Bool)(c3:au)(k:Int×Int×aC×aC×Bool×au×Bool×au×Int×Bool×au->Option R):=cond (aj c3) ((bD r' oU c c1 c2 c3).bind λb=>(M.xY bD r' oU 0 0 [] [] false (b.2.2.2.2.2.2.2.1,b.2.2.2.2.2.2.2.2.1,b.2.2.2.2.2.2.2.2.2.1,b.1,b.2.1,b.2.2.1,b.2.2.2.1,aB b.2.2.2.2.2.1,b.2.2.2.2.2.2.1,b.2.2.2.2.2.2.2.2.2.2)).bind λa=>cond (aj a.2.2.2.2.2.2.2.2.2) (k (a.2.2.2.1,a.2.2.2.2.1,a.2.2.2.2.2.1,a.2.2.2.2.2.2.1,false,a.2.2.2.2.2.2.2.1,a.2.2.2.2.2.2.2.2.1,a.1,a.2.1,a.2.2.1,a.2.2.2.2.2.2.2.2.2)) none) none
def C.aeN{bD:zaa}(o8:S.jQ.ok X0 λx=>bD x.1.2.1.1 x.1.2.1.2.1 x.2.1.1 x.2.1.2.1 x.2.1.2.2.1 x.2.1.va.1):S.oO.ok X0 λx=>M.wL bD x.1.2.1.1 x.1.2.1.2.1 x.2.1.1 x.2.1.2.1 x.2.1.2.2.1 x.2.1.va.1 some:=fnS (λx=>zbH (M.wL bD x.1.2.1.1 x.1.2.1.2.1) x.2.1) [fe o8] [F.xY o8] (by intros;unfold M.wL;exact zbI)
def M.yY(ig:zaa)(x' o7:Bool)(qg uX:Int)(xB Dn:aC)(H7:Bool)(s:au×Int×Bool×Int×Int×aC×aC×au×Bool×au)(kn:au×Int×Bool×Int×Int×aC×aC×au×Bool×au->Option R)(ke:au×Int×Bool×Int×Int×aC×aC×au×Bool×au->Option R):Option R:=match s with
 |(v,v1,v2,KW,Pm,Uu,Ij,Nv,OE,QY)=>bif !v2 then(bif aj QY then((M.aA v v1 v2 QY).bind λb=>(M.nO b.1).bind λe=>bif e==9 then(bif aj b.2.2.2.2 then((M.aA b.2.1 b.2.2.1 b.2.2.2.1 b.2.2.2.2).bind λc=>bif aj c.2.2.2.2 then((ig x' o7 c.2.1 (i64.wrap (c.2.2.1+1)) c.2.2.2.1 c.2.2.2.2).bind λa=>(M.ni c.1 KW Pm Uu Ij Nv OE a.1 a.2.1 a.2.2.1 a.2.2.2.1 (aB a.2.2.2.2.2.1) a.2.2.2.2.2.2.1).bind λd=>kn (a.2.2.2.2.2.2.2.1,a.2.2.2.2.2.2.2.2.1,a.2.2.2.2.2.2.2.2.2.1,d.1,d.2.1,d.2.2.1,d.2.2.2.1,aB d.2.2.2.2.2.1,d.2.2.2.2.2.2,a.2.2.2.2.2.2.2.2.2.2)) else none) else none) else ke (b.2.1,b.2.2.1,b.2.2.2.1,KW,Pm,Uu,Ij,Nv,OE,b.2.2.2.2)) else none) else ke (v,v1,v2,KW,Pm,Uu,Ij,Nv,OE,QY)
def M.Kz ig x' o7 qg uX xB Dn H7 s:=M.yY ig x' o7 qg uX xB Dn H7 s (λs=>some (Sum.inl s)) λt=>some (Sum.inr t)
def M.xZ ig x' o7 qg uX xB Dn H7 s:=fV (M.Kz ig x' o7 qg uX xB Dn H7) s
def F.xZ{ig:zaa}(JH:S.oO.ok X0 λx=>ig x.1.2.1.1 x.1.2.1.2.1 x.2.1.1 x.2.1.2.1 x.2.1.2.2.1 x.2.1.va.1):LE X0 202:=le 2 (IC zbl zbi) (λx=>(x.2.1.1,x.2.1.2.1,x.2.1.2.2.1,x.va.2.1.1,x.va.2.1.2.1,x.va.2.1.2.2.1,x.va.2.1.va.1,x.va.2.1.va.2.1,x.va.2.1.va.2.2.1,x.va.2.2.1)) (λx s=>(((),(),(),(),()),((s.1,s.2.1,s.2.2.1,(),()),(x.2.2.1.1,x.2.2.1.2.1,()),(x.va.1.1,x.va.1.2.1,x.va.1.2.2.1,x.va.1.va.1,(),x.va.1.va.2.2.1,()),(s.va.1,s.va.2.1,s.va.2.2.1,s.va.va.1,s.va.va.2.1,s.wc.1,()),s.wc.2,()))) (λx=> .leaf zaG (λt=>(Ex.exit 0,⟨[(0,V.ptr 100000 0),(3,V.ptr 300000 0),(4,V.ptr 300001 0),(5,V.ptr 300002 0),(20,ou false)],[(100000,zaY t 300003),(300000,Cell.box 80 [ou x.2.2.1.1,ou x.2.2.1.2.1]),(300001,Cell.box 77 [iY x.va.1.1,iY x.va.1.2.1,qU x.va.1.2.2.1,qU x.va.1.va.1,V.nil 5,ou x.va.1.va.2.2.1]),(300002,Cell.box 77 [iY t.va.1,iY t.va.2.1,qU t.va.2.2.1,qU t.va.va.1,ET 5 t.va.va.2.1,ou t.wc.1]),(300003,Cell.arr false true 0 1 t.wc.2)]⟩))) (λx=>M.yY ig x.2.2.1.1 x.2.2.1.2.1 x.va.1.1 x.va.1.2.1 x.va.1.2.2.1 x.va.1.va.1 x.va.1.va.2.2.1) [fe C.aA,fe C.nO,fe JH,fe C.ni] [] (by rintro _ _ ⟨_,_,_,_,_,_,_,_,_,_⟩ _ _<;>unfold M.yY<;>exact zbI)
def M.wM(ig:zaa)(r' oU:Bool)(c:au)(c1:Int)(c2:Bool)(c3:au)(k:Int×Int×aC×aC×Bool×au×Bool×au×Int×Bool×au->Option R):=cond (aj c3) ((ig r' oU c c1 c2 c3).bind λb=>(M.xZ ig r' oU 0 0 [] [] false (b.2.2.2.2.2.2.2.1,b.2.2.2.2.2.2.2.2.1,b.2.2.2.2.2.2.2.2.2.1,b.1,b.2.1,b.2.2.1,b.2.2.2.1,aB b.2.2.2.2.2.1,b.2.2.2.2.2.2.1,b.2.2.2.2.2.2.2.2.2.2)).bind λa=>cond (aj a.2.2.2.2.2.2.2.2.2) (k (a.2.2.2.1,a.2.2.2.2.1,a.2.2.2.2.2.1,a.2.2.2.2.2.2.1,false,a.2.2.2.2.2.2.2.1,a.2.2.2.2.2.2.2.2.1,a.1,a.2.1,a.2.2.1,a.2.2.2.2.2.2.2.2.2)) none) none
def C.aeO{ig:zaa}(JH:S.oO.ok X0 λx=>ig x.1.2.1.1 x.1.2.1.2.1 x.2.1.1 x.2.1.2.1 x.2.1.2.2.1 x.2.1.va.1):S.jU.ok X0 λx=>M.wM ig x.1.2.1.1 x.1.2.1.2.1 x.2.1.1 x.2.1.2.1 x.2.1.2.2.1 x.2.1.va.1 some:=fnS (λx=>zbH (M.wM ig x.1.2.1.1 x.1.2.1.2.1) x.2.1) [fe JH] [F.xZ JH] (by intros;unfold M.wM;exact zbI)
abbrev M.EH(kind:Int)(k:Bool->Option R):=cond (kind==3) (k true) (cond (kind==4) (k true) (cond (kind==6) (k true) (cond (kind==7) (k true) (cond (kind==8) (k true) (cond (kind==32) (k true) (cond (kind==68) (k true) (k false)))))))
def M.mV kind:=M.EH kind some
def C.mV:=fTa S.mV (λx=>M.EH x.1.1)
def M.yZ(iq:zaa)(x' o7:Bool)(qg uX:Int)(xB Dn:aC)(H7:Bool)(s:au×Int×Bool×Int×Int×aC×aC×au×Bool×au)(kn:au×Int×Bool×Int×Int×aC×aC×au×Bool×au->Option R)(ke:au×Int×Bool×Int×Int×aC×aC×au×Bool×au->Option R):Option R:=match s with
 |(v,v1,v2,KW,Pm,Uu,Ij,Nv,OE,QY)=>bif !v2 then(bif aj QY then((M.aA v v1 v2 QY).bind λb=>(M.mV b.1).bind λd=>bif d then(bif aj b.2.2.2.2 then((iq x' o7 b.2.1 b.2.2.1 b.2.2.2.1 b.2.2.2.2).bind λa=>(M.ni 99 KW Pm Uu Ij Nv OE a.1 a.2.1 a.2.2.1 a.2.2.2.1 (aB a.2.2.2.2.2.1) a.2.2.2.2.2.2.1).bind λc=>kn (a.2.2.2.2.2.2.2.1,a.2.2.2.2.2.2.2.2.1,a.2.2.2.2.2.2.2.2.2.1,c.1,c.2.1,c.2.2.1,c.2.2.2.1,aB c.2.2.2.2.2.1,c.2.2.2.2.2.2,a.2.2.2.2.2.2.2.2.2.2)) else none) else ke (b.2.1,b.2.2.1,b.2.2.2.1,KW,Pm,Uu,Ij,Nv,OE,b.2.2.2.2)) else none) else ke (v,v1,v2,KW,Pm,Uu,Ij,Nv,OE,QY)
def M.KA iq x' o7 qg uX xB Dn H7 s:=M.yZ iq x' o7 qg uX xB Dn H7 s (λs=>some (Sum.inl s)) λt=>some (Sum.inr t)
def M.x8 iq x' o7 qg uX xB Dn H7 s:=fV (M.KA iq x' o7 qg uX xB Dn H7) s
def F.x8{iq:zaa}(JI:S.jU.ok X0 λx=>iq x.1.2.1.1 x.1.2.1.2.1 x.2.1.1 x.2.1.2.1 x.2.1.2.2.1 x.2.1.va.1):LE X0 201:=le 2 (IC zbl zbi) (λx=>(x.2.1.1,x.2.1.2.1,x.2.1.2.2.1,x.va.2.1.1,x.va.2.1.2.1,x.va.2.1.2.2.1,x.va.2.1.va.1,x.va.2.1.va.2.1,x.va.2.1.va.2.2.1,x.va.2.2.1)) (λx s=>(((),(),(),(),()),((s.1,s.2.1,s.2.2.1,(),()),(x.2.2.1.1,x.2.2.1.2.1,()),(x.va.1.1,x.va.1.2.1,x.va.1.2.2.1,x.va.1.va.1,(),x.va.1.va.2.2.1,()),(s.va.1,s.va.2.1,s.va.2.2.1,s.va.va.1,s.va.va.2.1,s.wc.1,()),s.wc.2,()))) (λx=> .leaf zaG (λt=>(Ex.exit 0,⟨[(0,V.ptr 100000 0),(3,V.ptr 300000 0),(4,V.ptr 300001 0),(5,V.ptr 300002 0),(18,ou false)],[(100000,zaY t 300003),(300000,Cell.box 80 [ou x.2.2.1.1,ou x.2.2.1.2.1]),(300001,Cell.box 77 [iY x.va.1.1,iY x.va.1.2.1,qU x.va.1.2.2.1,qU x.va.1.va.1,V.nil 5,ou x.va.1.va.2.2.1]),(300002,Cell.box 77 [iY t.va.1,iY t.va.2.1,qU t.va.2.2.1,qU t.va.va.1,ET 5 t.va.va.2.1,ou t.wc.1]),(300003,Cell.arr false true 0 1 t.wc.2)]⟩))) (λx=>M.yZ iq x.2.2.1.1 x.2.2.1.2.1 x.va.1.1 x.va.1.2.1 x.va.1.2.2.1 x.va.1.va.1 x.va.1.va.2.2.1) [fe C.aA,fe C.mV,fe JI,fe C.ni] [] (by rintro _ _ ⟨_,_,_,_,_,_,_,_,_,_⟩ _ _<;>unfold M.yZ<;>exact zbI)
def M.wO(iq:zaa)(r' oU:Bool)(c:au)(c1:Int)(c2:Bool)(c3:au)(k:Int×Int×aC×aC×Bool×au×Bool×au×Int×Bool×au->Option R):=cond (aj c3) ((iq r' oU c c1 c2 c3).bind λb=>(M.x8 iq r' oU 0 0 [] [] false (b.2.2.2.2.2.2.2.1,b.2.2.2.2.2.2.2.2.1,b.2.2.2.2.2.2.2.2.2.1,b.1,b.2.1,b.2.2.1,b.2.2.2.1,aB b.2.2.2.2.2.1,b.2.2.2.2.2.2.1,b.2.2.2.2.2.2.2.2.2.2)).bind λa=>cond (aj a.2.2.2.2.2.2.2.2.2) (k (a.2.2.2.1,a.2.2.2.2.1,a.2.2.2.2.2.1,a.2.2.2.2.2.2.1,false,a.2.2.2.2.2.2.2.1,a.2.2.2.2.2.2.2.2.1,a.1,a.2.1,a.2.2.1,a.2.2.2.2.2.2.2.2.2)) none) none
def C.aeP{iq:zaa}(JI:S.jU.ok X0 λx=>iq x.1.2.1.1 x.1.2.1.2.1 x.2.1.1 x.2.1.2.1 x.2.1.2.2.1 x.2.1.va.1):S.qO.ok X0 λx=>M.wO iq x.1.2.1.1 x.1.2.1.2.1 x.2.1.1 x.2.1.2.1 x.2.1.2.2.1 x.2.1.va.1 some:=fnS (λx=>zbH (M.wO iq x.1.2.1.1 x.1.2.1.2.1) x.2.1) [fe JI] [F.x8 JI] (by intros;unfold M.wO;exact zbI)
abbrev M.wP(Yg:Int×au×Int×Bool×au)(nP:zaa)(r' oU:Bool)(xk:Int×Int×aC×aC×Bool×au×Bool×au×Int×Bool×au)(k:Int×Int×aC×aC×Bool×au×Bool×au×Int×Bool×au->Option R):=cond (aj Yg.2.2.2.2) ((M.aA Yg.2.1 Yg.2.2.1 Yg.2.2.2.1 Yg.2.2.2.2).bind λc=>cond (aj c.2.2.2.2) ((nP r' oU c.2.1 (i64.wrap (c.2.2.1+1)) c.2.2.2.1 c.2.2.2.2).bind λa=>(M.ni c.1 xk.1 xk.2.1 xk.2.2.1 xk.2.2.2.1 (aB xk.2.2.2.2.2.1) xk.2.2.2.2.2.2.1 a.1 a.2.1 a.2.2.1 a.2.2.2.1 (aB a.2.2.2.2.2.1) a.2.2.2.2.2.2.1).bind λb=>cond (aj a.2.2.2.2.2.2.2.2.2.2) (k (b.1,b.2.1,b.2.2.1,b.2.2.2.1,false,aB b.2.2.2.2.2.1,b.2.2.2.2.2.2,a.2.2.2.2.2.2.2)) none) none) none
def M.pF(nP:zaa)(r' oU:Bool)(c:au)(c1:Int)(c2:Bool)(c3:au)(k:Int×Int×aC×aC×Bool×au×Bool×au×Int×Bool×au->Option R):=cond (aj c3) ((nP r' oU c c1 c2 c3).bind λa=>cond a.2.2.2.2.2.2.2.2.2.1 (cond (aj a.2.2.2.2.2.2.2.2.2.2) (k (a.1,a.2.1,a.2.2.1,a.2.2.2.1,false,aB a.2.2.2.2.2.1,a.2.2.2.2.2.2)) none) (cond (aj a.2.2.2.2.2.2.2.2.2.2) ((M.aA a.2.2.2.2.2.2.2.1 a.2.2.2.2.2.2.2.2.1 a.2.2.2.2.2.2.2.2.2.1 a.2.2.2.2.2.2.2.2.2.2).bind λb=>(M.nO b.1).bind λe=>cond (e !=7) (cond (aj b.2.2.2.2) (k (a.1,a.2.1,a.2.2.1,a.2.2.2.1,false,aB a.2.2.2.2.2.1,a.2.2.2.2.2.2.1,b.2)) none) (cond oU (cond (aj b.2.2.2.2) ((M.aA b.2.1 b.2.2.1 b.2.2.2.1 b.2.2.2.2).bind λd=>cond (d.1==62) (cond (aj d.2.2.2.2) (k (a.1,a.2.1,a.2.2.1,a.2.2.2.1,false,aB a.2.2.2.2.2.1,a.2.2.2.2.2.2.1,d.2)) none) (M.wP d nP r' oU a k)) none) (M.wP b nP r' oU a k))) none)) none
def C.Y3{nP:zaa}(afI:S.qO.ok X0 λx=>nP x.1.2.1.1 x.1.2.1.2.1 x.2.1.1 x.2.1.2.1 x.2.1.2.2.1 x.2.1.va.1):S.lN.ok X0 λx=>M.pF nP x.1.2.1.1 x.1.2.1.2.1 x.2.1.1 x.2.1.2.1 x.2.1.2.2.1 x.2.1.va.1 some:=fnS (λx=>zbH (M.pF nP x.1.2.1.1 x.1.2.1.2.1) x.2.1) [fe afI,fe C.aA,fe C.nO,fe C.ni] [] (by intros;unfold M.pF M.wP;exact zbI)
abbrev M.y5(Yh:Int×au×Int×Bool×au)(jS:zaa)(r' oU:Bool)(BA:Int×Int×aC×aC×Bool×au×Bool×au×Int×Bool×au)(k:Int×Int×aC×aC×Bool×au×Bool×au×Int×Bool×au->Option R):=cond (aj Yh.2.2.2.2) ((M.aA Yh.2.1 Yh.2.2.1 Yh.2.2.2.1 Yh.2.2.2.2).bind λc=>cond (aj c.2.2.2.2) ((jS r' oU c.2.1 (i64.wrap (c.2.2.1+1)) c.2.2.2.1 c.2.2.2.2).bind λa=>(M.ni c.1 BA.1 BA.2.1 BA.2.2.1 BA.2.2.2.1 (aB BA.2.2.2.2.2.1) BA.2.2.2.2.2.2.1 a.1 a.2.1 a.2.2.1 a.2.2.2.1 (aB a.2.2.2.2.2.1) a.2.2.2.2.2.2.1).bind λb=>cond (aj a.2.2.2.2.2.2.2.2.2.2) (k (b.1,b.2.1,b.2.2.1,b.2.2.2.1,false,aB b.2.2.2.2.2.1,b.2.2.2.2.2.2,a.2.2.2.2.2.2.2)) none) none) none
def M.rU(jS:zaa)(r' oU:Bool)(c:au)(c1:Int)(c2:Bool)(c3:au)(k:Int×Int×aC×aC×Bool×au×Bool×au×Int×Bool×au->Option R):=cond (aj c3) ((jS r' oU c c1 c2 c3).bind λa=>cond a.2.2.2.2.2.2.2.2.2.1 (cond (aj a.2.2.2.2.2.2.2.2.2.2) (k (a.1,a.2.1,a.2.2.1,a.2.2.2.1,false,aB a.2.2.2.2.2.1,a.2.2.2.2.2.2)) none) (cond (aj a.2.2.2.2.2.2.2.2.2.2) ((M.aA a.2.2.2.2.2.2.2.1 a.2.2.2.2.2.2.2.2.1 a.2.2.2.2.2.2.2.2.2.1 a.2.2.2.2.2.2.2.2.2.2).bind λb=>cond (b.1 !=67) (cond (aj b.2.2.2.2) ((M.aA b.2.1 b.2.2.1 b.2.2.2.1 b.2.2.2.2).bind λd=>cond (d.1 !=46) (cond (aj d.2.2.2.2) (k (a.1,a.2.1,a.2.2.1,a.2.2.2.1,false,aB a.2.2.2.2.2.1,a.2.2.2.2.2.2.1,d.2)) none) (M.y5 d jS r' oU a k)) none) (M.y5 b jS r' oU a k)) none)) none
def C.aaX{jS:zaa}(ZT:S.lN.ok X0 λx=>jS x.1.2.1.1 x.1.2.1.2.1 x.2.1.1 x.2.1.2.1 x.2.1.2.2.1 x.2.1.va.1):S.mM.ok X0 λx=>M.rU jS x.1.2.1.1 x.1.2.1.2.1 x.2.1.1 x.2.1.2.1 x.2.1.2.2.1 x.2.1.va.1 some:=fnS (λx=>zbH (M.rU jS x.1.2.1.1 x.1.2.1.2.1) x.2.1) [fe ZT,fe C.aA,fe C.ni] [] (by intros;unfold M.rU M.y5;exact zbI)
def M.lS(aS:zaf)(cu:zaa)(s:zaN⊕zaH⊕zaI)(kn:zaN⊕zaH⊕zaI->Option R)(ke:zaQ⊕zaH⊕zaI->Option R):Option R:=match s with
 | .inl (group,v45,v,v1,v2,x',o7,qg,uX,xB,Dn,H7,KW,Pm,Uu,Ij,Nv,OE)=>bif !v2 then(bif aj OE then((M.aA v v1 v2 OE).bind λa=>bif a.1==24 then(bif !x' then(bif Nat.ble 1 group.length then(bif aj a.2.2.2.2 then((M.bF a.2.1 (i64.wrap (a.2.2.1+1)) a.2.2.2.1 a.2.2.2.2).bind λf=>kn (.inr (.inl (f.2.1,f.2.2.1,f.2.2.2.1,x',o7,qg,uX,xB,Dn,H7,13,0,f.1,[],group,false,f.2.2.2.2)))) else none) else none) else ke (.inl (group,a.2.1,a.2.2.1,a.2.2.2.1,x',o7,qg,uX,xB,Dn,H7,KW,Pm,Uu,Ij,Nv,a.2.2.2.2))) else ke (.inl (group,a.2.1,a.2.2.1,a.2.2.2.1,x',o7,qg,uX,xB,Dn,H7,KW,Pm,Uu,Ij,Nv,a.2.2.2.2))) else none) else(ke (.inl (group,v,v1,v2,x',o7,qg,uX,xB,Dn,H7,KW,Pm,Uu,Ij,Nv,OE)))
 | .inr (.inl (v,v1,v2,x',o7,qg,uX,xB,Dn,H7,KW,Pm,Uu,Ij,Nv,OE,QY))=>bif !v2 then(bif aj QY then((M.aA v v1 v2 QY).bind λc=>bif c.1==24 then(bif !x' then(bif aj c.2.2.2.2 then((M.bF c.2.1 (i64.wrap (c.2.2.1+1)) c.2.2.2.1 c.2.2.2.2).bind λd=>kn (.inr (.inr (d.2.1,d.2.2.1,d.2.2.2.1,x',o7,qg,uX,xB,Dn,H7,13,0,d.1,[],false,d.2.2.2.2,[[D.int .i64 KW,D.int .i64 Pm,D.str Uu,D.str Ij,D.sl false 5 Nv]])))) else none) else ke (.inr (.inl (c.2.1,c.2.2.1,c.2.2.2.1,x',o7,qg,uX,xB,Dn,H7,KW,Pm,Uu,Ij,Nv,OE,c.2.2.2.2)))) else ke (.inr (.inl (c.2.1,c.2.2.1,c.2.2.2.1,x',o7,qg,uX,xB,Dn,H7,KW,Pm,Uu,Ij,Nv,OE,c.2.2.2.2)))) else none) else(ke (.inr (.inl (v,v1,v2,x',o7,qg,uX,xB,Dn,H7,KW,Pm,Uu,Ij,Nv,OE,QY))))
 | .inr (.inr (v,v1,v2,x',o7,qg,uX,xB,Dn,H7,KW,Pm,Uu,Ij,Nv,OE,QY))=>bif !v2 then(bif aj OE then((M.aA v v1 v2 OE).bind λb=>bif b.1==24 then(bif !x' then(bif aj b.2.2.2.2 then((M.bF b.2.1 (i64.wrap (b.2.2.1+1)) b.2.2.2.1 b.2.2.2.2).bind λe=>kn (.inr (.inr (e.2.1,e.2.2.1,e.2.2.2.1,x',o7,qg,uX,xB,Dn,H7,13,0,e.1,[],false,e.2.2.2.2,[[D.int .i64 KW,D.int .i64 Pm,D.str Uu,D.str Ij,D.sl true 5 QY]])))) else none) else ke (.inr (.inr (b.2.1,b.2.2.1,b.2.2.2.1,x',o7,qg,uX,xB,Dn,H7,KW,Pm,Uu,Ij,Nv,b.2.2.2.2,QY)))) else ke (.inr (.inr (b.2.1,b.2.2.1,b.2.2.2.1,x',o7,qg,uX,xB,Dn,H7,KW,Pm,Uu,Ij,Nv,b.2.2.2.2,QY)))) else none) else ke (.inr (.inr (v,v1,v2,x',o7,qg,uX,xB,Dn,H7,KW,Pm,Uu,Ij,Nv,OE,QY)))
def M.iw aS cu s:=M.lS aS cu s (λs=>some (Sum.inl s)) λt=>some (Sum.inr t)
def M.jh aS cu s:=fV (M.iw aS cu) s
def F.jh{aS:zaf}{cu:zaa}(uz:S.jm.ok X0 λx=>aS x.1.2.1 x.2.1.1 x.2.1.2.1 x.2.1.2.2.1 x.2.1.va.1)(MO:S.mM.ok X0 λx=>cu x.1.2.1.1 x.1.2.1.2.1 x.2.1.1 x.2.1.2.1 x.2.1.2.2.1 x.2.1.va.1):LE X0 187:=le 8 (pOr (IC [dD 0 (pP 100000 0),dD 3 (pP 300000 0),dD 4 (pP 300001 0),dD 5 (pP 300002 0),dD 6 (pL false 5),dD 45 pB] [dD 100000 zbv,dD 300000 (cB 80 [pB,pB]),dD 300001 (cB 77 [pI,pI,pS,pS,VL 5,pB]),dD 300002 (cB 77 [pI,pI,pS,pS,VL 5,pB]),dD 300003 zbj]) (pOr (IC zby zbi) (IC zby [dD 100000 zbv,dD 300000 (cB 80 [pB,pB]),dD 300001 (cB 77 [pI,pI,pS,pS,VL 5,pB]),dD 300002 (cB 77 [pI,pI,pS,pS,pO 300004 0,pB]),dD 300003 zbj,dD 300004 zbp]))) (σ:=zaN⊕zaH⊕zaI) (λx=>(match x with| .inl x=> .inl ((x.1.va.2.1,x.1.va.2.2.1,x.2.1.1,x.2.1.2.1,x.2.1.2.2.1,x.2.2.1.1,x.2.2.1.2.1,x.va.1.1,x.va.1.2.1,x.va.1.2.2.1,x.va.1.va.1,x.va.1.va.2.2.1,x.va.2.1.1,x.va.2.1.2.1,x.va.2.1.2.2.1,x.va.2.1.va.1,x.va.2.1.va.2.2.1,x.va.2.2.1))| .inr x=>(match x with| .inl x=> .inr (.inl ((x.2.1.1,x.2.1.2.1,x.2.1.2.2.1,x.2.2.1.1,x.2.2.1.2.1,x.va.1.1,x.va.1.2.1,x.va.1.2.2.1,x.va.1.va.1,x.va.1.va.2.2.1,x.va.2.1.1,x.va.2.1.2.1,x.va.2.1.2.2.1,x.va.2.1.va.1,x.va.2.1.va.2.1,x.va.2.1.va.2.2.1,x.va.2.2.1)))| .inr x=> .inr (.inr ((x.2.1.1,x.2.1.2.1,x.2.1.2.2.1,x.2.2.1.1,x.2.2.1.2.1,x.va.1.1,x.va.1.2.1,x.va.1.2.2.1,x.va.1.va.1,x.va.1.va.2.2.1,x.va.2.1.1,x.va.2.1.2.1,x.va.2.1.2.2.1,x.va.2.1.va.1,x.va.2.1.va.2.2.1,x.va.2.2.1,x.va.va.1)))))) (λx s=>(match s with| .inl s=> .inl ((((),(),(),(),s.1,s.2.1,()),((s.2.2.1,s.va.1,s.va.2.1,(),()),(s.va.2.2.1,s.va.va.1,()),(s.va.va.2.1,s.wc.1,s.wc.2.1,s.wc.2.2.1,(),s.wc.va.1,()),(s.wc.va.2.1,s.wc.va.2.2.1,s.wc.va.va.1,s.wc.va.va.2.1,(),s.wc.wc.1,()),s.wc.wc.2,())))| .inr s=>(match s with| .inl s=> .inr (.inl ((((),(),(),(),(),()),((s.1,s.2.1,s.2.2.1,(),()),(s.va.1,s.va.2.1,()),(s.va.2.2.1,s.va.va.1,s.va.va.2.1,s.wc.1,(),s.wc.2.1,()),(s.wc.2.2.1,s.wc.va.1,s.wc.va.2.1,s.wc.va.2.2.1,s.wc.va.va.1,s.wc.va.va.2.1,()),s.wc.wc,()))))| .inr s=> .inr (.inr ((((),(),(),(),(),()),((s.1,s.2.1,s.2.2.1,(),()),(s.va.1,s.va.2.1,()),(s.va.2.2.1,s.va.va.1,s.va.va.2.1,s.wc.1,(),s.wc.2.1,()),(s.wc.2.2.1,s.wc.va.1,s.wc.va.2.1,s.wc.va.2.2.1,(),s.wc.va.va.1,()),s.wc.va.va.2.1,s.wc.wc,()))))))) (λx=> .sum (.leaf zaQ (λt=>(Ex.exit 0,⟨[(0,V.ptr 100000 0),(3,V.ptr 300000 0),(4,V.ptr 300001 0),(5,V.ptr 300002 0),(6,ET 5 t.1),(65,ou false)],[(100000,Cell.box 49 [ET 3 t.2.1,iY t.2.2.1,ou t.va.1,V.own 300003 0]),(300000,Cell.box 80 [ou t.va.2.1,ou t.va.2.2.1]),(300001,Cell.box 77 [iY t.va.va.1,iY t.va.va.2.1,qU t.wc.1,qU t.wc.2.1,V.nil 5,ou t.wc.2.2.1]),(300002,Cell.box 77 [iY t.wc.va.1,iY t.wc.va.2.1,qU t.wc.va.2.2.1,qU t.wc.va.va.1,V.nil 5,ou t.wc.va.va.2.1]),(300003,Cell.arr false true 0 1 t.wc.wc)]⟩))) (.sum (.leaf zaH (λt=>(Ex.exit 0,⟨[(0,V.ptr 100000 0),(3,V.ptr 300000 0),(4,V.ptr 300001 0),(5,V.ptr 300002 0),(6,V.nil 5),(65,ou false)],[(100000,zaY t 300003),(300000,Cell.box 80 [ou t.va.1,ou t.va.2.1]),(300001,Cell.box 77 [iY t.va.2.2.1,iY t.va.va.1,qU t.va.va.2.1,qU t.wc.1,V.nil 5,ou t.wc.2.1]),(300002,Cell.box 77 [iY t.wc.2.2.1,iY t.wc.va.1,qU t.wc.va.2.1,qU t.wc.va.2.2.1,ET 5 t.wc.va.va.1,ou t.wc.va.va.2.1]),(300003,Cell.arr false true 0 1 t.wc.wc)]⟩))) (.leaf zaI (λt=>(Ex.exit 0,⟨[(0,V.ptr 100000 0),(3,V.ptr 300000 0),(4,V.ptr 300001 0),(5,V.ptr 300002 0),(6,V.nil 5),(65,ou false)],[(100000,zaY t 300003),(300000,Cell.box 80 [ou t.va.1,ou t.va.2.1]),(300001,Cell.box 77 [iY t.va.2.2.1,iY t.va.va.1,qU t.va.va.2.1,qU t.wc.1,V.nil 5,ou t.wc.2.1]),(300002,Cell.box 77 [iY t.wc.2.2.1,iY t.wc.va.1,qU t.wc.va.2.1,qU t.wc.va.2.2.1,V.own 300004 0,ou t.wc.va.va.1]),(300003,Cell.arr false true 0 1 t.wc.va.va.2.1),(300004,Cell.arr false false 0 5 t.wc.wc)]⟩))))) (λx=>M.lS aS cu) [fe C.aA,fe C.bF] [] (by rintro _ _ (⟨_,_,_,_,_,_,_,_,_,_,_,_,_,_,_,_,_,_⟩|⟨_,_,_,_,_,_,_,_,_,_,_,_,_,_,_,_,_⟩|⟨_,_,_,_,_,_,_,_,_,_,_,_,_,_,_,_,_⟩) _ _<;>unfold M.lS<;>exact zbI) (hE:=by intro _ _ s _;rcases s with s|s|s<;>kernel_rfl)
abbrev M.EI(Zv:au×au×Int×Bool×Bool×Bool×Int×Int×aC×aC×Bool×Int×Int×aC×aC×Bool×au)(k:Int×Int×aC×aC×Bool×au×Bool×au×Int×Bool×au->Option R):=cond (aj Zv.2.2.2.2.2.2.2.2.2.2.2.2.2.2.2.2) (k (Zv.2.2.2.2.2.2.2.2.2.2.2.1,Zv.2.2.2.2.2.2.2.2.2.2.2.2.1,Zv.2.2.2.2.2.2.2.2.2.2.2.2.2.1,Zv.2.2.2.2.2.2.2.2.2.2.2.2.2.2.1,true,[],Zv.2.2.2.2.2.2.2.2.2.2.2.2.2.2.2.1,Zv.2.1,Zv.2.2.1,Zv.2.2.2.1,Zv.2.2.2.2.2.2.2.2.2.2.2.2.2.2.2.2)) none
abbrev M.EJ(Yi:au×Int×Bool×Bool×Bool×Int×Int×aC×aC×Bool×Int×Int×aC×aC×Bool×au×au)(k:Int×Int×aC×aC×Bool×au×Bool×au×Int×Bool×au->Option R):=cond (aj Yi.2.2.2.2.2.2.2.2.2.2.2.2.2.2.2.1) (k (Yi.2.2.2.2.2.2.2.2.2.2.1,Yi.2.2.2.2.2.2.2.2.2.2.2.1,Yi.2.2.2.2.2.2.2.2.2.2.2.2.1,Yi.2.2.2.2.2.2.2.2.2.2.2.2.2.1,true,Yi.2.2.2.2.2.2.2.2.2.2.2.2.2.2.2.2,Yi.2.2.2.2.2.2.2.2.2.2.2.2.2.2.1,Yi.1,Yi.2.1,Yi.2.2.1,Yi.2.2.2.2.2.2.2.2.2.2.2.2.2.2.2.1)) none
abbrev M.EK(Yj:au×Int×Bool×Bool×Bool×Int×Int×aC×aC×Bool×Int×Int×aC×aC×au×Bool×au)(k:Int×Int×aC×aC×Bool×au×Bool×au×Int×Bool×au->Option R):=cond (aj Yj.2.2.2.2.2.2.2.2.2.2.2.2.2.2.2.2) (k (Yj.2.2.2.2.2.2.2.2.2.2.1,Yj.2.2.2.2.2.2.2.2.2.2.2.1,Yj.2.2.2.2.2.2.2.2.2.2.2.2.1,Yj.2.2.2.2.2.2.2.2.2.2.2.2.2.1,false,Yj.2.2.2.2.2.2.2.2.2.2.2.2.2.2.1,Yj.2.2.2.2.2.2.2.2.2.2.2.2.2.2.2.1,Yj.1,Yj.2.1,Yj.2.2.1,Yj.2.2.2.2.2.2.2.2.2.2.2.2.2.2.2.2)) none
abbrev M.wQ(aS:zaf)(cu:zaa)(Zw:Int×Int×aC×aC×Bool×au×Bool×au×Int×Bool×au)(r' oU:Bool)(k:Int×Int×aC×aC×Bool×au×Bool×au×Int×Bool×au->Option R):=(M.jh aS cu (.inr (.inl (Zw.2.2.2.2.2.2.2.1,Zw.2.2.2.2.2.2.2.2.1,Zw.2.2.2.2.2.2.2.2.2.1,r',oU,0,0,[],[],false,Zw.1,Zw.2.1,Zw.2.2.1,Zw.2.2.2.1,aB Zw.2.2.2.2.2.1,Zw.2.2.2.2.2.2.1,Zw.2.2.2.2.2.2.2.2.2.2)))).bind λd=>kD d (λc=>cond (aj c.2.2.2.2.2.2.2.2.2.2.2.2.2.2.2.2) (k (c.2.2.2.2.2.2.2.2.2.2.2.1,c.2.2.2.2.2.2.2.2.2.2.2.2.1,c.2.2.2.2.2.2.2.2.2.2.2.2.2.1,c.2.2.2.2.2.2.2.2.2.2.2.2.2.2.1,true,[],c.2.2.2.2.2.2.2.2.2.2.2.2.2.2.2.1,c.2.1,c.2.2.1,c.2.2.2.1,c.2.2.2.2.2.2.2.2.2.2.2.2.2.2.2.2)) none) λf=>kD f (λb=>cond (aj b.2.2.2.2.2.2.2.2.2.2.2.2.2.2.2.2) (k (b.2.2.2.2.2.2.2.2.2.2.1,b.2.2.2.2.2.2.2.2.2.2.2.1,b.2.2.2.2.2.2.2.2.2.2.2.2.1,b.2.2.2.2.2.2.2.2.2.2.2.2.2.1,false,b.2.2.2.2.2.2.2.2.2.2.2.2.2.2.1,b.2.2.2.2.2.2.2.2.2.2.2.2.2.2.2.1,b.1,b.2.1,b.2.2.1,b.2.2.2.2.2.2.2.2.2.2.2.2.2.2.2.2)) none) λe=>letE e λa=>cond (aj a.2.2.2.2.2.2.2.2.2.2.2.2.2.2.2.1) (k (a.2.2.2.2.2.2.2.2.2.2.1,a.2.2.2.2.2.2.2.2.2.2.2.1,a.2.2.2.2.2.2.2.2.2.2.2.2.1,a.2.2.2.2.2.2.2.2.2.2.2.2.2.1,true,a.2.2.2.2.2.2.2.2.2.2.2.2.2.2.2.2,a.2.2.2.2.2.2.2.2.2.2.2.2.2.2.1,a.1,a.2.1,a.2.2.1,a.2.2.2.2.2.2.2.2.2.2.2.2.2.2.2.1)) none
def M.x9(aS:zaf)(cu:zaa)(r' oU:Bool)(c:au)(c1:Int)(c2:Bool)(c3:au)(k:Int×Int×aC×aC×Bool×au×Bool×au×Int×Bool×au->Option R):=cond (!c2) (cond (aj c3) ((M.aA c c1 c2 c3).bind λe=>cond (e.1==32) (cond (!r') (cond (aj e.2.2.2.2) ((M.nH e.2.1 e.2.2.1 e.2.2.2.1 e.2.2.2.2).bind λa=>cond a.1 (cond (aj a.2.2.2.2) ((aS 33 a.2.1 (i64.wrap (a.2.2.1+1)) a.2.2.2.1 a.2.2.2.2).bind λf=>cond (!f.2.2.2.2.1) (cond (aj f.2.2.2.2.2) ((M.aA f.2.2.1 f.2.2.2.1 f.2.2.2.2.1 f.2.2.2.2.2).bind λd=>cond (d.1 !=24) (cond (aj d.2.2.2.2) ((M.jH d.2.1 d.2.2.1 d.2.2.2.1 d.2.2.2.2).bind λb=>cond (aj b.2.2.2.2.2.2.2.2.2.2) (k (b.1,b.2.1,b.2.2.1,b.2.2.2.1,false,aB b.2.2.2.2.2.1,b.2.2.2.2.2.2)) none) none) ((M.jh aS cu (.inl (aB f.2.1,false,d.2.1,d.2.2.1,d.2.2.2.1,r',oU,0,0,[],[],false,0,0,[],[],false,d.2.2.2.2))).bind λp=>kD p (λt=>M.EI t k) λh=>kD h (λu=>M.EK u k) λg=>letE g λv=>M.EJ v k)) none) ((M.jh aS cu (.inl (aB f.2.1,false,f.2.2.1,f.2.2.2.1,f.2.2.2.2.1,r',oU,0,0,[],[],false,0,0,[],[],false,f.2.2.2.2.2))).bind λj=>kD j (λq=>M.EI q k) λo=>kD o (λs=>M.EK s k) λi=>letE i λm=>M.EJ m k)) none) (cond (aj a.2.2.2.2) ((cu r' oU a.2.1 a.2.2.1 a.2.2.2.1 a.2.2.2.2).bind λw=>M.wQ aS cu w r' oU k) none)) none) (cond (aj e.2.2.2.2) ((cu r' oU e.2.1 e.2.2.1 e.2.2.2.1 e.2.2.2.2).bind λr=>M.wQ aS cu r r' oU k) none)) (cond (aj e.2.2.2.2) ((cu r' oU e.2.1 e.2.2.1 e.2.2.2.1 e.2.2.2.2).bind λl=>M.wQ aS cu l r' oU k) none)) none) (cond (aj c3) ((cu r' oU c c1 c2 c3).bind λn=>M.wQ aS cu n r' oU k) none)
def C.afJ{aS:zaf}{cu:zaa}(uz:S.jm.ok X0 λx=>aS x.1.2.1 x.2.1.1 x.2.1.2.1 x.2.1.2.2.1 x.2.1.va.1)(MO:S.mM.ok X0 λx=>cu x.1.2.1.1 x.1.2.1.2.1 x.2.1.1 x.2.1.2.1 x.2.1.2.2.1 x.2.1.va.1):S.qA.ok X0 λx=>M.x9 aS cu x.1.2.1.1 x.1.2.1.2.1 x.2.1.1 x.2.1.2.1 x.2.1.2.2.1 x.2.1.va.1 some:=fnS (λx=>zbH (M.x9 aS cu x.1.2.1.1 x.1.2.1.2.1) x.2.1) [fe C.aA,fe C.nH,fe uz,fe C.jH,fe MO] [F.jh uz MO] (by intros;unfold M.x9 M.wQ M.EK M.EJ M.EI;exact zbI)
def M.y7(iP:zaa)(x' o7:Bool)(qg uX:Int)(xB Dn:aC)(H7:Bool)(s:au×Int×Bool×Int×Int×aC×aC×au×Bool×au)(kn:au×Int×Bool×Int×Int×aC×aC×au×Bool×au->Option R)(ke:au×Int×Bool×Int×Int×aC×aC×au×Bool×au->Option R):Option R:=match s with
 |(v,v1,v2,KW,Pm,Uu,Ij,Nv,OE,QY)=>bif !v2 then(bif aj QY then((M.aA v v1 v2 QY).bind λa=>bif a.1==45 then(bif aj a.2.2.2.2 then((M.aP a.2.1 (i64.wrap (a.2.2.1+1)) a.2.2.2.1 a.2.2.2.2).bind λd=>bif aj d.2.2.2 then((iP x' o7 d.1 d.2.1 d.2.2.1 d.2.2.2).bind λb=>(M.ni 45 KW Pm Uu Ij Nv OE b.1 b.2.1 b.2.2.1 b.2.2.2.1 (aB b.2.2.2.2.2.1) b.2.2.2.2.2.2.1).bind λc=>kn (b.2.2.2.2.2.2.2.1,b.2.2.2.2.2.2.2.2.1,b.2.2.2.2.2.2.2.2.2.1,c.1,c.2.1,c.2.2.1,c.2.2.2.1,aB c.2.2.2.2.2.1,c.2.2.2.2.2.2,b.2.2.2.2.2.2.2.2.2.2)) else none) else none) else ke (a.2.1,a.2.2.1,a.2.2.2.1,KW,Pm,Uu,Ij,Nv,OE,a.2.2.2.2)) else none) else ke (v,v1,v2,KW,Pm,Uu,Ij,Nv,OE,QY)
def M.KC iP x' o7 qg uX xB Dn H7 s:=M.y7 iP x' o7 qg uX xB Dn H7 s (λs=>some (Sum.inl s)) λt=>some (Sum.inr t)
def M.yc iP x' o7 qg uX xB Dn H7 s:=fV (M.KC iP x' o7 qg uX xB Dn H7) s
def F.yc{iP:zaa}(LZ:S.qA.ok X0 λx=>iP x.1.2.1.1 x.1.2.1.2.1 x.2.1.1 x.2.1.2.1 x.2.1.2.2.1 x.2.1.va.1):LE X0 171:=le 2 (IC zbl zbi) (λx=>(x.2.1.1,x.2.1.2.1,x.2.1.2.2.1,x.va.2.1.1,x.va.2.1.2.1,x.va.2.1.2.2.1,x.va.2.1.va.1,x.va.2.1.va.2.1,x.va.2.1.va.2.2.1,x.va.2.2.1)) (λx s=>(((),(),(),(),()),((s.1,s.2.1,s.2.2.1,(),()),(x.2.2.1.1,x.2.2.1.2.1,()),(x.va.1.1,x.va.1.2.1,x.va.1.2.2.1,x.va.1.va.1,(),x.va.1.va.2.2.1,()),(s.va.1,s.va.2.1,s.va.2.2.1,s.va.va.1,s.va.va.2.1,s.wc.1,()),s.wc.2,()))) (λx=> .leaf zaG (λt=>(Ex.exit 0,⟨[(0,V.ptr 100000 0),(3,V.ptr 300000 0),(4,V.ptr 300001 0),(5,V.ptr 300002 0),(18,ou false)],[(100000,zaY t 300003),(300000,Cell.box 80 [ou x.2.2.1.1,ou x.2.2.1.2.1]),(300001,Cell.box 77 [iY x.va.1.1,iY x.va.1.2.1,qU x.va.1.2.2.1,qU x.va.1.va.1,V.nil 5,ou x.va.1.va.2.2.1]),(300002,Cell.box 77 [iY t.va.1,iY t.va.2.1,qU t.va.2.2.1,qU t.va.va.1,ET 5 t.va.va.2.1,ou t.wc.1]),(300003,Cell.arr false true 0 1 t.wc.2)]⟩))) (λx=>M.y7 iP x.2.2.1.1 x.2.2.1.2.1 x.va.1.1 x.va.1.2.1 x.va.1.2.2.1 x.va.1.va.1 x.va.1.va.2.2.1) [fe C.aA,fe C.aP,fe LZ,fe C.ni] [] (by rintro _ _ ⟨_,_,_,_,_,_,_,_,_,_⟩ _ _<;>unfold M.y7<;>exact zbI)
def M.wR(iP:zaa)(r' oU:Bool)(c:au)(c1:Int)(c2:Bool)(c3:au)(k:Int×Int×aC×aC×Bool×au×Bool×au×Int×Bool×au->Option R):=cond (aj c3) ((iP r' oU c c1 c2 c3).bind λb=>(M.yc iP r' oU 0 0 [] [] false (b.2.2.2.2.2.2.2.1,b.2.2.2.2.2.2.2.2.1,b.2.2.2.2.2.2.2.2.2.1,b.1,b.2.1,b.2.2.1,b.2.2.2.1,aB b.2.2.2.2.2.1,b.2.2.2.2.2.2.1,b.2.2.2.2.2.2.2.2.2.2)).bind λa=>cond (aj a.2.2.2.2.2.2.2.2.2) (k (a.2.2.2.1,a.2.2.2.2.1,a.2.2.2.2.2.1,a.2.2.2.2.2.2.1,false,a.2.2.2.2.2.2.2.1,a.2.2.2.2.2.2.2.2.1,a.1,a.2.1,a.2.2.1,a.2.2.2.2.2.2.2.2.2)) none) none
def C.aeQ{iP:zaa}(LZ:S.qA.ok X0 λx=>iP x.1.2.1.1 x.1.2.1.2.1 x.2.1.1 x.2.1.2.1 x.2.1.2.2.1 x.2.1.va.1):S.oP.ok X0 λx=>M.wR iP x.1.2.1.1 x.1.2.1.2.1 x.2.1.1 x.2.1.2.1 x.2.1.2.2.1 x.2.1.va.1 some:=fnS (λx=>zbH (M.wR iP x.1.2.1.1 x.1.2.1.2.1) x.2.1) [fe LZ] [F.yc LZ] (by intros;unfold M.wR;exact zbI)
def M.Ac(iy:zaa)(x' o7:Bool)(qg uX:Int)(xB Dn:aC)(H7:Bool)(s:au×Int×Bool×Int×Int×aC×aC×au×Bool×au)(kn:au×Int×Bool×Int×Int×aC×aC×au×Bool×au->Option R)(ke:au×Int×Bool×Int×Int×aC×aC×au×Bool×au->Option R):Option R:=match s with
 |(v,v1,v2,KW,Pm,Uu,Ij,Nv,OE,QY)=>bif !v2 then(bif aj QY then((M.aA v v1 v2 QY).bind λa=>bif a.1==44 then(bif aj a.2.2.2.2 then((M.aP a.2.1 (i64.wrap (a.2.2.1+1)) a.2.2.2.1 a.2.2.2.2).bind λd=>bif aj d.2.2.2 then((iy x' o7 d.1 d.2.1 d.2.2.1 d.2.2.2).bind λb=>(M.ni 44 KW Pm Uu Ij Nv OE b.1 b.2.1 b.2.2.1 b.2.2.2.1 (aB b.2.2.2.2.2.1) b.2.2.2.2.2.2.1).bind λc=>kn (b.2.2.2.2.2.2.2.1,b.2.2.2.2.2.2.2.2.1,b.2.2.2.2.2.2.2.2.2.1,c.1,c.2.1,c.2.2.1,c.2.2.2.1,aB c.2.2.2.2.2.1,c.2.2.2.2.2.2,b.2.2.2.2.2.2.2.2.2.2)) else none) else none) else ke (a.2.1,a.2.2.1,a.2.2.2.1,KW,Pm,Uu,Ij,Nv,OE,a.2.2.2.2)) else none) else ke (v,v1,v2,KW,Pm,Uu,Ij,Nv,OE,QY)
def M.MP iy x' o7 qg uX xB Dn H7 s:=M.Ac iy x' o7 qg uX xB Dn H7 s (λs=>some (Sum.inl s)) λt=>some (Sum.inr t)
def M.zx iy x' o7 qg uX xB Dn H7 s:=fV (M.MP iy x' o7 qg uX xB Dn H7) s
def F.zx{iy:zaa}(JJ:S.oP.ok X0 λx=>iy x.1.2.1.1 x.1.2.1.2.1 x.2.1.1 x.2.1.2.1 x.2.1.2.2.1 x.2.1.va.1):LE X0 136:=le 2 (IC zbl zbi) (λx=>(x.2.1.1,x.2.1.2.1,x.2.1.2.2.1,x.va.2.1.1,x.va.2.1.2.1,x.va.2.1.2.2.1,x.va.2.1.va.1,x.va.2.1.va.2.1,x.va.2.1.va.2.2.1,x.va.2.2.1)) (λx s=>(((),(),(),(),()),((s.1,s.2.1,s.2.2.1,(),()),(x.2.2.1.1,x.2.2.1.2.1,()),(x.va.1.1,x.va.1.2.1,x.va.1.2.2.1,x.va.1.va.1,(),x.va.1.va.2.2.1,()),(s.va.1,s.va.2.1,s.va.2.2.1,s.va.va.1,s.va.va.2.1,s.wc.1,()),s.wc.2,()))) (λx=> .leaf zaG (λt=>(Ex.exit 0,⟨[(0,V.ptr 100000 0),(3,V.ptr 300000 0),(4,V.ptr 300001 0),(5,V.ptr 300002 0),(18,ou false)],[(100000,zaY t 300003),(300000,Cell.box 80 [ou x.2.2.1.1,ou x.2.2.1.2.1]),(300001,Cell.box 77 [iY x.va.1.1,iY x.va.1.2.1,qU x.va.1.2.2.1,qU x.va.1.va.1,V.nil 5,ou x.va.1.va.2.2.1]),(300002,Cell.box 77 [iY t.va.1,iY t.va.2.1,qU t.va.2.2.1,qU t.va.va.1,ET 5 t.va.va.2.1,ou t.wc.1]),(300003,Cell.arr false true 0 1 t.wc.2)]⟩))) (λx=>M.Ac iy x.2.2.1.1 x.2.2.1.2.1 x.va.1.1 x.va.1.2.1 x.va.1.2.2.1 x.va.1.va.1 x.va.1.va.2.2.1) [fe C.aA,fe C.aP,fe JJ,fe C.ni] [] (by rintro _ _ ⟨_,_,_,_,_,_,_,_,_,_⟩ _ _<;>unfold M.Ac<;>exact zbI)
def M.yg(iy:zaa)(r' oU:Bool)(c:au)(c1:Int)(c2:Bool)(c3:au)(k:Int×Int×aC×aC×Bool×au×Bool×au×Int×Bool×au->Option R):=cond (aj c3) ((iy r' oU c c1 c2 c3).bind λb=>(M.zx iy r' oU 0 0 [] [] false (b.2.2.2.2.2.2.2.1,b.2.2.2.2.2.2.2.2.1,b.2.2.2.2.2.2.2.2.2.1,b.1,b.2.1,b.2.2.1,b.2.2.2.1,aB b.2.2.2.2.2.1,b.2.2.2.2.2.2.1,b.2.2.2.2.2.2.2.2.2.2)).bind λa=>cond (aj a.2.2.2.2.2.2.2.2.2) (k (a.2.2.2.1,a.2.2.2.2.1,a.2.2.2.2.2.1,a.2.2.2.2.2.2.1,false,a.2.2.2.2.2.2.2.1,a.2.2.2.2.2.2.2.2.1,a.1,a.2.1,a.2.2.1,a.2.2.2.2.2.2.2.2.2)) none) none
def C.afK{iy:zaa}(JJ:S.oP.ok X0 λx=>iy x.1.2.1.1 x.1.2.1.2.1 x.2.1.1 x.2.1.2.1 x.2.1.2.2.1 x.2.1.va.1):S.sU.ok X0 λx=>M.yg iy x.1.2.1.1 x.1.2.1.2.1 x.2.1.1 x.2.1.2.1 x.2.1.2.2.1 x.2.1.va.1 some:=fnS (λx=>zbH (M.yg iy x.1.2.1.1 x.1.2.1.2.1) x.2.1) [fe JJ] [F.zx JJ] (by intros;unfold M.yg;exact zbI)
def M.uF(CQ:zaa)(jy:zaa)(r' oU:Bool)(c:au)(c1:Int)(c2:Bool)(c3:au)(k:Int×Int×aC×aC×Bool×au×Bool×au×Int×Bool×au->Option R):=cond (aj c3) ((CQ r' oU c c1 c2 c3).bind λa=>cond a.2.2.2.2.2.2.2.2.2.1 (cond (aj a.2.2.2.2.2.2.2.2.2.2) (k (a.1,a.2.1,a.2.2.1,a.2.2.2.1,false,aB a.2.2.2.2.2.1,a.2.2.2.2.2.2)) none) (cond (aj a.2.2.2.2.2.2.2.2.2.2) ((M.aA a.2.2.2.2.2.2.2.1 a.2.2.2.2.2.2.2.2.1 a.2.2.2.2.2.2.2.2.2.1 a.2.2.2.2.2.2.2.2.2.2).bind λd=>cond (d.1 !=65) (cond (aj d.2.2.2.2) (k (a.1,a.2.1,a.2.2.1,a.2.2.2.1,false,aB a.2.2.2.2.2.1,a.2.2.2.2.2.2.1,d.2)) none) (cond (aj d.2.2.2.2) ((jy r' oU d.2.1 (i64.wrap (d.2.2.1+1)) d.2.2.2.1 d.2.2.2.2).bind λe=>cond (aj e.2.2.2.2.2.2.2.2.2.2) ((M.aO 66 e.2.2.2.2.2.2.2.1 e.2.2.2.2.2.2.2.2.1 e.2.2.2.2.2.2.2.2.2.1 e.2.2.2.2.2.2.2.2.2.2).bind λb=>cond b.2.2.2.1 (cond (aj b.2.2.2.2) (k (0,0,[],[],true,[],false,b.2)) none) (cond (aj b.2.2.2.2) ((jy r' oU b.2.1 b.2.2.1 b.2.2.2.1 b.2.2.2.2).bind λf=>cond (aj f.2.2.2.2.2.2.2.2.2.2) (k (14,0,[],[],true,[[D.int .i64 a.1,D.int .i64 a.2.1,D.str a.2.2.1,D.str a.2.2.2.1,D.sl false 5 (aB a.2.2.2.2.2.1)],[D.int .i64 e.1,D.int .i64 e.2.1,D.str e.2.2.1,D.str e.2.2.2.1,D.sl false 5 (aB e.2.2.2.2.2.1)],[D.int .i64 f.1,D.int .i64 f.2.1,D.str f.2.2.1,D.str f.2.2.2.1,D.sl false 5 (aB f.2.2.2.2.2.1)]],false,f.2.2.2.2.2.2.2)) none) none)) none) none)) none)) none
def C.acr{CQ:zaa}{jy:zaa}(ag7:S.sU.ok X0 λx=>CQ x.1.2.1.1 x.1.2.1.2.1 x.2.1.1 x.2.1.2.1 x.2.1.2.2.1 x.2.1.va.1)(OG:S.nT.ok X0 λx=>jy x.1.2.1.1 x.1.2.1.2.1 x.2.1.1 x.2.1.2.1 x.2.1.2.2.1 x.2.1.va.1):S.nT.ok X0 λx=>M.uF CQ jy x.1.2.1.1 x.1.2.1.2.1 x.2.1.1 x.2.1.2.1 x.2.1.2.2.1 x.2.1.va.1 some:=fnS (λx=>zbH (M.uF CQ jy x.1.2.1.1 x.1.2.1.2.1) x.2.1) [fe ag7,fe C.aA,fe OG,fe C.aO] [] (by intros;unfold M.uF;exact zbI)
abbrev M.Ol(kind:Int)(k:Bool->Option R):=cond (kind==54) (k true) ((M.dZ kind 38 43).bind λa=>k a)
def M.vI kind:=M.Ol kind some
def C.vI:=fTa S.vI (λx=>M.Ol x.1.1) [fe C.dZ]
def M.qF(jy:zaa)(bJ:zaa)(r' oU:Bool)(c:au)(c1:Int)(c2:Bool)(c3:au)(k:Int×Int×aC×aC×Bool×au×Bool×au×Int×Bool×au->Option R):=cond (aj c3) ((jy r' oU c c1 c2 c3).bind λa=>cond a.2.2.2.2.2.2.2.2.2.1 (cond (aj a.2.2.2.2.2.2.2.2.2.2) (k (a.1,a.2.1,a.2.2.1,a.2.2.2.1,false,aB a.2.2.2.2.2.1,a.2.2.2.2.2.2)) none) (cond (!a.2.2.2.2.2.2.1) (cond (aj a.2.2.2.2.2.2.2.2.2.2) (k (a.1,a.2.1,a.2.2.1,a.2.2.2.1,false,aB a.2.2.2.2.2.1,a.2.2.2.2.2.2)) none) (cond (aj a.2.2.2.2.2.2.2.2.2.2) ((M.aA a.2.2.2.2.2.2.2.1 a.2.2.2.2.2.2.2.2.1 a.2.2.2.2.2.2.2.2.2.1 a.2.2.2.2.2.2.2.2.2.2).bind λb=>(M.vI b.1).bind λf=>cond (!f) (cond (aj b.2.2.2.2) (k (a.1,a.2.1,a.2.2.1,a.2.2.2.1,false,aB a.2.2.2.2.2.1,a.2.2.2.2.2.2.1,b.2)) none) (cond (aj b.2.2.2.2) ((M.aA b.2.1 b.2.2.1 b.2.2.2.1 b.2.2.2.2).bind λe=>cond (aj e.2.2.2.2) ((bJ r' oU e.2.1 (i64.wrap (e.2.2.1+1)) e.2.2.2.1 e.2.2.2.2).bind λd=>cond (aj d.2.2.2.2.2.2.2.2.2.2) (k (15,e.1,[],[],true,[[D.int .i64 a.1,D.int .i64 a.2.1,D.str a.2.2.1,D.str a.2.2.2.1,D.sl false 5 (aB a.2.2.2.2.2.1)],[D.int .i64 d.1,D.int .i64 d.2.1,D.str d.2.2.1,D.str d.2.2.2.1,D.sl false 5 (aB d.2.2.2.2.2.1)]],false,d.2.2.2.2.2.2.2)) none) none) none)) none))) none
def C.ZU{jy:zaa}{bJ:zaa}(OG:S.nT.ok X0 λx=>jy x.1.2.1.1 x.1.2.1.2.1 x.2.1.1 x.2.1.2.1 x.2.1.2.2.1 x.2.1.va.1)(qE:S.bP.ok X0 λx=>bJ x.1.2.1.1 x.1.2.1.2.1 x.2.1.1 x.2.1.2.1 x.2.1.2.2.1 x.2.1.va.1):S.bP.ok X0 λx=>M.qF jy bJ x.1.2.1.1 x.1.2.1.2.1 x.2.1.1 x.2.1.2.1 x.2.1.2.2.1 x.2.1.va.1 some:=fnS (λx=>zbH (M.qF jy bJ x.1.2.1.1 x.1.2.1.2.1) x.2.1) [fe OG,fe C.aA,fe C.vI,fe qE] [] (by intros;unfold M.qF;exact zbI)
def M.aN:Nat->(zaa)×(zao)×(zaf)×(zad)×(zad)×(zad)×(zad)×(zad)×(zad)×(zaa)×(zaa)×(zaa)×(zaa)×(zaa)×(zaa)×(zaa)×(zaa)×(zaa)×(zaa)×(zaa):=Nat.rec (λ_ _ _ _ _ _=>none,λ_ _ _ _ _ _=>none,λ_ _ _ _ _=>none,λ_ _ _ _=>none,λ_ _ _ _=>none,λ_ _ _ _=>none,λ_ _ _ _=>none,λ_ _ _ _=>none,λ_ _ _ _=>none,λ_ _ _ _ _ _=>none,λ_ _ _ _ _ _=>none,λ_ _ _ _ _ _=>none,λ_ _ _ _ _ _=>none,λ_ _ _ _ _ _=>none,λ_ _ _ _ _ _=>none,λ_ _ _ _ _ _=>none,λ_ _ _ _ _ _=>none,λ_ _ _ _ _ _=>none,λ_ _ _ _ _ _=>none,λ_ _ _ _ _ _=>none) λ_ qz=>(λr' oU c c1 c2 c3=>M.qF qz.2.2.2.2.2.2.2.2.2.2.2.2.2.2.2.2.2.2.2 qz.1 r' oU c c1 c2 c3 some,λr' oU c c1 c2 c3=>M.rO qz.1 r' oU c c1 c2 c3 some,λshut c c1 c2 c3=>M.uy qz.2.1 shut c c1 c2 c3 some,λc c1 c2 c3=>M.ru qz.2.2.1 c c1 c2 c3 some,λc c1 c2 c3=>M.pz qz.2.2.2.1 qz.2.2.1 qz.1 c c1 c2 c3 some,λc c1 c2 c3=>M.rP qz.2.2.2.2.1 qz.2.2.2.2.2.2.2.1 qz.2.2.2.2.2.1 c c1 c2 c3 some,λc c1 c2 c3=>M.uN qz.2.2.2.2.2.1 qz.2.2.2.1 c c1 c2 c3 some,λc c1 c2 c3=>M.uO qz.2.2.2.2.2.2.1 c c1 c2 c3 some,λc c1 c2 c3=>M.uD qz.2.2.2.2.2.2.2.1 qz.2.2.2.2.2.1 c c1 c2 c3 some,λr' oU c c1 c2 c3=>M.wJ qz.2.2.2.2.2.2.2.2.1 qz.2.2.2.2.2.2.2.2.2.2.1 r' oU c c1 c2 c3 some,λr' oU c c1 c2 c3=>M.rQ qz.2.2.2.2.2.2.2.2.2.1 qz.2.2.2.2.2.2.2.2.2.2.1 r' oU c c1 c2 c3 some,λr' oU c c1 c2 c3=>M.wL qz.2.2.2.2.2.2.2.2.2.2.1 r' oU c c1 c2 c3 some,λr' oU c c1 c2 c3=>M.wM qz.2.2.2.2.2.2.2.2.2.2.2.1 r' oU c c1 c2 c3 some,λr' oU c c1 c2 c3=>M.wO qz.2.2.2.2.2.2.2.2.2.2.2.2.1 r' oU c c1 c2 c3 some,λr' oU c c1 c2 c3=>M.pF qz.2.2.2.2.2.2.2.2.2.2.2.2.2.1 r' oU c c1 c2 c3 some,λr' oU c c1 c2 c3=>M.rU qz.2.2.2.2.2.2.2.2.2.2.2.2.2.2.1 r' oU c c1 c2 c3 some,λr' oU c c1 c2 c3=>M.x9 qz.2.2.1 qz.2.2.2.2.2.2.2.2.2.2.2.2.2.2.2.1 r' oU c c1 c2 c3 some,λr' oU c c1 c2 c3=>M.wR qz.2.2.2.2.2.2.2.2.2.2.2.2.2.2.2.2.1 r' oU c c1 c2 c3 some,λr' oU c c1 c2 c3=>M.yg qz.2.2.2.2.2.2.2.2.2.2.2.2.2.2.2.2.2.1 r' oU c c1 c2 c3 some,λr' oU c c1 c2 c3=>M.uF qz.2.2.2.2.2.2.2.2.2.2.2.2.2.2.2.2.2.2.1 qz.2.2.2.2.2.2.2.2.2.2.2.2.2.2.2.2.2.2.2 r' oU c c1 c2 c3 some)
def M.iC n:=(M.aN n).1
def M.lT n:=(M.aN n).2.1
def M.jI n:=(M.aN n).2.2.1
def M.rC n:=(M.aN n).2.2.2.1
def M.pG n:=(M.aN n).2.2.2.2.1
def M.nR n:=(M.aN n).2.2.2.2.2.1
def M.y8 n:=(M.aN n).2.2.2.2.2.2.1
def M.qG n:=(M.aN n).2.2.2.2.2.2.2.1
def M.uG n:=(M.aN n).2.2.2.2.2.2.2.2.1
def M.wS n:=(M.aN n).2.2.2.2.2.2.2.2.2.1
def M.kF n:=(M.aN n).2.2.2.2.2.2.2.2.2.2.1
def M.rZ n:=(M.aN n).2.2.2.2.2.2.2.2.2.2.2.1
def M.pU n:=(M.aN n).2.2.2.2.2.2.2.2.2.2.2.2.1
def M.su n:=(M.aN n).2.2.2.2.2.2.2.2.2.2.2.2.2.1
def M.nJ n:=(M.aN n).2.2.2.2.2.2.2.2.2.2.2.2.2.2.1
def M.kG n:=(M.aN n).2.2.2.2.2.2.2.2.2.2.2.2.2.2.2.1
def M.uQ n:=(M.aN n).2.2.2.2.2.2.2.2.2.2.2.2.2.2.2.2.1
def M.sD n:=(M.aN n).2.2.2.2.2.2.2.2.2.2.2.2.2.2.2.2.2.1
def M.yh n:=(M.aN n).2.2.2.2.2.2.2.2.2.2.2.2.2.2.2.2.2.2.1
def M.qH n:=(M.aN n).2.2.2.2.2.2.2.2.2.2.2.2.2.2.2.2.2.2.2
def M.Ui(n:Nat):M.iC (n+1)=λr' oU c c1 c2 c3=>M.qF (M.qH n) (M.iC n) r' oU c c1 c2 c3 some:=rfl
def M.acs(n:Nat):M.lT (n+1)=λr' oU c c1 c2 c3=>M.rO (M.iC n) r' oU c c1 c2 c3 some:=rfl
def M.V5(n:Nat):M.jI (n+1)=λshut c c1 c2 c3=>M.uy (M.lT n) shut c c1 c2 c3 some:=rfl
def M.Y4(n:Nat):M.rC (n+1)=λc c1 c2 c3=>M.ru (M.jI n) c c1 c2 c3 some:=rfl
def M.Q7(n:Nat):M.pG (n+1)=λc c1 c2 c3=>M.pz (M.rC n) (M.jI n) (M.iC n) c c1 c2 c3 some:=rfl
def M.UU(n:Nat):M.nR (n+1)=λc c1 c2 c3=>M.rP (M.pG n) (M.qG n) (M.nR n) c c1 c2 c3 some:=rfl
def M.aa7(n:Nat):M.y8 (n+1)=λc c1 c2 c3=>M.uN (M.nR n) (M.rC n) c c1 c2 c3 some:=rfl
def M.aa8(n:Nat):M.qG (n+1)=λc c1 c2 c3=>M.uO (M.y8 n) c c1 c2 c3 some:=rfl
def M.V6(n:Nat):M.uG (n+1)=λc c1 c2 c3=>M.uD (M.qG n) (M.nR n) c c1 c2 c3 some:=rfl
def M.Xa(n:Nat):M.wS (n+1)=λr' oU c c1 c2 c3=>M.wJ (M.uG n) (M.kF n) r' oU c c1 c2 c3 some:=rfl
def M.UW(n:Nat):M.kF (n+1)=λr' oU c c1 c2 c3=>M.rQ (M.wS n) (M.kF n) r' oU c c1 c2 c3 some:=rfl
def M.Xb(n:Nat):M.rZ (n+1)=λr' oU c c1 c2 c3=>M.wL (M.kF n) r' oU c c1 c2 c3 some:=rfl
def M.Xc(n:Nat):M.pU (n+1)=λr' oU c c1 c2 c3=>M.wM (M.rZ n) r' oU c c1 c2 c3 some:=rfl
def M.Xd(n:Nat):M.su (n+1)=λr' oU c c1 c2 c3=>M.wO (M.pU n) r' oU c c1 c2 c3 some:=rfl
def M.Q8(n:Nat):M.nJ (n+1)=λr' oU c c1 c2 c3=>M.pF (M.su n) r' oU c c1 c2 c3 some:=rfl
def M.UY(n:Nat):M.kG (n+1)=λr' oU c c1 c2 c3=>M.rU (M.nJ n) r' oU c c1 c2 c3 some:=rfl
def M.Yk(n:Nat):M.uQ (n+1)=λr' oU c c1 c2 c3=>M.x9 (M.jI n) (M.kG n) r' oU c c1 c2 c3 some:=rfl
def M.Xe(n:Nat):M.sD (n+1)=λr' oU c c1 c2 c3=>M.wR (M.uQ n) r' oU c c1 c2 c3 some:=rfl
def M.Yl(n:Nat):M.yh (n+1)=λr' oU c c1 c2 c3=>M.yg (M.sD n) r' oU c c1 c2 c3 some:=rfl
def M.V7(n:Nat):M.qH (n+1)=λr' oU c c1 c2 c3=>M.uF (M.yh n) (M.qH n) r' oU c c1 c2 c3 some:=rfl
def M.bP r' oU c c1 c2 c3:=lim λn=>M.iC n r' oU c c1 c2 c3
def M.je r' oU c c1 c2 c3:=lim λn=>M.lT n r' oU c c1 c2 c3
def M.jm shut c c1 c2 c3:=lim λn=>M.jI n shut c c1 c2 c3
def M.oC c c1 c2 c3:=lim λn=>M.rC n c c1 c2 c3
def M.lM c c1 c2 c3:=lim λn=>M.pG n c c1 c2 c3
def M.jF c c1 c2 c3:=lim λn=>M.nR n c c1 c2 c3
def M.uh c c1 c2 c3:=lim λn=>M.y8 n c c1 c2 c3
def M.kZ c c1 c2 c3:=lim λn=>M.qG n c c1 c2 c3
def M.oW c c1 c2 c3:=lim λn=>M.uG n c c1 c2 c3
def M.qN r' oU c c1 c2 c3:=lim λn=>M.wS n r' oU c c1 c2 c3
def M.jQ r' oU c c1 c2 c3:=lim λn=>M.kF n r' oU c c1 c2 c3
def M.oO r' oU c c1 c2 c3:=lim λn=>M.rZ n r' oU c c1 c2 c3
def M.jU r' oU c c1 c2 c3:=lim λn=>M.pU n r' oU c c1 c2 c3
def M.qO r' oU c c1 c2 c3:=lim λn=>M.su n r' oU c c1 c2 c3
def M.lN r' oU c c1 c2 c3:=lim λn=>M.nJ n r' oU c c1 c2 c3
def M.mM r' oU c c1 c2 c3:=lim λn=>M.kG n r' oU c c1 c2 c3
def M.qA r' oU c c1 c2 c3:=lim λn=>M.uQ n r' oU c c1 c2 c3
def M.oP r' oU c c1 c2 c3:=lim λn=>M.sD n r' oU c c1 c2 c3
def M.sU r' oU c c1 c2 c3:=lim λn=>M.yh n r' oU c c1 c2 c3
def M.nT r' oU c c1 c2 c3:=lim λn=>M.qH n r' oU c c1 c2 c3
def C.aN:∀n,(S.bP.ok X0 λx=>zbH (M.iC n x.1.2.1.1 x.1.2.1.2.1) x.2.1)/\(S.je.ok X0 λx=>zbH (M.lT n x.1.2.1.1 x.1.2.1.2.1) x.2.1)/\(S.jm.ok X0 λx=>zbH (M.jI n x.1.2.1) x.2.1)/\(S.oC.ok X0 λx=>zbH (M.rC n) x.2.1)/\(S.lM.ok X0 λx=>zbH (M.pG n) x.2.1)/\(S.jF.ok X0 λx=>zbH (M.nR n) x.2.1)/\(S.uh.ok X0 λx=>zbH (M.y8 n) x.2.1)/\(S.kZ.ok X0 λx=>zbH (M.qG n) x.2.1)/\(S.oW.ok X0 λx=>zbH (M.uG n) x.2.1)/\(S.qN.ok X0 λx=>zbH (M.wS n x.1.2.1.1 x.1.2.1.2.1) x.2.1)/\(S.jQ.ok X0 λx=>zbH (M.kF n x.1.2.1.1 x.1.2.1.2.1) x.2.1)/\(S.oO.ok X0 λx=>zbH (M.rZ n x.1.2.1.1 x.1.2.1.2.1) x.2.1)/\(S.jU.ok X0 λx=>zbH (M.pU n x.1.2.1.1 x.1.2.1.2.1) x.2.1)/\(S.qO.ok X0 λx=>zbH (M.su n x.1.2.1.1 x.1.2.1.2.1) x.2.1)/\(S.lN.ok X0 λx=>zbH (M.nJ n x.1.2.1.1 x.1.2.1.2.1) x.2.1)/\(S.mM.ok X0 λx=>zbH (M.kG n x.1.2.1.1 x.1.2.1.2.1) x.2.1)/\(S.qA.ok X0 λx=>zbH (M.uQ n x.1.2.1.1 x.1.2.1.2.1) x.2.1)/\(S.oP.ok X0 λx=>zbH (M.sD n x.1.2.1.1 x.1.2.1.2.1) x.2.1)/\(S.sU.ok X0 λx=>zbH (M.yh n x.1.2.1.1 x.1.2.1.2.1) x.2.1)/\(S.nT.ok X0 λx=>zbH (M.qH n x.1.2.1.1 x.1.2.1.2.1) x.2.1)
 |0=>⟨fA.zero,fA.zero,fA.zero,fA.zero,fA.zero,fA.zero,fA.zero,fA.zero,fA.zero,fA.zero,fA.zero,fA.zero,fA.zero,fA.zero,fA.zero,fA.zero,fA.zero,fA.zero,fA.zero,fA.zero⟩
 |n+1=>have h:=C.aN n;⟨C.ZU h.2.2.2.2.2.2.2.2.2.2.2.2.2.2.2.2.2.2.2 h.1,C.aax h.1,C.acn h.2.1,C.Yd h.2.2.1,C.Y2 h.2.2.2.1 h.2.2.1 h.1,C.aaH h.2.2.2.2.1 h.2.2.2.2.2.2.2.1 h.2.2.2.2.2.1,C.ZQ h.2.2.2.2.2.1 h.2.2.2.1,C.ZR h.2.2.2.2.2.2.1,C.acp h.2.2.2.2.2.2.2.1 h.2.2.2.2.2.1,C.aeL h.2.2.2.2.2.2.2.2.1 h.2.2.2.2.2.2.2.2.2.2.1,C.aaR h.2.2.2.2.2.2.2.2.2.1 h.2.2.2.2.2.2.2.2.2.2.1,C.aeN h.2.2.2.2.2.2.2.2.2.2.1,C.aeO h.2.2.2.2.2.2.2.2.2.2.2.1,C.aeP h.2.2.2.2.2.2.2.2.2.2.2.2.1,C.Y3 h.2.2.2.2.2.2.2.2.2.2.2.2.2.1,C.aaX h.2.2.2.2.2.2.2.2.2.2.2.2.2.2.1,C.afJ h.2.2.1 h.2.2.2.2.2.2.2.2.2.2.2.2.2.2.2.1,C.aeQ h.2.2.2.2.2.2.2.2.2.2.2.2.2.2.2.2.1,C.afK h.2.2.2.2.2.2.2.2.2.2.2.2.2.2.2.2.2.1,C.acr h.2.2.2.2.2.2.2.2.2.2.2.2.2.2.2.2.2.2.1 h.2.2.2.2.2.2.2.2.2.2.2.2.2.2.2.2.2.2.2⟩
def C.bP:S.bP.ok X0 λx=>zbH (M.bP x.1.2.1.1 x.1.2.1.2.1) x.2.1:=fA.lim λn=>(C.aN n).1
def M.Q9{n:Nat}{r' oU:Bool}{c:au}{c1:Int}{c2:Bool}{c3:au}{r:Int×Int×aC×aC×Bool×au×Bool×au×Int×Bool×au}(h:M.iC n r' oU c c1 c2 c3=some r):M.bP r' oU c c1 c2 c3=some r:=fA.Jf (λn=>(C.aN n).1) (by intro a b h;simp[S.bP,sg] at h;first|exact h|simp[Prod.ext_iff,h]) (x:=(((),(r',oU,()),()),((c,c1,c2,c3,()),()))) h
def C.je:S.je.ok X0 λx=>zbH (M.je x.1.2.1.1 x.1.2.1.2.1) x.2.1:=fA.lim λn=>(C.aN n).2.1
def M.aa9{n:Nat}{r' oU:Bool}{c:au}{c1:Int}{c2:Bool}{c3:au}{r:Bool×au×au×Int×Bool×au}(h:M.lT n r' oU c c1 c2 c3=some r):M.je r' oU c c1 c2 c3=some r:=fA.Jf (λn=>(C.aN n).2.1) (by intro a b h;simp[S.je,sg] at h;first|exact h|simp[Prod.ext_iff,h]) (x:=(((),(r',oU,()),()),((c,c1,c2,c3,()),()))) h
def C.jm:S.jm.ok X0 λx=>zbH (M.jm x.1.2.1) x.2.1:=fA.lim λn=>(C.aN n).2.2.1
def M.acu{n:Nat}{shut:Int}{c:au}{c1:Int}{c2:Bool}{c3:au}{r:Bool×au×au×Int×Bool×au}(h:M.jI n shut c c1 c2 c3=some r):M.jm shut c c1 c2 c3=some r:=fA.Jf (λn=>(C.aN n).2.2.1) (by intro a b h;simp[S.jm,sg] at h;first|exact h|simp[Prod.ext_iff,h]) (x:=(((),shut,()),((c,c1,c2,c3,()),()))) h
def C.oC:S.oC.ok X0 λx=>zbH M.oC x.2.1:=fA.lim λn=>(C.aN n).2.2.2.1
def C.lM:S.lM.ok X0 λx=>zbH M.lM x.2.1:=fA.lim λn=>(C.aN n).2.2.2.2.1
def C.jF:S.jF.ok X0 λx=>zbH M.jF x.2.1:=fA.lim λn=>(C.aN n).2.2.2.2.2.1
def C.uh:S.uh.ok X0 λx=>zbH M.uh x.2.1:=fA.lim λn=>(C.aN n).2.2.2.2.2.2.1
def C.kZ:S.kZ.ok X0 λx=>zbH M.kZ x.2.1:=fA.lim λn=>(C.aN n).2.2.2.2.2.2.2.1
def C.oW:S.oW.ok X0 λx=>zbH M.oW x.2.1:=fA.lim λn=>(C.aN n).2.2.2.2.2.2.2.2.1
def C.qN:S.qN.ok X0 λx=>zbH (M.qN x.1.2.1.1 x.1.2.1.2.1) x.2.1:=fA.lim λn=>(C.aN n).2.2.2.2.2.2.2.2.2.1
def C.jQ:S.jQ.ok X0 λx=>zbH (M.jQ x.1.2.1.1 x.1.2.1.2.1) x.2.1:=fA.lim λn=>(C.aN n).2.2.2.2.2.2.2.2.2.2.1
def C.oO:S.oO.ok X0 λx=>zbH (M.oO x.1.2.1.1 x.1.2.1.2.1) x.2.1:=fA.lim λn=>(C.aN n).2.2.2.2.2.2.2.2.2.2.2.1
def C.jU:S.jU.ok X0 λx=>zbH (M.jU x.1.2.1.1 x.1.2.1.2.1) x.2.1:=fA.lim λn=>(C.aN n).2.2.2.2.2.2.2.2.2.2.2.2.1
def M.aeR{n:Nat}{r' oU:Bool}{c:au}{c1:Int}{c2:Bool}{c3:au}{r:Int×Int×aC×aC×Bool×au×Bool×au×Int×Bool×au}(h:M.pU n r' oU c c1 c2 c3=some r):M.jU r' oU c c1 c2 c3=some r:=fA.Jf (λn=>(C.aN n).2.2.2.2.2.2.2.2.2.2.2.2.1) (by intro a b h;simp[S.jU,sg] at h;first|exact h|simp[Prod.ext_iff,h]) (x:=(((),(r',oU,()),()),((c,c1,c2,c3,()),()))) h
def C.qO:S.qO.ok X0 λx=>zbH (M.qO x.1.2.1.1 x.1.2.1.2.1) x.2.1:=fA.lim λn=>(C.aN n).2.2.2.2.2.2.2.2.2.2.2.2.2.1
def C.lN:S.lN.ok X0 λx=>zbH (M.lN x.1.2.1.1 x.1.2.1.2.1) x.2.1:=fA.lim λn=>(C.aN n).2.2.2.2.2.2.2.2.2.2.2.2.2.2.1
def C.mM:S.mM.ok X0 λx=>zbH (M.mM x.1.2.1.1 x.1.2.1.2.1) x.2.1:=fA.lim λn=>(C.aN n).2.2.2.2.2.2.2.2.2.2.2.2.2.2.2.1
def C.qA:S.qA.ok X0 λx=>zbH (M.qA x.1.2.1.1 x.1.2.1.2.1) x.2.1:=fA.lim λn=>(C.aN n).2.2.2.2.2.2.2.2.2.2.2.2.2.2.2.2.1
def C.oP:S.oP.ok X0 λx=>zbH (M.oP x.1.2.1.1 x.1.2.1.2.1) x.2.1:=fA.lim λn=>(C.aN n).2.2.2.2.2.2.2.2.2.2.2.2.2.2.2.2.2.1
def C.sU:S.sU.ok X0 λx=>zbH (M.sU x.1.2.1.1 x.1.2.1.2.1) x.2.1:=fA.lim λn=>(C.aN n).2.2.2.2.2.2.2.2.2.2.2.2.2.2.2.2.2.2.1
def C.nT:S.nT.ok X0 λx=>zbH (M.nT x.1.2.1.1 x.1.2.1.2.1) x.2.1:=fA.lim λn=>(C.aN n).2.2.2.2.2.2.2.2.2.2.2.2.2.2.2.2.2.2.2
abbrev M.uS(c:au)(c1:Int)(c2:Bool)(c3:au)(k:Int×Int×aC×aC×Bool×au×au×Int×Bool×au->Option R):=cond (aj c3) ((M.aO 32 c c1 c2 c3).bind λd=>cond (aj d.2.2.2.2) ((M.bP false false d.2.1 d.2.2.1 d.2.2.2.1 d.2.2.2.2).bind λa=>cond (aj a.2.2.2.2.2.2.2.2.2.2) ((M.aO 33 a.2.2.2.2.2.2.2.1 a.2.2.2.2.2.2.2.2.1 a.2.2.2.2.2.2.2.2.2.1 a.2.2.2.2.2.2.2.2.2.2).bind λb=>cond (aj b.2.2.2.2) (k (a.1,a.2.1,a.2.2.1,a.2.2.2.1,false,aB a.2.2.2.2.2.1,b.2)) none) none) none) none
def M.iE c c1 c2 c3:=M.uS c c1 c2 c3 some
def C.iE:=fTa S.iE (λx=>zbH M.uS x.2.1) [fe C.aO,fe C.bP]
def M.uH(jC:zac)(bT:zac)(c:au)(c1:Int)(c2:Bool)(c3:au)(k:Int×Int×aC×aC×Bool×au×au×Int×Bool×au->Option R):=cond (aj c3) ((M.aP c c1 c2 c3).bind λd=>cond d.2.2.1 (cond (aj d.2.2.2) (k (0,0,[],[],true,[],d)) none) (cond (aj d.2.2.2) ((M.aA d.1 d.2.1 d.2.2.1 d.2.2.2).bind λb=>cond (b.1==30) (cond (aj b.2.2.2.2) ((jC b.2.1 b.2.2.1 b.2.2.2.1 b.2.2.2.2).bind λf=>cond (aj f.2.2.2.2.2.2.2.2.2) (k (f.1,f.2.1,f.2.2.1,f.2.2.2.1,false,aB f.2.2.2.2.2.1,f.2.2.2.2.2.2)) none) none) (cond (aj b.2.2.2.2) ((M.dU b.2.1 b.2.2.1 b.2.2.2.1 b.2.2.2.2).bind λg=>(ayl 5 [D.sl g.1 5 g.2.1] 0).bind λh=>cond (aj g.2.2.2.2.2) ((M.aA g.2.2.1 g.2.2.2.1 g.2.2.2.2.1 g.2.2.2.2.2).bind λa=>cond (a.1==37) (cond (aj a.2.2.2.2) (k (33,0,[],[],true,h,a.2.1,i64.wrap (a.2.2.1+1),a.2.2.2)) none) (cond (aj a.2.2.2.2) ((bT a.2.1 a.2.2.1 a.2.2.2.1 a.2.2.2.2).bind λe=>oV h [[D.int .i64 e.1,D.int .i64 e.2.1,D.str e.2.2.1,D.str e.2.2.2.1,D.sl false 5 (aB e.2.2.2.2.2.1)]] 72 λi=>cond (aj e.2.2.2.2.2.2.2.2.2) (k (33,0,[],[],true,i,e.2.2.2.2.2.2)) none) none)) none) none)) none)) none
def C.acv{jC:zac}{bT:zac}(MQ:S.cZ.ok X0 λx=>jC x.2.1.1 x.2.1.2.1 x.2.1.2.2.1 x.2.1.va.1)(uT:S.lD.ok X0 λx=>bT x.2.1.1 x.2.1.2.1 x.2.1.2.2.1 x.2.1.va.1):S.qY.ok X0 λx=>M.uH jC bT x.2.1.1 x.2.1.2.1 x.2.1.2.2.1 x.2.1.va.1 some:=fnS (λx=>zbH (M.uH jC bT) x.2.1) [fe C.aP,fe C.aA,fe MQ,fe C.dU,fe uT] [] (by intros;simp only[zbH,M.uH,oV];exact zbI)
def M.uU(bH:zac)(c:au)(c1:Int)(c2:Bool)(c3:au)(k:Int×Int×aC×aC×Bool×au×au×Int×Bool×au->Option R):=cond (aj c3) ((M.iE c c1 c2 c3).bind λb=>cond (aj b.2.2.2.2.2.2.2.2.2) ((bH b.2.2.2.2.2.2.1 b.2.2.2.2.2.2.2.1 b.2.2.2.2.2.2.2.2.1 b.2.2.2.2.2.2.2.2.2).bind λa=>cond (aj a.2.2.2.2.2.2.2.2.2) ((M.bQ a.2.2.2.2.2.2.1 a.2.2.2.2.2.2.2.1 a.2.2.2.2.2.2.2.2.1 a.2.2.2.2.2.2.2.2.2).bind λe=>cond e.2.2.1 (cond (!e.2.2.1) (cond (decide (0<=(↑a.2.2.2.2.2.2.2.2.2.length:Int)) && decide ((↑a.2.2.2.2.2.2.2.2.2.length:Int)<=(↑e.2.2.2.length:Int))) (cond (aj (List.take (↑a.2.2.2.2.2.2.2.2.2.length:Int).toNat e.2.2.2)) (k (28,0,[],[],true,[[D.int .i64 b.1,D.int .i64 b.2.1,D.str b.2.2.1,D.str b.2.2.2.1,D.sl false 5 (aB b.2.2.2.2.2.1)],[D.int .i64 a.1,D.int .i64 a.2.1,D.str a.2.2.1,D.str a.2.2.2.1,D.sl false 5 (aB a.2.2.2.2.2.1)]],e.1,a.2.2.2.2.2.2.2.1,e.2.2.1,List.take (↑a.2.2.2.2.2.2.2.2.2.length:Int).toNat e.2.2.2)) none) none) (cond (aj e.2.2.2) (k (28,0,[],[],true,[[D.int .i64 b.1,D.int .i64 b.2.1,D.str b.2.2.1,D.str b.2.2.2.1,D.sl false 5 (aB b.2.2.2.2.2.1)],[D.int .i64 a.1,D.int .i64 a.2.1,D.str a.2.2.1,D.str a.2.2.2.1,D.sl false 5 (aB a.2.2.2.2.2.1)]],e)) none)) (cond (aj e.2.2.2) ((M.aA e.1 e.2.1 e.2.2.1 e.2.2.2).bind λf=>cond (f.1 !=14) (cond (!f.2.2.2.1) (cond (decide (0<=(↑a.2.2.2.2.2.2.2.2.2.length:Int)) && decide ((↑a.2.2.2.2.2.2.2.2.2.length:Int)<=(↑f.2.2.2.2.length:Int))) (cond (aj (List.take (↑a.2.2.2.2.2.2.2.2.2.length:Int).toNat f.2.2.2.2)) (k (28,0,[],[],true,[[D.int .i64 b.1,D.int .i64 b.2.1,D.str b.2.2.1,D.str b.2.2.2.1,D.sl false 5 (aB b.2.2.2.2.2.1)],[D.int .i64 a.1,D.int .i64 a.2.1,D.str a.2.2.1,D.str a.2.2.2.1,D.sl false 5 (aB a.2.2.2.2.2.1)]],f.2.1,a.2.2.2.2.2.2.2.1,f.2.2.2.1,List.take (↑a.2.2.2.2.2.2.2.2.2.length:Int).toNat f.2.2.2.2)) none) none) (cond (aj f.2.2.2.2) (k (28,0,[],[],true,[[D.int .i64 b.1,D.int .i64 b.2.1,D.str b.2.2.1,D.str b.2.2.2.1,D.sl false 5 (aB b.2.2.2.2.2.1)],[D.int .i64 a.1,D.int .i64 a.2.1,D.str a.2.2.1,D.str a.2.2.2.1,D.sl false 5 (aB a.2.2.2.2.2.1)]],f.2)) none)) (cond (aj f.2.2.2.2) ((bH f.2.1 (i64.wrap (f.2.2.1+1)) f.2.2.2.1 f.2.2.2.2).bind λd=>cond (aj d.2.2.2.2.2.2.2.2.2) (k (28,0,[],[],true,[[D.int .i64 b.1,D.int .i64 b.2.1,D.str b.2.2.1,D.str b.2.2.2.1,D.sl false 5 (aB b.2.2.2.2.2.1)],[D.int .i64 a.1,D.int .i64 a.2.1,D.str a.2.2.1,D.str a.2.2.2.1,D.sl false 5 (aB a.2.2.2.2.2.1)]]++[[D.int .i64 d.1,D.int .i64 d.2.1,D.str d.2.2.1,D.str d.2.2.2.1,D.sl false 5 (aB d.2.2.2.2.2.1)]],d.2.2.2.2.2.2)) none) none)) none)) none) none) none
def C.ZV{bH:zac}(CS:S.qY.ok X0 λx=>bH x.2.1.1 x.2.1.2.1 x.2.1.2.2.1 x.2.1.va.1):S.uj.ok X0 λx=>M.uU bH x.2.1.1 x.2.1.2.1 x.2.1.2.2.1 x.2.1.va.1 some:=fnS (λx=>zbH (M.uU bH) x.2.1) [fe C.iE,fe CS,fe C.bQ,fe C.aA] [] (by intros;unfold M.uU;exact zbI)
abbrev M.Om(kind:Int)(k:Bool->Option R):=cond (kind==0) (k true) (cond (kind==1) (k true) (cond (kind==2) (k true) (cond (kind==37) (k true) (k (kind==31)))))
def M.lQ kind:=M.Om kind some
def C.lQ:=fTa S.lQ (λx=>M.Om x.1.1)
abbrev M.Ik(c:au)(c1:Int)(c2:Bool)(c3:au)(k:au×Int×Bool×au->Option R):=cond (aj c3) ((M.aA c c1 c2 c3).bind λa=>(M.lQ a.1).bind λb=>cond (!b) (cond (aj a.2.2.2.2) (k (a.2.1,a.2.2.1,true,a.2.2.2.2)) none) (cond (aj a.2.2.2.2) (k (a.2)) none)) none
def M.jo c c1 c2 c3:=M.Ik c c1 c2 c3 some
def C.jo:=fTa S.jo (λx=>zbH M.Ik x.2.1) [fe C.aA,fe C.lQ]
abbrev M.Ad(end':Int)(r' oU:Bool)(c:au)(c1:Int)(c2:Bool)(c3:au)(k:Int×Int×aC×aC×Bool×au×au×Int×Bool×au->Option R):=cond (aj c3) ((M.aA c c1 c2 c3).bind λa=>cond (a.1==end') (cond (aj a.2.2.2.2) (k (16,0,[],[],true,[],a.2)) none) (cond (aj a.2.2.2.2) ((M.bP r' oU a.2.1 a.2.2.1 a.2.2.2.1 a.2.2.2.2).bind λb=>cond (aj b.2.2.2.2.2.2.2.2.2.2) (k (b.1,b.2.1,b.2.2.1,b.2.2.2.1,false,aB b.2.2.2.2.2.1,b.2.2.2.2.2.2.2)) none) none)) none
def M.fE end' r' oU c c1 c2 c3:=M.Ad end' r' oU c c1 c2 c3 some
def C.fE:=fTa S.fE (λx=>zbH (M.Ad x.1.2.1 x.1.2.2.1.1 x.1.2.2.1.2.1) x.2.1) [fe C.aA,fe C.bP]
abbrev M.wW(Zy:Int×Int×aC×aC×Bool×au×au×Int×Bool×au)(bH:zac)(k:Int×Int×aC×aC×Bool×au×au×Int×Bool×au->Option R):=cond (aj Zy.2.2.2.2.2.2.2.2.2) ((M.aO 37 Zy.2.2.2.2.2.2.1 Zy.2.2.2.2.2.2.2.1 Zy.2.2.2.2.2.2.2.2.1 Zy.2.2.2.2.2.2.2.2.2).bind λe=>cond (aj e.2.2.2.2) ((M.aP e.2.1 e.2.2.1 e.2.2.2.1 e.2.2.2.2).bind λg=>cond (aj g.2.2.2) ((M.fE 37 false false g.1 g.2.1 g.2.2.1 g.2.2.2).bind λb=>cond (aj b.2.2.2.2.2.2.2.2.2) ((M.aO 37 b.2.2.2.2.2.2.1 b.2.2.2.2.2.2.2.1 b.2.2.2.2.2.2.2.2.1 b.2.2.2.2.2.2.2.2.2).bind λf=>cond (aj f.2.2.2.2) ((M.aP f.2.1 f.2.2.1 f.2.2.2.1 f.2.2.2.2).bind λd=>cond (aj d.2.2.2) ((M.fE 33 false false d.1 d.2.1 d.2.2.1 d.2.2.2).bind λc=>cond (aj c.2.2.2.2.2.2.2.2.2) ((M.aO 33 c.2.2.2.2.2.2.1 c.2.2.2.2.2.2.2.1 c.2.2.2.2.2.2.2.2.1 c.2.2.2.2.2.2.2.2.2).bind λh=>cond (aj h.2.2.2.2) ((bH h.2.1 h.2.2.1 h.2.2.2.1 h.2.2.2.2).bind λa=>cond (aj a.2.2.2.2.2.2.2.2.2) (k (31,0,[],[],true,[[D.int .i64 Zy.1,D.int .i64 Zy.2.1,D.str Zy.2.2.1,D.str Zy.2.2.2.1,D.sl false 5 (aB Zy.2.2.2.2.2.1)],[D.int .i64 b.1,D.int .i64 b.2.1,D.str b.2.2.1,D.str b.2.2.2.1,D.sl false 5 (aB b.2.2.2.2.2.1)],[D.int .i64 c.1,D.int .i64 c.2.1,D.str c.2.2.1,D.str c.2.2.2.1,D.sl false 5 (aB c.2.2.2.2.2.1)],[D.int .i64 a.1,D.int .i64 a.2.1,D.str a.2.2.1,D.str a.2.2.2.1,D.sl false 5 (aB a.2.2.2.2.2.1)]],a.2.2.2.2.2.2)) none) none) none) none) none) none) none) none) none
def M.yj(bH:zac)(c:au)(c1:Int)(c2:Bool)(c3:au)(k:Int×Int×aC×aC×Bool×au×au×Int×Bool×au->Option R):=cond (aj c3) ((M.aO 32 c c1 c2 c3).bind λb=>cond (!b.2.2.2.1) (cond (aj b.2.2.2.2) ((M.aA b.2.1 b.2.2.1 b.2.2.2.1 b.2.2.2.2).bind λa=>cond (a.1==6) (cond (decide (i64.wrap (a.2.2.1+1)<(↑a.2.1.length:Int))) ((idx a.2.1 (i64.wrap (a.2.2.1+1))).bind λi=>(jD .i64 i 0).bind λl=>cond (l==24) (cond (aj a.2.2.2.2) ((M.bF a.2.1 a.2.2.1 a.2.2.2.1 a.2.2.2.2).bind λf=>cond (aj f.2.2.2.2) ((M.aO 24 f.2.1 f.2.2.1 f.2.2.2.1 f.2.2.2.2).bind λg=>cond (aj g.2.2.2.2) ((M.bF g.2.1 g.2.2.1 g.2.2.2.1 g.2.2.2.2).bind λe=>cond (aj e.2.2.2.2) ((M.aO 33 e.2.1 e.2.2.1 e.2.2.2.1 e.2.2.2.2).bind λh=>cond (aj h.2.2.2.2) ((bH h.2.1 h.2.2.1 h.2.2.2.1 h.2.2.2.2).bind λd=>cond (aj d.2.2.2.2.2.2.2.2.2) (k (32,0,f.1,e.1,true,[[D.int .i64 d.1,D.int .i64 d.2.1,D.str d.2.2.1,D.str d.2.2.2.1,D.sl false 5 (aB d.2.2.2.2.2.1)]],d.2.2.2.2.2.2)) none) none) none) none) none) none) (cond (aj a.2.2.2.2) ((M.fE 37 true false a.2.1 a.2.2.1 a.2.2.2.1 a.2.2.2.2).bind λo=>M.wW o bH k) none)) (cond (aj a.2.2.2.2) ((M.fE 37 true false a.2.1 a.2.2.1 a.2.2.2.1 a.2.2.2.2).bind λn=>M.wW n bH k) none)) (cond (aj a.2.2.2.2) ((M.fE 37 true false a.2.1 a.2.2.1 a.2.2.2.1 a.2.2.2.2).bind λj=>M.wW j bH k) none)) none) (cond (aj b.2.2.2.2) ((M.fE 37 true false b.2.1 b.2.2.1 b.2.2.2.1 b.2.2.2.2).bind λm=>M.wW m bH k) none)) none
def C.acw{bH:zac}(CS:S.qY.ok X0 λx=>bH x.2.1.1 x.2.1.2.1 x.2.1.2.2.1 x.2.1.va.1):S.xO.ok X0 λx=>M.yj bH x.2.1.1 x.2.1.2.1 x.2.1.2.2.1 x.2.1.va.1 some:=fnS (λx=>zbH (M.yj bH) x.2.1) [fe C.aO,fe C.aA,fe C.bF,fe CS,fe C.fE,fe C.aP] [] (by intros;unfold M.yj M.wW;exact zbI)
abbrev M.Vl(kind:Int)(k:Bool->Option R):=cond (kind==62) (k true) (cond (kind==53) (k true) (k (kind==64)))
def M.Fe kind:=M.Vl kind some
def C.Fe:=fTa S.Fe (λx=>M.Vl x.1.1)
abbrev M.aX(Ym:Int×Int×aC×aC×Bool×au×Bool×au×Int×Bool×au)(k:Int×Int×aC×aC×Bool×au×Bool×au×Int×Bool×au->Option R):=cond (aj Ym.2.2.2.2.2.2.2.2.2.2) (k (Ym.1,Ym.2.1,Ym.2.2.1,Ym.2.2.2.1,false,aB Ym.2.2.2.2.2.1,Ym.2.2.2.2.2.2)) none
def M.FX(pos:Int)(pos1 pos2 Ul aH7:Bool)(c:au)(c1:Int)(c2:Bool)(c3:au)(k:Int×Int×aC×aC×Bool×au×Bool×au×Int×Bool×au->Option R):=cond aH7 (cond (aj c3) ((M.aA c c1 c2 c3).bind λa=>(M.mV a.1).bind λz=>cond (!z) (cond (aj a.2.2.2.2) ((M.jH a.2.1 a.2.2.1 a.2.2.2.1 a.2.2.2.2).bind λT=>M.aX T k) none) (cond (pos==1) (cond (aj a.2.2.2.2) ((M.bP pos2 Ul a.2.1 a.2.2.1 a.2.2.2.1 a.2.2.2.2).bind λh=>M.aX h k) none) (cond (pos==2) (cond (aj a.2.2.2.2) ((M.nT pos2 Ul a.2.1 a.2.2.1 a.2.2.2.1 a.2.2.2.2).bind λL=>M.aX L k) none) (cond (pos==3) (cond (aj a.2.2.2.2) ((M.sU pos2 Ul a.2.1 a.2.2.1 a.2.2.2.1 a.2.2.2.2).bind λf=>M.aX f k) none) (cond (pos==4) (cond (aj a.2.2.2.2) ((M.oP pos2 Ul a.2.1 a.2.2.1 a.2.2.2.1 a.2.2.2.2).bind λy=>M.aX y k) none) (cond (pos==5) (cond (aj a.2.2.2.2) ((M.qA pos2 Ul a.2.1 a.2.2.1 a.2.2.2.1 a.2.2.2.2).bind λp=>M.aX p k) none) (cond (pos==6) (cond (aj a.2.2.2.2) ((M.mM pos2 Ul a.2.1 a.2.2.1 a.2.2.2.1 a.2.2.2.2).bind λI=>M.aX I k) none) (cond (pos==7) (cond (aj a.2.2.2.2) ((M.lN pos2 Ul a.2.1 a.2.2.1 a.2.2.2.1 a.2.2.2.2).bind λK=>M.aX K k) none) (cond (pos==8) (cond (aj a.2.2.2.2) ((M.qO pos2 Ul a.2.1 a.2.2.1 a.2.2.2.1 a.2.2.2.2).bind λq=>M.aX q k) none) (cond (pos==9) (cond (aj a.2.2.2.2) ((M.jU pos2 Ul a.2.1 a.2.2.1 a.2.2.2.1 a.2.2.2.2).bind λB=>M.aX B k) none) (cond (pos==10) (cond (aj a.2.2.2.2) ((M.oO pos2 Ul a.2.1 a.2.2.1 a.2.2.2.1 a.2.2.2.2).bind λm=>M.aX m k) none) (cond (pos==11) (cond (aj a.2.2.2.2) ((M.jQ pos2 Ul a.2.1 a.2.2.1 a.2.2.2.1 a.2.2.2.2).bind λC=>M.aX C k) none) (cond (pos==12) (cond (aj a.2.2.2.2) ((M.qN pos2 Ul a.2.1 a.2.2.1 a.2.2.2.1 a.2.2.2.2).bind λF=>M.aX F k) none) (cond (pos==13) (cond (aj a.2.2.2.2) ((M.oW a.2.1 a.2.2.1 a.2.2.2.1 a.2.2.2.2).bind λw=>M.aX w k) none) (cond (pos==14) (cond pos1 (cond (aj a.2.2.2.2) ((M.aA a.2.1 a.2.2.1 a.2.2.2.1 a.2.2.2.2).bind λb=>(M.iI b.1).bind λE=>cond E (cond (aj b.2.2.2.2) ((M.kZ b.2.1 b.2.2.1 b.2.2.2.1 b.2.2.2.2).bind λg=>M.aX g k) none) (cond (aj b.2.2.2.2) ((M.jF b.2.1 b.2.2.1 b.2.2.2.1 b.2.2.2.2).bind λj=>M.aX j k) none)) none) (cond (aj a.2.2.2.2) ((M.jF a.2.1 a.2.2.1 a.2.2.2.1 a.2.2.2.2).bind λr=>M.aX r k) none)) (cond (aj a.2.2.2.2) ((M.lM a.2.1 a.2.2.1 a.2.2.2.1 a.2.2.2.2).bind λN=>M.aX N k) none)))))))))))))))) none) (cond (pos==1) (cond (aj c3) ((M.bP pos2 Ul c c1 c2 c3).bind λt=>M.aX t k) none) (cond (pos==2) (cond (aj c3) ((M.nT pos2 Ul c c1 c2 c3).bind λA=>M.aX A k) none) (cond (pos==3) (cond (aj c3) ((M.sU pos2 Ul c c1 c2 c3).bind λn=>M.aX n k) none) (cond (pos==4) (cond (aj c3) ((M.oP pos2 Ul c c1 c2 c3).bind λi=>M.aX i k) none) (cond (pos==5) (cond (aj c3) ((M.qA pos2 Ul c c1 c2 c3).bind λQ=>M.aX Q k) none) (cond (pos==6) (cond (aj c3) ((M.mM pos2 Ul c c1 c2 c3).bind λu=>M.aX u k) none) (cond (pos==7) (cond (aj c3) ((M.lN pos2 Ul c c1 c2 c3).bind λe=>M.aX e k) none) (cond (pos==8) (cond (aj c3) ((M.qO pos2 Ul c c1 c2 c3).bind λP=>M.aX P k) none) (cond (pos==9) (cond (aj c3) ((M.jU pos2 Ul c c1 c2 c3).bind λO=>M.aX O k) none) (cond (pos==10) (cond (aj c3) ((M.oO pos2 Ul c c1 c2 c3).bind λD=>M.aX D k) none) (cond (pos==11) (cond (aj c3) ((M.jQ pos2 Ul c c1 c2 c3).bind λG=>M.aX G k) none) (cond (pos==12) (cond (aj c3) ((M.qN pos2 Ul c c1 c2 c3).bind λo=>M.aX o k) none) (cond (pos==13) (cond (aj c3) ((M.oW c c1 c2 c3).bind λv=>M.aX v k) none) (cond (pos==14) (cond pos1 (cond (aj c3) ((M.aA c c1 c2 c3).bind λd=>(M.iI d.1).bind λJ=>cond J (cond (aj d.2.2.2.2) ((M.kZ d.2.1 d.2.2.1 d.2.2.2.1 d.2.2.2.2).bind λs=>M.aX s k) none) (cond (aj d.2.2.2.2) ((M.jF d.2.1 d.2.2.1 d.2.2.2.1 d.2.2.2.2).bind λx=>M.aX x k) none)) none) (cond (aj c3) ((M.jF c c1 c2 c3).bind λl=>M.aX l k) none)) (cond (aj c3) ((M.lM c c1 c2 c3).bind λH=>M.aX H k) none)))))))))))))))
def M.kR pos pos1 pos2 Ul aH7 c c1 c2 c3:=M.FX pos pos1 pos2 Ul aH7 c c1 c2 c3 some
def C.kR:S.kR.ok X0 λx=>ng M.kR x.1.2.1 x.2.1.1 x.2.1.2.1 x.2.1.2.2.1 x.2.1.va.1:=fnS (λx=>zbH (M.FX x.1.2.1.1 x.1.2.1.2.1 x.1.2.1.2.2.1 x.1.2.1.va.1 x.1.2.1.va.2.1) x.2.1) [fe C.aA,fe C.mV,fe C.jH,fe C.bP,fe C.nT,fe C.sU,fe C.oP,fe C.qA,fe C.mM,fe C.lN,fe C.qO,fe C.jU,fe C.oO,fe C.jQ,fe C.qN,fe C.oW,fe C.iI,fe C.kZ,fe C.jF,fe C.lM] [] (by intros;unfold M.FX M.aX;exact zbI)
abbrev M.y9(QA:Int×au×Int×Bool×au)(k:Int×Int×aC×aC×Bool×au×au×Int×Bool×au->Option R)(kind:Int):=cond (!QA.2.2.2.1) (cond (aj QA.2.2.2.2) ((M.aA QA.2.1 QA.2.2.1 QA.2.2.2.1 QA.2.2.2.2).bind λa=>(M.Fe a.1).bind λd=>cond d (cond (aj a.2.2.2.2) ((M.fF a.2.1 a.2.2.1 a.2.2.2.1 a.2.2.2.2).bind λc=>cond (aj c.2.2.2.2) ((M.kR 9 false false false false c.2.1 c.2.2.1 c.2.2.2.1 c.2.2.2.2).bind λb=>cond (aj b.2.2.2.2.2.2.2.2.2.2) (k (21,i64.wrap (kind - 25),[],c.1,true,[[D.int .i64 b.1,D.int .i64 b.2.1,D.str b.2.2.1,D.str b.2.2.2.1,D.sl false 5 (aB b.2.2.2.2.2.1)]],b.2.2.2.2.2.2.2)) none) none) none) (cond (aj a.2.2.2.2) (k (21,i64.wrap (kind - 25),[],[],true,[],a.2)) none)) none) (cond (aj QA.2.2.2.2) (k (21,i64.wrap (kind - 25),[],[],true,[],QA.2)) none)
abbrev M.zf(V8:Bool×au×au×Int×Bool×au)(k:Int×Int×aC×aC×Bool×au×au×Int×Bool×au->Option R)(kind:Int):=(ayl 5 [D.sl V8.1 5 V8.2.1] 0).bind λd=>cond (!V8.2.2.2.2.1) (cond (aj V8.2.2.2.2.2) ((M.aA V8.2.2.1 V8.2.2.2.1 V8.2.2.2.2.1 V8.2.2.2.2.2).bind λa=>(M.Fe a.1).bind λe=>cond e (cond (aj a.2.2.2.2) ((M.fF a.2.1 a.2.2.1 a.2.2.2.1 a.2.2.2.2).bind λc=>cond (aj c.2.2.2.2) ((M.kR 9 false false false false c.2.1 c.2.2.1 c.2.2.2.1 c.2.2.2.2).bind λb=>cond (((d.length+[[D.int .i64 b.1,D.int .i64 b.2.1,D.str b.2.2.1,D.str b.2.2.2.1,D.sl false 5 (aB b.2.2.2.2.2.1)]].length) * 72).ble 140737488355328) (cond ((d.length+[[D.int .i64 b.1,D.int .i64 b.2.1,D.str b.2.2.1,D.str b.2.2.2.1,D.sl false 5 (aB b.2.2.2.2.2.1)]].length).ble 140737488355328) (cond (aj b.2.2.2.2.2.2.2.2.2.2) (k (21,i64.wrap (kind - 25),[],c.1,true,d++[[D.int .i64 b.1,D.int .i64 b.2.1,D.str b.2.2.1,D.str b.2.2.2.1,D.sl false 5 (aB b.2.2.2.2.2.1)]],b.2.2.2.2.2.2.2)) none) none) none) none) none) (cond (aj a.2.2.2.2) (k (21,i64.wrap (kind - 25),[],[],true,d,a.2)) none)) none) (cond (aj V8.2.2.2.2.2) (k (21,i64.wrap (kind - 25),[],[],true,d,V8.2.2)) none)
def M.Ae(kind:Int)(c:au)(c1:Int)(c2:Bool)(c3:au)(k:Int×Int×aC×aC×Bool×au×au×Int×Bool×au->Option R):=cond (i64.wrap (kind - 25)==1) (cond (aj c3) ((M.je false true c c1 c2 c3).bind λg=>M.zf g k kind) none) (cond (aj c3) ((M.aA c c1 c2 c3).bind λa=>(M.lQ a.1).bind λf=>cond (!f) (cond (aj a.2.2.2.2) ((M.aA a.2.1 a.2.2.1 a.2.2.2.1 a.2.2.2.2).bind λb=>(M.Fe b.1).bind λe=>cond (!e) (cond (aj b.2.2.2.2) ((M.je false true b.2.1 b.2.2.1 b.2.2.2.1 b.2.2.2.2).bind λd=>M.zf d k kind) none) (M.y9 b k kind)) none) (M.y9 a k kind)) none)
def M.oq kind c c1 c2 c3:=M.Ae kind c c1 c2 c3 some
def C.oq:S.oq.ok X0 λx=>zbH (M.oq x.1.2.1) x.2.1:=fnS (λx=>zbH (M.Ae x.1.2.1) x.2.1) [fe C.je,fe C.aA,fe C.Fe,fe C.fF,fe C.kR,fe C.lQ] [] (by intros;unfold M.Ae M.zf M.y9;exact zbI)
abbrev M.xC(fP:Int×au×Int×Bool×au)(k:Int×Int×aC×aC×Bool×au×au×Int×Bool×au->Option R):=cond (aj fP.2.2.2.2) ((M.oq fP.1 fP.2.1 (i64.wrap (fP.2.2.1+1)) fP.2.2.2.1 fP.2.2.2.2).bind λa=>cond (aj a.2.2.2.2.2.2.2.2.2) (k (a.1,a.2.1,a.2.2.1,a.2.2.2.1,false,aB a.2.2.2.2.2.1,a.2.2.2.2.2.2)) none) none
abbrev M.xE(fP:Int×au×Int×Bool×au)(k:Int×Int×aC×aC×Bool×au×au×Int×Bool×au->Option R):=cond (aj fP.2.2.2.2) ((M.aA fP.2.1 (i64.wrap (fP.2.2.1+1)) fP.2.2.2.1 fP.2.2.2.2).bind λa=>(M.lQ a.1).bind λc=>cond (!c) (cond (aj a.2.2.2.2) ((M.bP false false a.2.1 a.2.2.1 a.2.2.2.1 a.2.2.2.2).bind λb=>cond (aj b.2.2.2.2.2.2.2.2.2.2) (k (24,0,[],[],true,[[D.int .i64 b.1,D.int .i64 b.2.1,D.str b.2.2.1,D.str b.2.2.2.1,D.sl false 5 (aB b.2.2.2.2.2.1)]],b.2.2.2.2.2.2.2)) none) none) (cond (aj a.2.2.2.2) (k (24,0,[],[],true,[],a.2)) none)) none
abbrev M.xF(fP:Int×au×Int×Bool×au)(k:Int×Int×aC×aC×Bool×au×au×Int×Bool×au->Option R):=cond (aj fP.2.2.2.2) ((M.aA fP.2.1 (i64.wrap (fP.2.2.1+1)) fP.2.2.2.1 fP.2.2.2.2).bind λa=>(M.lQ a.1).bind λc=>cond (!c) (cond (aj a.2.2.2.2) ((M.bP false false a.2.1 a.2.2.1 a.2.2.2.1 a.2.2.2.2).bind λb=>cond (aj b.2.2.2.2.2.2.2.2.2.2) (k (23,0,[],[],true,[[D.int .i64 b.1,D.int .i64 b.2.1,D.str b.2.2.1,D.str b.2.2.2.1,D.sl false 5 (aB b.2.2.2.2.2.1)]],b.2.2.2.2.2.2.2)) none) none) (cond (aj a.2.2.2.2) (k (23,0,[],[],true,[],a.2)) none)) none
abbrev M.xG(fP:Int×au×Int×Bool×au)(k:Int×Int×aC×aC×Bool×au×au×Int×Bool×au->Option R):=cond (aj fP.2.2.2.2) ((M.aA fP.2.1 (i64.wrap (fP.2.2.1+1)) fP.2.2.2.1 fP.2.2.2.2).bind λa=>(M.lQ a.1).bind λc=>cond (!c) (cond (aj a.2.2.2.2) ((M.bP false false a.2.1 a.2.2.1 a.2.2.2.1 a.2.2.2.2).bind λb=>cond (aj b.2.2.2.2.2.2.2.2.2.2) (k (26,0,[],[],true,[[D.int .i64 b.1,D.int .i64 b.2.1,D.str b.2.2.1,D.str b.2.2.2.1,D.sl false 5 (aB b.2.2.2.2.2.1)]],b.2.2.2.2.2.2.2)) none) none) (cond (aj a.2.2.2.2) (k (26,0,[],[],true,[],a.2)) none)) none
abbrev M.xH(fP:Int×au×Int×Bool×au)(k:Int×Int×aC×aC×Bool×au×au×Int×Bool×au->Option R):=cond (aj fP.2.2.2.2) ((M.aA fP.2.1 (i64.wrap (fP.2.2.1+1)) fP.2.2.2.1 fP.2.2.2.2).bind λa=>(M.lQ a.1).bind λc=>cond (!c) (cond (aj a.2.2.2.2) ((M.bP false false a.2.1 a.2.2.1 a.2.2.2.1 a.2.2.2.2).bind λb=>cond (aj b.2.2.2.2.2.2.2.2.2.2) (k (25,0,[],[],true,[[D.int .i64 b.1,D.int .i64 b.2.1,D.str b.2.2.1,D.str b.2.2.2.1,D.sl false 5 (aB b.2.2.2.2.2.1)]],b.2.2.2.2.2.2.2)) none) none) (cond (aj a.2.2.2.2) (k (25,0,[],[],true,[],a.2)) none)) none
abbrev M.xI(fP:Int×au×Int×Bool×au)(k:Int×Int×aC×aC×Bool×au×au×Int×Bool×au->Option R):=cond (aj fP.2.2.2.2) ((M.aA fP.2.1 (i64.wrap (fP.2.2.1+1)) fP.2.2.2.1 fP.2.2.2.2).bind λa=>(M.lQ a.1).bind λc=>cond (!c) (cond (aj a.2.2.2.2) ((M.bP false false a.2.1 a.2.2.1 a.2.2.2.1 a.2.2.2.2).bind λb=>cond (aj b.2.2.2.2.2.2.2.2.2.2) (k (22,0,[],[],true,[[D.int .i64 b.1,D.int .i64 b.2.1,D.str b.2.2.1,D.str b.2.2.2.1,D.sl false 5 (aB b.2.2.2.2.2.1)]],b.2.2.2.2.2.2.2)) none) none) (cond (aj a.2.2.2.2) (k (22,0,[],[],true,[],a.2)) none)) none
def M.zh(c:au)(c1:Int)(c2:Bool)(c3:au)(k:Int×Int×aC×aC×Bool×au×au×Int×Bool×au->Option R):=cond (aj c3) ((M.aA c c1 c2 c3).bind λa=>cond (a.1==25) (M.xC a k) (cond (a.1==26) (M.xC a k) (cond (a.1==20) (cond (a.1==21) (M.xI a k) (cond (a.1==22) (M.xI a k) (cond (aj a.2.2.2.2) (k (22,0,[],[],true,[],a.2.1,i64.wrap (a.2.2.1+1),a.2.2.2)) none))) (cond (a.1==18) (cond (a.1==21) (M.xH a k) (cond (a.1==22) (M.xH a k) (cond (aj a.2.2.2.2) (k (25,0,[],[],true,[],a.2.1,i64.wrap (a.2.2.1+1),a.2.2.2)) none))) (cond (a.1==19) (cond (a.1==21) (M.xG a k) (cond (a.1==22) (M.xG a k) (cond (aj a.2.2.2.2) (k (26,0,[],[],true,[],a.2.1,i64.wrap (a.2.2.1+1),a.2.2.2)) none))) (cond (a.1==21) (cond (a.1==21) (M.xF a k) (cond (a.1==22) (M.xF a k) (cond (aj a.2.2.2.2) (k (23,0,[],[],true,[],a.2.1,i64.wrap (a.2.2.1+1),a.2.2.2)) none))) (cond (a.1==22) (cond (a.1==21) (M.xE a k) (cond (a.1==22) (M.xE a k) (cond (aj a.2.2.2.2) (k (24,0,[],[],true,[],a.2.1,i64.wrap (a.2.2.1+1),a.2.2.2)) none))) (cond (a.1==23) (cond (aj a.2.2.2.2) ((M.bF a.2.1 (i64.wrap (a.2.2.1+1)) a.2.2.2.1 a.2.2.2.2).bind λe=>cond (!e.2.2.2.1) (cond (aj e.2.2.2.2) ((M.aA e.2.1 e.2.2.1 e.2.2.2.1 e.2.2.2.2).bind λb=>cond (b.1==34) (cond (aj b.2.2.2.2) ((M.jm 35 b.2.1 (i64.wrap (b.2.2.1+1)) b.2.2.2.1 b.2.2.2.2).bind λf=>cond (aj f.2.2.2.2.2) (k (27,0,e.1,[],false,aB f.2.1,f.2.2)) none) none) (cond (aj b.2.2.2.2) (k (27,0,e.1,[],true,[],b.2)) none)) none) (cond (aj e.2.2.2.2) (k (27,0,e.1,[],true,[],e.2)) none)) none) (cond (aj a.2.2.2.2) ((M.bP false false a.2.1 a.2.2.1 a.2.2.2.1 a.2.2.2.2).bind λd=>cond (aj d.2.2.2.2.2.2.2.2.2.2) (k (20,0,[],[],true,[[D.int .i64 d.1,D.int .i64 d.2.1,D.str d.2.2.1,D.str d.2.2.2.1,D.sl false 5 (aB d.2.2.2.2.2.1)]],d.2.2.2.2.2.2.2)) none) none))))))))) none
def M.mW c c1 c2 c3:=M.zh c c1 c2 c3 some
def C.mW:S.mW.ok X0 λx=>zbH M.mW x.2.1:=fnS (λx=>zbH M.zh x.2.1) [fe C.aA,fe C.oq,fe C.lQ,fe C.bP,fe C.bF,fe C.jm] [] (by intros;unfold M.zh M.xI M.xH M.xG M.xF M.xE M.xC;exact zbI)
end
noncomputable section
variable {R:Type}
abbrev M.mY(tq:Int×au×Int×Bool×au)(jP:zac)(k:Int×Int×aC×aC×Bool×au×au×Int×Bool×au->Option R)(bH:zac)(kQ:zac):=cond (tq.1==13) (cond (aj tq.2.2.2.2) ((jP tq.2.1 (i64.wrap (tq.2.2.1+1)) tq.2.2.2.1 tq.2.2.2.2).bind λa=>cond (aj a.2.2.2.2.2.2.2.2.2) (k (a.1,a.2.1,a.2.2.1,a.2.2.2.1,false,aB a.2.2.2.2.2.1,a.2.2.2.2.2.2)) none) none) (cond (tq.1==15) (cond (aj tq.2.2.2.2) ((M.iE tq.2.1 (i64.wrap (tq.2.2.1+1)) tq.2.2.2.1 tq.2.2.2.2).bind λc=>cond (aj c.2.2.2.2.2.2.2.2.2) ((bH c.2.2.2.2.2.2.1 c.2.2.2.2.2.2.2.1 c.2.2.2.2.2.2.2.2.1 c.2.2.2.2.2.2.2.2.2).bind λe=>cond (aj e.2.2.2.2.2.2.2.2.2) (k (29,0,[],[],true,[[D.int .i64 c.1,D.int .i64 c.2.1,D.str c.2.2.1,D.str c.2.2.2.1,D.sl false 5 (aB c.2.2.2.2.2.1)],[D.int .i64 e.1,D.int .i64 e.2.1,D.str e.2.2.1,D.str e.2.2.2.1,D.sl false 5 (aB e.2.2.2.2.2.1)]],e.2.2.2.2.2.2)) none) none) none) (cond (tq.1==17) (cond (aj tq.2.2.2.2) ((bH tq.2.1 (i64.wrap (tq.2.2.1+1)) tq.2.2.2.1 tq.2.2.2.2).bind λf=>cond (aj f.2.2.2.2.2.2.2.2.2) ((M.bQ f.2.2.2.2.2.2.1 f.2.2.2.2.2.2.2.1 f.2.2.2.2.2.2.2.2.1 f.2.2.2.2.2.2.2.2.2).bind λg=>cond (aj g.2.2.2) ((M.aO 15 g.1 g.2.1 g.2.2.1 g.2.2.2).bind λh=>cond (aj h.2.2.2.2) ((M.iE h.2.1 h.2.2.1 h.2.2.2.1 h.2.2.2.2).bind λd=>cond (!d.2.2.2.2.2.2.2.2.1) (cond (aj d.2.2.2.2.2.2.2.2.2) ((M.jo d.2.2.2.2.2.2.1 d.2.2.2.2.2.2.2.1 d.2.2.2.2.2.2.2.2.1 d.2.2.2.2.2.2.2.2.2).bind λi=>cond (aj i.2.2.2) (k (30,0,[],[],true,[[D.int .i64 f.1,D.int .i64 f.2.1,D.str f.2.2.1,D.str f.2.2.2.1,D.sl false 5 (aB f.2.2.2.2.2.1)],[D.int .i64 d.1,D.int .i64 d.2.1,D.str d.2.2.1,D.str d.2.2.2.1,D.sl false 5 (aB d.2.2.2.2.2.1)]],i)) none) none) (cond (aj d.2.2.2.2.2.2.2.2.2) (k (30,0,[],[],true,[[D.int .i64 f.1,D.int .i64 f.2.1,D.str f.2.2.1,D.str f.2.2.2.1,D.sl false 5 (aB f.2.2.2.2.2.1)],[D.int .i64 d.1,D.int .i64 d.2.1,D.str d.2.2.1,D.str d.2.2.2.1,D.sl false 5 (aB d.2.2.2.2.2.1)]],d.2.2.2.2.2.2)) none)) none) none) none) none) (cond (aj tq.2.2.2.2) ((kQ tq.2.1 (i64.wrap (tq.2.2.1+1)) tq.2.2.2.1 tq.2.2.2.2).bind λb=>cond (aj b.2.2.2.2.2.2.2.2.2) (k (b.1,b.2.1,b.2.2.1,b.2.2.2.1,false,aB b.2.2.2.2.2.1,b.2.2.2.2.2.2)) none) none)))
def M.nY(jC:zac)(jP:zac)(bH:zac)(kQ:zac)(c:au)(c1:Int)(c2:Bool)(c3:au)(k:Int×Int×aC×aC×Bool×au×au×Int×Bool×au->Option R):=cond (aj c3) ((M.aA c c1 c2 c3).bind λd=>cond (d.1==30) (cond (aj d.2.2.2.2) ((jC d.2.1 d.2.2.1 d.2.2.2.1 d.2.2.2.2).bind λb=>cond (aj b.2.2.2.2.2.2.2.2.2) (k (b.1,b.2.1,b.2.2.1,b.2.2.2.1,false,aB b.2.2.2.2.2.1,b.2.2.2.2.2.2)) none) none) (cond (d.1==13) (M.mY d jP k bH kQ) (cond (d.1==15) (M.mY d jP k bH kQ) (cond (d.1==17) (M.mY d jP k bH kQ) (cond (d.1==16) (M.mY d jP k bH kQ) (cond (aj d.2.2.2.2) ((M.mW d.2.1 d.2.2.1 d.2.2.2.1 d.2.2.2.2).bind λa=>cond (!a.2.2.2.2.2.2.2.2.1) (cond (aj a.2.2.2.2.2.2.2.2.2) ((M.jo a.2.2.2.2.2.2.1 a.2.2.2.2.2.2.2.1 a.2.2.2.2.2.2.2.2.1 a.2.2.2.2.2.2.2.2.2).bind λe=>cond (aj e.2.2.2) (k (a.1,a.2.1,a.2.2.1,a.2.2.2.1,false,aB a.2.2.2.2.2.1,e)) none) none) (cond (aj a.2.2.2.2.2.2.2.2.2) (k (a.1,a.2.1,a.2.2.1,a.2.2.2.1,false,aB a.2.2.2.2.2.1,a.2.2.2.2.2.2)) none)) none)))))) none
def C.Xx{jC:zac}{jP:zac}{bH:zac}{kQ:zac}(MQ:S.cZ.ok X0 λx=>jC x.2.1.1 x.2.1.2.1 x.2.1.2.2.1 x.2.1.va.1)(abu:S.uj.ok X0 λx=>jP x.2.1.1 x.2.1.2.1 x.2.1.2.2.1 x.2.1.va.1)(CS:S.qY.ok X0 λx=>bH x.2.1.1 x.2.1.2.1 x.2.1.2.2.1 x.2.1.va.1)(aeS:S.xO.ok X0 λx=>kQ x.2.1.1 x.2.1.2.1 x.2.1.2.2.1 x.2.1.va.1):S.lD.ok X0 λx=>M.nY jC jP bH kQ x.2.1.1 x.2.1.2.1 x.2.1.2.2.1 x.2.1.va.1 some:=fnS (λx=>zbH (M.nY jC jP bH kQ) x.2.1) [fe C.aA,fe MQ,fe abu,fe C.iE,fe CS,fe C.bQ,fe C.aO,fe C.jo,fe aeS,fe C.mW] [] (by intros;unfold M.nY M.mY;exact zbI)
def M.rD(bT:zac)(s:zav⊕zau)(kn:zav⊕zau->Option R)(ke:zav⊕zau->Option R):Option R:=match s with
 | .inl (v,v1,v2,x',o7,qg,uX,xB,Dn,H7,KW,Pm)=>bif !v2 then(bif aj Pm then((M.aA v v1 v2 Pm).bind λd=>bif d.1 !=31 then(bif aj d.2.2.2.2 then((M.dU d.2.1 d.2.2.1 d.2.2.2.1 d.2.2.2.2).bind λf=>bif((aB (aB f.2.1)).length * 72).ble 140737488355328 then(bif(aB (aB f.2.1)).length.ble 140737488355328 then(bif aj f.2.2.2.2.2 then((bT f.2.2.1 f.2.2.2.1 f.2.2.2.2.1 f.2.2.2.2.2).bind λa=>oV (aB (aB f.2.1)) [[D.int .i64 a.1,D.int .i64 a.2.1,D.str a.2.2.1,D.str a.2.2.2.1,D.sl false 5 (aB a.2.2.2.2.2.1)]] 72 λza=>bif aj a.2.2.2.2.2.2.2.2.2 then((M.bQ a.2.2.2.2.2.2.1 a.2.2.2.2.2.2.2.1 a.2.2.2.2.2.2.2.2.1 a.2.2.2.2.2.2.2.2.2).bind λg=>kn (.inr (g.1,g.2.1,g.2.2.1,x',o7,qg,uX,xB,Dn,H7,KW,g.2.2.2,za))) else none) else none) else none) else none) else none) else ke (.inl (d.2.1,d.2.2.1,d.2.2.2.1,x',o7,qg,uX,xB,Dn,H7,KW,d.2.2.2.2))) else none) else(ke (.inl (v,v1,v2,x',o7,qg,uX,xB,Dn,H7,KW,Pm)))
 | .inr (v,v1,v2,x',o7,qg,uX,xB,Dn,H7,KW,Pm,Uu)=>bif !v2 then(bif aj Pm then((M.aA v v1 v2 Pm).bind λb=>bif b.1 !=31 then(bif aj b.2.2.2.2 then((M.dU b.2.1 b.2.2.1 b.2.2.2.1 b.2.2.2.2).bind λe=>bif((Uu.length+(aB (aB e.2.1)).length) * 72).ble 140737488355328 then(bif(Uu.length+(aB (aB e.2.1)).length).ble 140737488355328 then(bif aj e.2.2.2.2.2 then((bT e.2.2.1 e.2.2.2.1 e.2.2.2.2.1 e.2.2.2.2.2).bind λc=>oV (Uu++aB (aB e.2.1)) [[D.int .i64 c.1,D.int .i64 c.2.1,D.str c.2.2.1,D.str c.2.2.2.1,D.sl false 5 (aB c.2.2.2.2.2.1)]] 72 λza=>bif aj c.2.2.2.2.2.2.2.2.2 then((M.bQ c.2.2.2.2.2.2.1 c.2.2.2.2.2.2.2.1 c.2.2.2.2.2.2.2.2.1 c.2.2.2.2.2.2.2.2.2).bind λh=>kn (.inr (h.1,h.2.1,h.2.2.1,x',o7,qg,uX,xB,Dn,H7,KW,h.2.2.2,za))) else none) else none) else none) else none) else none) else ke (.inr (b.2.1,b.2.2.1,b.2.2.2.1,x',o7,qg,uX,xB,Dn,H7,KW,b.2.2.2.2,Uu))) else none) else ke (.inr (v,v1,v2,x',o7,qg,uX,xB,Dn,H7,KW,Pm,Uu))
def M.rE bT s:=M.rD bT s (λs=>some (Sum.inl s)) λt=>some (Sum.inr t)
def M.qI bT s:=fV (M.rE bT) s
def F.qI{bT:zac}(uT:S.lD.ok X0 λx=>bT x.2.1.1 x.2.1.2.1 x.2.1.2.2.1 x.2.1.va.1):LE X0 49:=le 4 (pOr (IC zbu [dD 100000 zbr,dD 300000 zbn,dD 300001 zbn,dD 300002 zbj]) (IC zbu zbw)) (σ:=zav⊕zau) (λx=>(match x with| .inl x=> .inl ((x.2.1.1,x.2.1.2.1,x.2.1.2.2.1,x.2.2.1.1,x.2.2.1.2.1,x.2.2.1.2.2.1,x.2.2.1.va.1,x.va.1.1,x.va.1.2.1,x.va.1.2.2.1,x.va.1.va.1,x.va.2.1))| .inr x=> .inr ((x.2.1.1,x.2.1.2.1,x.2.1.2.2.1,x.2.2.1.1,x.2.2.1.2.1,x.2.2.1.2.2.1,x.2.2.1.va.1,x.va.1.1,x.va.1.2.1,x.va.1.2.2.1,x.va.1.va.1,x.va.2.1,x.va.2.2.1)))) (λx s=>(match s with| .inl s=> .inl ((((),(),(),()),((s.1,s.2.1,s.2.2.1,(),()),(s.va.1,s.va.2.1,s.va.2.2.1,s.va.va.1,(),()),(s.va.va.2.1,s.wc.1,s.wc.2.1,s.wc.2.2.1,(),()),s.wc.va,())))| .inr s=> .inr ((((),(),(),()),((s.1,s.2.1,s.2.2.1,(),()),(s.va.1,s.va.2.1,s.va.2.2.1,s.va.va.1,(),()),(s.va.va.2.1,s.wc.1,s.wc.2.1,s.wc.2.2.1,(),()),s.wc.va.1,s.wc.va.2,()))))) (λx=> .sum (.leaf zav (λt=>(Ex.exit 0,⟨[(0,V.ptr 100000 0),(2,V.ptr 300000 0),(3,V.ptr 300001 0),(18,ou false)],[(100000,zaY t 300002),(300000,Cell.box 52 [iY t.va.1,iY t.va.2.1,qU t.va.2.2.1,qU t.va.va.1,V.nil 5]),(300001,Cell.box 52 [iY t.va.va.2.1,iY t.wc.1,qU t.wc.2.1,qU t.wc.2.2.1,V.nil 5]),(300002,Cell.arr false true 0 1 t.wc.va)]⟩))) (.leaf zau (λt=>(Ex.exit 0,⟨[(0,V.ptr 100000 0),(2,V.ptr 300000 0),(3,V.ptr 300001 0),(18,ou false)],[(100000,zaY t 300002),(300000,Cell.box 52 [iY t.va.1,iY t.va.2.1,qU t.va.2.2.1,qU t.va.va.1,V.nil 5]),(300001,Cell.box 52 [iY t.va.va.2.1,iY t.wc.1,qU t.wc.2.1,qU t.wc.2.2.1,V.own 300003 0]),(300002,Cell.arr false true 0 1 t.wc.va.1),(300003,Cell.arr false false 0 5 t.wc.va.2)]⟩)))) (λx=>M.rD bT) [fe C.aA,fe C.dU,fe uT,fe C.bQ] [] (by rintro _ _ (⟨_,_,_,_,_,_,_,_,_,_,_,_⟩|⟨_,_,_,_,_,_,_,_,_,_,_,_,_⟩) _ _<;>unfold M.rD<;>exact zbI) (hE:=by intro _ _ s _;rcases s with s|s<;>kernel_rfl)
def M.rV(bT:zac)(c:au)(c1:Int)(c2:Bool)(c3:au)(k:Int×Int×aC×aC×Bool×au×au×Int×Bool×au->Option R):=cond (aj c3) ((M.aO 30 c c1 c2 c3).bind λh=>cond (aj h.2.2.2.2) ((M.bQ h.2.1 h.2.2.1 h.2.2.2.1 h.2.2.2.2).bind λi=>(M.qI bT (.inl (i.1,i.2.1,i.2.2.1,0,0,[],[],33,0,[],[],i.2.2.2))).bind λj=>kD j (λa=>cond (aj a.2.2.2.2.2.2.2.2.2.2.2) ((M.aO 31 a.1 a.2.1 a.2.2.1 a.2.2.2.2.2.2.2.2.2.2.2).bind λf=>cond (aj f.2.2.2.2) ((M.dU f.2.1 f.2.2.1 f.2.2.2.1 f.2.2.2.2).bind λb=>cond (((aB (aB b.2.1)).length * 72).ble 140737488355328) (cond ((aB (aB b.2.1)).length.ble 140737488355328) (cond (aj b.2.2.2.2.2) (k (a.2.2.2.2.2.2.2.1,a.2.2.2.2.2.2.2.2.1,a.2.2.2.2.2.2.2.2.2.1,a.2.2.2.2.2.2.2.2.2.2.1,true,aB (aB b.2.1),b.2.2)) none) none) none) none) none) λl=>letE l λe=>cond (aj e.2.2.2.2.2.2.2.2.2.2.2.1) ((M.aO 31 e.1 e.2.1 e.2.2.1 e.2.2.2.2.2.2.2.2.2.2.2.1).bind λg=>cond (aj g.2.2.2.2) ((M.dU g.2.1 g.2.2.1 g.2.2.2.1 g.2.2.2.2).bind λd=>cond (((e.2.2.2.2.2.2.2.2.2.2.2.2.length+(aB (aB d.2.1)).length) * 72).ble 140737488355328) (cond ((e.2.2.2.2.2.2.2.2.2.2.2.2.length+(aB (aB d.2.1)).length).ble 140737488355328) (cond (aj d.2.2.2.2.2) (k (e.2.2.2.2.2.2.2.1,e.2.2.2.2.2.2.2.2.1,e.2.2.2.2.2.2.2.2.2.1,e.2.2.2.2.2.2.2.2.2.2.1,true,e.2.2.2.2.2.2.2.2.2.2.2.2++aB (aB d.2.1),d.2.2)) none) none) none) none) none) none) none
def C.abv{bT:zac}(uT:S.lD.ok X0 λx=>bT x.2.1.1 x.2.1.2.1 x.2.1.2.2.1 x.2.1.va.1):S.cZ.ok X0 λx=>M.rV bT x.2.1.1 x.2.1.2.1 x.2.1.2.2.1 x.2.1.va.1 some:=fnS (λx=>zbH (M.rV bT) x.2.1) [fe C.aO,fe C.bQ,fe C.dU] [F.qI uT] (by intros;unfold M.rV;exact zbI)
def M.jr:Nat->(zac)×(zac)×(zac)×(zac)×(zac):=Nat.rec (λ_ _ _ _=>none,λ_ _ _ _=>none,λ_ _ _ _=>none,λ_ _ _ _=>none,λ_ _ _ _=>none) λ_ qz=>(λc c1 c2 c3=>M.rV qz.2.2.2.2 c c1 c2 c3 some,λc c1 c2 c3=>M.uH qz.1 qz.2.2.2.2 c c1 c2 c3 some,λc c1 c2 c3=>M.uU qz.2.1 c c1 c2 c3 some,λc c1 c2 c3=>M.yj qz.2.1 c c1 c2 c3 some,λc c1 c2 c3=>M.nY qz.1 qz.2.2.1 qz.2.1 qz.2.2.2.1 c c1 c2 c3 some)
def M.nS n:=(M.jr n).1
def M.lq n:=(M.jr n).2.1
def M.zi n:=(M.jr n).2.2.1
def M.CU n:=(M.jr n).2.2.2.1
def M.jT n:=(M.jr n).2.2.2.2
def M.UZ(n:Nat):M.nS (n+1)=λc c1 c2 c3=>M.rV (M.jT n) c c1 c2 c3 some:=rfl
def M.Wh(n:Nat):M.lq (n+1)=λc c1 c2 c3=>M.uH (M.nS n) (M.jT n) c c1 c2 c3 some:=rfl
def M.abw(n:Nat):M.zi (n+1)=λc c1 c2 c3=>M.uU (M.lq n) c c1 c2 c3 some:=rfl
def M.aeT(n:Nat):M.CU (n+1)=λc c1 c2 c3=>M.yj (M.lq n) c c1 c2 c3 some:=rfl
def M.OZ(n:Nat):M.jT (n+1)=λc c1 c2 c3=>M.nY (M.nS n) (M.zi n) (M.lq n) (M.CU n) c c1 c2 c3 some:=rfl
def M.cZ c c1 c2 c3:=lim λn=>M.nS n c c1 c2 c3
def M.qY c c1 c2 c3:=lim λn=>M.lq n c c1 c2 c3
def M.uj c c1 c2 c3:=lim λn=>M.zi n c c1 c2 c3
def M.xO c c1 c2 c3:=lim λn=>M.CU n c c1 c2 c3
def M.lD c c1 c2 c3:=lim λn=>M.jT n c c1 c2 c3
def C.jr:∀n,(S.cZ.ok X0 λx=>zbH (M.nS n) x.2.1)/\(S.qY.ok X0 λx=>zbH (M.lq n) x.2.1)/\(S.uj.ok X0 λx=>zbH (M.zi n) x.2.1)/\(S.xO.ok X0 λx=>zbH (M.CU n) x.2.1)/\(S.lD.ok X0 λx=>zbH (M.jT n) x.2.1)
 |0=>⟨fA.zero,fA.zero,fA.zero,fA.zero,fA.zero⟩
 |n+1=>have h:=C.jr n;⟨C.abv h.2.2.2.2,C.acv h.1 h.2.2.2.2,C.ZV h.2.1,C.acw h.2.1,C.Xx h.1 h.2.2.1 h.2.1 h.2.2.2.1⟩
def C.cZ:S.cZ.ok X0 λx=>zbH M.cZ x.2.1:=fA.lim λn=>(C.jr n).1
def M.Um{n:Nat}{c:au}{c1:Int}{c2:Bool}{c3:au}{r:Int×Int×aC×aC×Bool×au×au×Int×Bool×au}(h:M.nS n c c1 c2 c3=some r):M.cZ c c1 c2 c3=some r:=fA.Jf (λn=>(C.jr n).1) (by intro a b h;simp[S.cZ,sg] at h;first|exact h|simp[Prod.ext_iff,h]) (x:=(((),()),((c,c1,c2,c3,()),()))) h
def C.qY:S.qY.ok X0 λx=>zbH M.qY x.2.1:=fA.lim λn=>(C.jr n).2.1
def C.uj:S.uj.ok X0 λx=>zbH M.uj x.2.1:=fA.lim λn=>(C.jr n).2.2.1
def C.xO:S.xO.ok X0 λx=>zbH M.xO x.2.1:=fA.lim λn=>(C.jr n).2.2.2.1
def C.lD:S.lD.ok X0 λx=>zbH M.lD x.2.1:=fA.lim λn=>(C.jr n).2.2.2.2
def M.iV(s:zaL⊕zau)(kn:zaL⊕zau->Option R)(ke:zau⊕zav⊕zaO⊕zau->Option R):Option R:=match s with
 | .inl (v31,v,v1,v2,x',o7,qg,uX,xB,Dn,H7,KW,Pm)=>bif !v2 then(bif aj Pm then((M.bF v v1 v2 Pm).bind λd=>bif d.2.2.2.1 then(ke (.inl (d.2.1,d.2.2.1,d.2.2.2.1,x',o7,qg,uX,xB,Dn,H7,KW,d.2.2.2.2,[[D.int .i64 1,D.int .i64 0,D.str d.1,D.str [],D.sl true 5 []]]))) else bif aj d.2.2.2.2 then((M.aA d.2.1 d.2.2.1 d.2.2.2.1 d.2.2.2.2).bind λb=>bif b.1 !=36 then(ke (.inl (b.2.1,b.2.2.1,b.2.2.2.1,x',o7,qg,uX,xB,Dn,H7,KW,b.2.2.2.2,[[D.int .i64 1,D.int .i64 0,D.str d.1,D.str [],D.sl true 5 []]]))) else bif aj b.2.2.2.2 then((M.aP b.2.1 (i64.wrap (b.2.2.1+1)) b.2.2.2.1 b.2.2.2.2).bind λf=>kn (.inr (f.1,f.2.1,f.2.2.1,x',o7,qg,uX,xB,Dn,H7,KW,f.2.2.2,[[D.int .i64 1,D.int .i64 0,D.str d.1,D.str [],D.sl true 5 []]]))) else none) else none) else none) else(ke (.inr (.inl (v,v1,v2,x',o7,qg,uX,xB,Dn,H7,KW,Pm))))
 | .inr (v,v1,v2,x',o7,qg,uX,xB,Dn,H7,KW,Pm,Uu)=>bif !v2 then(bif aj Pm then((M.bF v v1 v2 Pm).bind λa=>oV Uu [[D.int .i64 1,D.int .i64 0,D.str a.1,D.str [],D.sl true 5 []]] 72 λg=>bif a.2.2.2.1 then(ke (.inl (a.2.1,a.2.2.1,a.2.2.2.1,x',o7,qg,uX,xB,Dn,H7,KW,a.2.2.2.2,g))) else bif aj a.2.2.2.2 then((M.aA a.2.1 a.2.2.1 a.2.2.2.1 a.2.2.2.2).bind λc=>bif c.1 !=36 then(ke (.inl (c.2.1,c.2.2.1,c.2.2.2.1,x',o7,qg,uX,xB,Dn,H7,KW,c.2.2.2.2,g))) else bif(↑g.length:Int)==6 then(ke (.inr (.inr (.inl (c.2.1,c.2.2.1,x',o7,qg,uX,xB,Dn,H7,KW,c.2.2.2.2,g))))) else bif aj c.2.2.2.2 then((M.aP c.2.1 (i64.wrap (c.2.2.1+1)) c.2.2.2.1 c.2.2.2.2).bind λe=>kn (.inr (e.1,e.2.1,e.2.2.1,x',o7,qg,uX,xB,Dn,H7,KW,e.2.2.2,g))) else none) else none) else none) else ke (.inr (.inr (.inr (v,v1,v2,x',o7,qg,uX,xB,Dn,H7,KW,Pm,Uu))))
def M.dW s:=M.iV s (λs=>some (Sum.inl s)) λt=>some (Sum.inr t)
def M.lJ s:=fV (M.dW) s
def F.lJ:LE X0 50:=le 8 (pOr (IC [dD 0 (pP 100000 0),dD 2 (pP 300000 0),dD 3 (pP 300001 0),dD 31 pB] [dD 100000 zbr,dD 300000 zbn,dD 300001 zbn,dD 300002 zbj]) (IC zbu zbw)) (σ:=zaL⊕zau) (λx=>(match x with| .inl x=> .inl ((x.1.va.1,x.2.1.1,x.2.1.2.1,x.2.1.2.2.1,x.2.2.1.1,x.2.2.1.2.1,x.2.2.1.2.2.1,x.2.2.1.va.1,x.va.1.1,x.va.1.2.1,x.va.1.2.2.1,x.va.1.va.1,x.va.2.1))| .inr x=> .inr ((x.2.1.1,x.2.1.2.1,x.2.1.2.2.1,x.2.2.1.1,x.2.2.1.2.1,x.2.2.1.2.2.1,x.2.2.1.va.1,x.va.1.1,x.va.1.2.1,x.va.1.2.2.1,x.va.1.va.1,x.va.2.1,x.va.2.2.1)))) (λx s=>(match s with| .inl s=> .inl ((((),(),(),s.1,()),((s.2.1,s.2.2.1,s.va.1,(),()),(s.va.2.1,s.va.2.2.1,s.va.va.1,s.va.va.2.1,(),()),(s.wc.1,s.wc.2.1,s.wc.2.2.1,s.wc.va.1,(),()),s.wc.va.2,())))| .inr s=> .inr ((((),(),(),()),((s.1,s.2.1,s.2.2.1,(),()),(s.va.1,s.va.2.1,s.va.2.2.1,s.va.va.1,(),()),(s.va.va.2.1,s.wc.1,s.wc.2.1,s.wc.2.2.1,(),()),s.wc.va.1,s.wc.va.2,()))))) (λx=> .sum (.leaf zau (λt=>(Ex.exit 0,⟨[(0,V.ptr 100000 0),(2,V.ptr 300000 0),(3,V.ptr 300001 0),(53,ou true)],[(100000,zaY t 300002),(300000,Cell.box 52 [iY t.va.1,iY t.va.2.1,qU t.va.2.2.1,qU t.va.va.1,V.nil 5]),(300001,Cell.box 52 [iY t.va.va.2.1,iY t.wc.1,qU t.wc.2.1,qU t.wc.2.2.1,V.own 300003 0]),(300002,Cell.arr false true 0 1 t.wc.va.1),(300003,Cell.arr false false 0 5 t.wc.va.2)]⟩))) (.sum (.leaf zav (λt=>(Ex.exit 0,⟨[(0,V.ptr 100000 0),(2,V.ptr 300000 0),(3,V.ptr 300001 0),(36,ou false)],[(100000,zaY t 300002),(300000,Cell.box 52 [iY t.va.1,iY t.va.2.1,qU t.va.2.2.1,qU t.va.va.1,V.nil 5]),(300001,Cell.box 52 [iY t.va.va.2.1,iY t.wc.1,qU t.wc.2.1,qU t.wc.2.2.1,V.nil 5]),(300002,Cell.arr false true 0 1 t.wc.va)]⟩))) (.sum (.leaf zaO (λt=>(Ex.exit 0,⟨[(0,V.ptr 100000 0),(2,V.ptr 300000 0),(3,V.ptr 300001 0)],[(100000,Cell.box 49 [ET 3 t.1,iY t.2.1,ou true,V.own 300002 0]),(300000,Cell.box 52 [iY t.2.2.1,iY t.va.1,qU t.va.2.1,qU t.va.2.2.1,V.nil 5]),(300001,Cell.box 52 [iY t.va.va.1,iY t.va.va.2.1,qU t.wc.1,qU t.wc.2.1,V.own 300003 0]),(300002,Cell.arr false true 0 1 t.wc.2.2.1),(300003,Cell.arr false false 0 5 t.wc.va)]⟩))) (.leaf zau (λt=>(Ex.exit 0,⟨[(0,V.ptr 100000 0),(2,V.ptr 300000 0),(3,V.ptr 300001 0),(36,ou false)],[(100000,zaY t 300002),(300000,Cell.box 52 [iY t.va.1,iY t.va.2.1,qU t.va.2.2.1,qU t.va.va.1,V.nil 5]),(300001,Cell.box 52 [iY t.va.va.2.1,iY t.wc.1,qU t.wc.2.1,qU t.wc.2.2.1,V.own 300003 0]),(300002,Cell.arr false true 0 1 t.wc.va.1),(300003,Cell.arr false false 0 5 t.wc.va.2)]⟩)))))) (λx=>M.iV) [fe C.bF,fe C.aA,fe C.aP] [] (by rintro _ _ (⟨_,_,_,_,_,_,_,_,_,_,_,_,_⟩|⟨_,_,_,_,_,_,_,_,_,_,_,_,_⟩) _ _<;>unfold M.iV<;>exact zbI) (hE:=by intro _ _ s _;rcases s with s|s<;>kernel_rfl)
abbrev M.CV(akD:Bool×au×Int×Bool×au)(k:Int×Int×aC×aC×Bool×au×au×Int×Bool×au->Option R)(adJ:aC×au×Int×Bool×au):=cond (aj akD.2.2.2.2) ((M.aP akD.2.1 akD.2.2.1 akD.2.2.2.1 akD.2.2.2.2).bind λb=>cond (aj b.2.2.2) ((M.cZ b.1 b.2.1 b.2.2.1 b.2.2.2).bind λa=>cond (aj a.2.2.2.2.2.2.2.2.2) (k (44,0,adJ.1,[],true,[[D.int .i64 a.1,D.int .i64 a.2.1,D.str a.2.2.1,D.str a.2.2.2.1,D.sl false 5 (aB a.2.2.2.2.2.1)]],a.2.2.2.2.2.2)) none) none) none
abbrev M.CW(Xg:au×Int×Bool×Int×Int×aC×aC×Int×Int×aC×aC×au×au)(k:Int×Int×aC×aC×Bool×au×au×Int×Bool×au->Option R):=cond (aj Xg.2.2.2.2.2.2.2.2.2.2.2.1) ((M.aO 33 Xg.1 Xg.2.1 Xg.2.2.1 Xg.2.2.2.2.2.2.2.2.2.2.2.1).bind λb=>cond (aj b.2.2.2.2) ((M.aP b.2.1 b.2.2.1 b.2.2.2.1 b.2.2.2.2).bind λc=>cond (aj c.2.2.2) ((M.cZ c.1 c.2.1 c.2.2.1 c.2.2.2).bind λa=>cond (((Xg.2.2.2.2.2.2.2.2.2.2.2.2.length+[[D.int .i64 a.1,D.int .i64 a.2.1,D.str a.2.2.1,D.str a.2.2.2.1,D.sl false 5 (aB a.2.2.2.2.2.1)]].length) * 72).ble 140737488355328) (cond ((Xg.2.2.2.2.2.2.2.2.2.2.2.2.length+[[D.int .i64 a.1,D.int .i64 a.2.1,D.str a.2.2.1,D.str a.2.2.2.1,D.sl false 5 (aB a.2.2.2.2.2.1)]].length).ble 140737488355328) (cond (aj a.2.2.2.2.2.2.2.2.2) (k (Xg.2.2.2.2.2.2.2.1,Xg.2.2.2.2.2.2.2.2.1,Xg.2.2.2.2.2.2.2.2.2.1,Xg.2.2.2.2.2.2.2.2.2.2.1,true,Xg.2.2.2.2.2.2.2.2.2.2.2.2++[[D.int .i64 a.1,D.int .i64 a.2.1,D.str a.2.2.1,D.str a.2.2.2.1,D.sl false 5 (aB a.2.2.2.2.2.1)]],a.2.2.2.2.2.2)) none) none) none) none) none) none
abbrev M.zy(ZA:Int×au×Int×Bool×au)(k:Int×Int×aC×aC×Bool×au×au×Int×Bool×au->Option R):=cond (aj ZA.2.2.2.2) ((M.fF ZA.2.1 ZA.2.2.1 ZA.2.2.2.1 ZA.2.2.2.2).bind λg=>cond (aj g.2.2.2.2) ((M.aO 32 g.2.1 g.2.2.1 g.2.2.2.1 g.2.2.2.2).bind λb=>cond (!b.2.2.2.1) (cond (aj b.2.2.2.2) ((M.aA b.2.1 b.2.2.1 b.2.2.2.1 b.2.2.2.2).bind λc=>cond (c.1 !=33) ((M.lJ (.inl (true,c.2.1,c.2.2.1,c.2.2.2.1,0,0,[],[],44,0,g.1,[],c.2.2.2.2))).bind λn=>kD n (λt=>M.CW t k) λo=>kD o (λf=>cond (aj f.2.2.2.2.2.2.2.2.2.2.2) ((M.aO 33 f.1 f.2.1 f.2.2.1 f.2.2.2.2.2.2.2.2.2.2.2).bind λl=>cond (aj l.2.2.2.2) ((M.aP l.2.1 l.2.2.1 l.2.2.2.1 l.2.2.2.2).bind λh=>cond (aj h.2.2.2) ((M.cZ h.1 h.2.1 h.2.2.1 h.2.2.2).bind λd=>cond (aj d.2.2.2.2.2.2.2.2.2) (k (f.2.2.2.2.2.2.2.1,f.2.2.2.2.2.2.2.2.1,f.2.2.2.2.2.2.2.2.2.1,f.2.2.2.2.2.2.2.2.2.2.1,true,[[D.int .i64 d.1,D.int .i64 d.2.1,D.str d.2.2.1,D.str d.2.2.2.1,D.sl false 5 (aB d.2.2.2.2.2.1)]],d.2.2.2.2.2.2)) none) none) none) none) λp=>kD p (λa=>cond (aj a.2.2.2.2.2.2.2.2.2.2.1) ((M.aO 33 a.1 a.2.1 true a.2.2.2.2.2.2.2.2.2.2.1).bind λi=>cond (aj i.2.2.2.2) ((M.aP i.2.1 i.2.2.1 i.2.2.2.1 i.2.2.2.2).bind λj=>cond (aj j.2.2.2) ((M.cZ j.1 j.2.1 j.2.2.1 j.2.2.2).bind λe=>cond (((a.2.2.2.2.2.2.2.2.2.2.2.length+[[D.int .i64 e.1,D.int .i64 e.2.1,D.str e.2.2.1,D.str e.2.2.2.1,D.sl false 5 (aB e.2.2.2.2.2.1)]].length) * 72).ble 140737488355328) (cond ((a.2.2.2.2.2.2.2.2.2.2.2.length+[[D.int .i64 e.1,D.int .i64 e.2.1,D.str e.2.2.1,D.str e.2.2.2.1,D.sl false 5 (aB e.2.2.2.2.2.1)]].length).ble 140737488355328) (cond (aj e.2.2.2.2.2.2.2.2.2) (k (a.2.2.2.2.2.2.1,a.2.2.2.2.2.2.2.1,a.2.2.2.2.2.2.2.2.1,a.2.2.2.2.2.2.2.2.2.1,true,a.2.2.2.2.2.2.2.2.2.2.2++[[D.int .i64 e.1,D.int .i64 e.2.1,D.str e.2.2.1,D.str e.2.2.2.1,D.sl false 5 (aB e.2.2.2.2.2.1)]],e.2.2.2.2.2.2)) none) none) none) none) none) none) λs=>letE s λm=>M.CW m k) (cond (aj c.2.2.2.2) ((M.aO 33 c.2.1 c.2.2.1 c.2.2.2.1 c.2.2.2.2).bind λq=>M.CV q k g) none)) none) (cond (aj b.2.2.2.2) ((M.aO 33 b.2.1 b.2.2.1 b.2.2.2.1 b.2.2.2.2).bind λr=>M.CV r k g) none)) none) none
def M.AU(c:au)(c1:Int)(c2:Bool)(c3:au)(k:Int×Int×aC×aC×Bool×au×au×Int×Bool×au->Option R):=cond (aj c3) ((M.aA c c1 c2 c3).bind λa=>cond (a.1 !=6) (cond (aj a.2.2.2.2) ((M.aA a.2.1 a.2.2.1 a.2.2.2.1 a.2.2.2.2).bind λb=>cond (b.1 !=7) (cond (aj b.2.2.2.2) (k (44,0,[],[],true,[],b.2.1,b.2.2.1,true,b.2.2.2.2)) none) (M.zy b k)) none) (M.zy a k)) none
def M.oD c c1 c2 c3:=M.AU c c1 c2 c3 some
def C.oD:S.oD.ok X0 λx=>zbH M.oD x.2.1:=fnS (λx=>zbH M.AU x.2.1) [fe C.aA,fe C.fF,fe C.aO,fe C.aP,fe C.cZ] [F.lJ] (by intros;unfold M.AU M.zy;exact zbI)
abbrev M.FY(akF:au×Int×Bool×au)(k:Int×Int×aC×aC×Bool×au×au×Int×Bool×au->Option R)(iR vk:Int×Int×aC×aC×Bool×au×Bool×au×Int×Bool×au):=cond (aj akF.2.2.2) (k (43,1,[],[],true,[[D.int .i64 iR.1,D.int .i64 iR.2.1,D.str iR.2.2.1,D.str iR.2.2.2.1,D.sl false 5 (aB iR.2.2.2.2.2.1)]]++[[D.int .i64 vk.1,D.int .i64 vk.2.1,D.str vk.2.2.1,D.str vk.2.2.2.1,D.sl false 5 (aB vk.2.2.2.2.2.1)]],akF)) none
abbrev M.FZ(QB:Int×au×Int×Bool×au)(k:Int×Int×aC×aC×Bool×au×au×Int×Bool×au->Option R)(iR:Int×Int×aC×aC×Bool×au×Bool×au×Int×Bool×au):=cond (QB.1==30) (cond (aj QB.2.2.2.2) ((M.cZ QB.2.1 QB.2.2.1 QB.2.2.2.1 QB.2.2.2.2).bind λa=>cond (aj a.2.2.2.2.2.2.2.2.2) (k (42,3,[],[],true,[[D.int .i64 iR.1,D.int .i64 iR.2.1,D.str iR.2.2.1,D.str iR.2.2.2.1,D.sl false 5 (aB iR.2.2.2.2.2.1)]]++[[D.int .i64 a.1,D.int .i64 a.2.1,D.str a.2.2.1,D.str a.2.2.2.1,D.sl false 5 (aB a.2.2.2.2.2.1)]],a.2.2.2.2.2.2)) none) none) (cond (!QB.2.2.2.1) (cond (aj QB.2.2.2.2) ((M.jo QB.2.1 QB.2.2.1 QB.2.2.2.1 QB.2.2.2.2).bind λb=>cond (aj b.2.2.2) (k (42,1,[],[],true,[[D.int .i64 iR.1,D.int .i64 iR.2.1,D.str iR.2.2.1,D.str iR.2.2.2.1,D.sl false 5 (aB iR.2.2.2.2.2.1)]],b)) none) none) (cond (aj QB.2.2.2.2) (k (42,1,[],[],true,[[D.int .i64 iR.1,D.int .i64 iR.2.1,D.str iR.2.2.1,D.str iR.2.2.2.1,D.sl false 5 (aB iR.2.2.2.2.2.1)]],QB.2)) none))
def M.Il(c:au)(c1:Int)(c2:Bool)(c3:au)(k:Int×Int×aC×aC×Bool×au×au×Int×Bool×au->Option R):=cond (aj c3) ((M.aA c c1 c2 c3).bind λd=>cond (d.1==10) (cond (aj d.2.2.2.2) ((M.cZ d.2.1 (i64.wrap (d.2.2.1+1)) d.2.2.2.1 d.2.2.2.2).bind λg=>cond (aj g.2.2.2.2.2.2.2.2.2) (k (40,0,[],[],true,[[D.int .i64 g.1,D.int .i64 g.2.1,D.str g.2.2.1,D.str g.2.2.2.1,D.sl false 5 (aB g.2.2.2.2.2.1)]],g.2.2.2.2.2.2)) none) none) (cond (d.1==11) (cond (aj d.2.2.2.2) ((M.cZ d.2.1 (i64.wrap (d.2.2.1+1)) d.2.2.2.1 d.2.2.2.2).bind λj=>cond (aj j.2.2.2.2.2.2.2.2.2) (k (41,0,[],[],true,[[D.int .i64 j.1,D.int .i64 j.2.1,D.str j.2.2.1,D.str j.2.2.2.1,D.sl false 5 (aB j.2.2.2.2.2.1)]],j.2.2.2.2.2.2)) none) none) (cond (d.1==12) (cond (aj d.2.2.2.2) ((M.oD d.2.1 (i64.wrap (d.2.2.1+1)) d.2.2.2.1 d.2.2.2.2).bind λf=>cond (aj f.2.2.2.2.2.2.2.2.2) (k (f.1,f.2.1,f.2.2.1,f.2.2.2.1,false,aB f.2.2.2.2.2.1,f.2.2.2.2.2.2)) none) none) (cond (d.1==30) (cond (aj d.2.2.2.2) ((M.cZ d.2.1 d.2.2.1 d.2.2.2.1 d.2.2.2.2).bind λh=>cond (aj h.2.2.2.2.2.2.2.2.2) (k (42,2,[],[],true,[[D.int .i64 h.1,D.int .i64 h.2.1,D.str h.2.2.1,D.str h.2.2.2.1,D.sl false 5 (aB h.2.2.2.2.2.1)]],h.2.2.2.2.2.2)) none) none) (cond (aj d.2.2.2.2) ((M.bP false false d.2.1 d.2.2.1 d.2.2.2.1 d.2.2.2.2).bind λa=>cond (!a.2.2.2.2.2.2.2.2.2.1) (cond (aj a.2.2.2.2.2.2.2.2.2.2) ((M.aA a.2.2.2.2.2.2.2.1 a.2.2.2.2.2.2.2.2.1 a.2.2.2.2.2.2.2.2.2.1 a.2.2.2.2.2.2.2.2.2.2).bind λe=>cond (e.1==36) (cond (aj e.2.2.2.2) ((M.aP e.2.1 (i64.wrap (e.2.2.1+1)) e.2.2.2.1 e.2.2.2.2).bind λm=>cond (aj m.2.2.2) ((M.bP false false m.1 m.2.1 m.2.2.1 m.2.2.2).bind λb=>cond (!b.2.2.2.2.2.2.2.2.2.1) (cond (aj b.2.2.2.2.2.2.2.2.2.2) ((M.aA b.2.2.2.2.2.2.2.1 b.2.2.2.2.2.2.2.2.1 b.2.2.2.2.2.2.2.2.2.1 b.2.2.2.2.2.2.2.2.2.2).bind λl=>cond (l.1==30) (cond (aj l.2.2.2.2) ((M.cZ l.2.1 l.2.2.1 l.2.2.2.1 l.2.2.2.2).bind λi=>cond (aj i.2.2.2.2.2.2.2.2.2) (k (43,3,[],[],true,[[D.int .i64 a.1,D.int .i64 a.2.1,D.str a.2.2.1,D.str a.2.2.2.1,D.sl false 5 (aB a.2.2.2.2.2.1)]]++[[D.int .i64 b.1,D.int .i64 b.2.1,D.str b.2.2.1,D.str b.2.2.2.1,D.sl false 5 (aB b.2.2.2.2.2.1)]]++[[D.int .i64 i.1,D.int .i64 i.2.1,D.str i.2.2.1,D.str i.2.2.2.1,D.sl false 5 (aB i.2.2.2.2.2.1)]],i.2.2.2.2.2.2)) none) none) (cond (!l.2.2.2.1) (cond (aj l.2.2.2.2) ((M.jo l.2.1 l.2.2.1 l.2.2.2.1 l.2.2.2.2).bind λr=>M.FY r k a b) none) (cond (aj l.2.2.2.2) (k (43,1,[],[],true,[[D.int .i64 a.1,D.int .i64 a.2.1,D.str a.2.2.1,D.str a.2.2.2.1,D.sl false 5 (aB a.2.2.2.2.2.1)]]++[[D.int .i64 b.1,D.int .i64 b.2.1,D.str b.2.2.1,D.str b.2.2.2.1,D.sl false 5 (aB b.2.2.2.2.2.1)]],l.2)) none))) none) (cond (!b.2.2.2.2.2.2.2.2.2.1) (cond (aj b.2.2.2.2.2.2.2.2.2.2) ((M.jo b.2.2.2.2.2.2.2.1 b.2.2.2.2.2.2.2.2.1 b.2.2.2.2.2.2.2.2.2.1 b.2.2.2.2.2.2.2.2.2.2).bind λp=>M.FY p k a b) none) (cond (aj b.2.2.2.2.2.2.2.2.2.2) (k (43,1,[],[],true,[[D.int .i64 a.1,D.int .i64 a.2.1,D.str a.2.2.1,D.str a.2.2.2.1,D.sl false 5 (aB a.2.2.2.2.2.1)]]++[[D.int .i64 b.1,D.int .i64 b.2.1,D.str b.2.2.1,D.str b.2.2.2.1,D.sl false 5 (aB b.2.2.2.2.2.1)]],b.2.2.2.2.2.2.2)) none))) none) none) (cond (!e.2.2.2.1) (cond (aj e.2.2.2.2) ((M.aA e.2.1 e.2.2.1 e.2.2.2.1 e.2.2.2.2).bind λs=>M.FZ s k a) none) (cond (!e.2.2.2.1) (cond (aj e.2.2.2.2) ((M.jo e.2.1 e.2.2.1 e.2.2.2.1 e.2.2.2.2).bind λn=>cond (aj n.2.2.2) (k (42,1,[],[],true,[[D.int .i64 a.1,D.int .i64 a.2.1,D.str a.2.2.1,D.str a.2.2.2.1,D.sl false 5 (aB a.2.2.2.2.2.1)]],n)) none) none) (cond (aj e.2.2.2.2) (k (42,1,[],[],true,[[D.int .i64 a.1,D.int .i64 a.2.1,D.str a.2.2.1,D.str a.2.2.2.1,D.sl false 5 (aB a.2.2.2.2.2.1)]],e.2)) none)))) none) (cond (!a.2.2.2.2.2.2.2.2.2.1) (cond (aj a.2.2.2.2.2.2.2.2.2.2) ((M.aA a.2.2.2.2.2.2.2.1 a.2.2.2.2.2.2.2.2.1 a.2.2.2.2.2.2.2.2.2.1 a.2.2.2.2.2.2.2.2.2.2).bind λq=>M.FZ q k a) none) (cond (!a.2.2.2.2.2.2.2.2.2.1) (cond (aj a.2.2.2.2.2.2.2.2.2.2) ((M.jo a.2.2.2.2.2.2.2.1 a.2.2.2.2.2.2.2.2.1 a.2.2.2.2.2.2.2.2.2.1 a.2.2.2.2.2.2.2.2.2.2).bind λo=>cond (aj o.2.2.2) (k (42,1,[],[],true,[[D.int .i64 a.1,D.int .i64 a.2.1,D.str a.2.2.1,D.str a.2.2.2.1,D.sl false 5 (aB a.2.2.2.2.2.1)]],o)) none) none) (cond (aj a.2.2.2.2.2.2.2.2.2.2) (k (42,1,[],[],true,[[D.int .i64 a.1,D.int .i64 a.2.1,D.str a.2.2.1,D.str a.2.2.2.1,D.sl false 5 (aB a.2.2.2.2.2.1)]],a.2.2.2.2.2.2.2)) none)))) none))))) none
def M.mg c c1 c2 c3:=M.Il c c1 c2 c3 some
def C.mg:S.mg.ok X0 λx=>zbH M.mg x.2.1:=fnS (λx=>zbH M.Il x.2.1) [fe C.aA,fe C.cZ,fe C.oD,fe C.bP,fe C.aP,fe C.jo] [] (by intros;unfold M.Il M.FZ M.FY;exact zbI)
def M.Af(ji:zah)(v7:au)(v8:Int)(s:Int×Int)(kn:Int×Int->Option R)(ke:Int×Int->Option R):Option R:=match s with
 |(sum,v9)=>bif decide (v9<v8) then((idx v7 v9).bind λb=>JY 5 b λaP2 aP3 aP4 aP5 aAb=>((ji aP2 aP3 aP4 aP5 aAb).bind λa=>kn (i64.wrap (sum+a),i64.wrap (v9+1)))) else ke (sum,v9)
def M.F5 ji v7 v8 s:=M.Af ji v7 v8 s (λs=>some (Sum.inl s)) λt=>some (Sum.inr t)
def M.JK ji v7 v8 s:=fV (M.F5 ji v7 v8) s
def F.JK{ji:zah}(RG:S.oQ.ok X0 λx=>ng ji x.1.1):LE X0 53:=le 3 (IC [dD 3 pI,dD 7 (pL false 5),dD 8 pI,dD 9 pI] []) (λx=>(x.1.1,x.1.va.1)) (λx s=>((s.1,x.1.2.1,x.1.2.2.1,s.2,()),())) (λx=> .leaf (Int×Int) (λt=>(Ex.exit 0,⟨[(3,iY t.1),(7,ET 5 x.1.2.1),(8,iY x.1.2.2.1),(9,iY t.2),(10,ou false)],[]⟩))) (λx=>M.Af ji x.1.2.1 x.1.2.2.1) [fe RG] [] (by rintro _ _ ⟨_,_⟩ _ _<;>simp only[JY,M.Af,nb]<;>rfl)
def M.GI(ji:zah)(t' Iw:Int)(UM ZY:aC)(Yp:au)(k:Int->Option R):=(M.JK ji Yp ((↑Yp.length:Int)) (1,0)).bind λa=>k a.1
def M.mF:zas
 |0=>λ_ _ _ _ _=>none
 |n+1=>λt' Iw UM ZY Yp=>M.GI (M.mF n) t' Iw UM ZY Yp some
def M.oQ t' Iw UM ZY Yp:=lim λn=>M.mF n t' Iw UM ZY Yp
def C.afN{ji:zah}(RG:S.oQ.ok X0 λx=>ng ji x.1.1):S.oQ.ok X0 λx=>ng (M.GI ji) x.1.1 some:=fnS (λx=>M.GI ji x.1.1.1 x.1.1.2.1 x.1.1.2.2.1 x.1.1.va.1 x.1.1.va.2.1) [] [F.JK RG] (by intros;simp only[M.GI,nb]<;>rfl)
def C.mF:∀n,S.oQ.ok X0 λx=>M.mF n x.1.1.1 x.1.1.2.1 x.1.1.2.2.1 x.1.1.va.1 x.1.1.va.2.1
 |0=>fA.zero
 |n+1=>C.afN (C.mF n)
def C.oQ:S.oQ.ok X0 λx=>ng M.oQ x.1.1:=fA.lim C.mF
def M.afO{n:Nat}{t' Iw:Int}{UM ZY:aC}{Yp:au}{r:Int}(h:M.mF n t' Iw UM ZY Yp=some r):M.oQ t' Iw UM ZY Yp=some r:=fA.Jf C.mF (by intro a b h;simp[S.oQ,rg,sg] at h;first|exact h|simp[Prod.ext_iff,h]) (x:=(((t',Iw,UM,ZY,Yp,()),()),())) h
def M.qJ(iT:zah)(v7:au)(v8:Int)(s:Int×Int)(kn:Int×Int->Option R)(ke:Int×Int->Option R):Option R:=match s with
 |(most,v9)=>bif decide (v9<v8) then((idx v7 v9).bind λb=>JY 5 b λaP8 aP9 aQa aQb aAc=>((iT aP8 aP9 aQa aQb aAc).bind λa=>kn (bif decide (most<a) then a else most,i64.wrap (v9+1)))) else ke (most,v9)
def M.qK iT v7 v8 s:=M.qJ iT v7 v8 s (λs=>some (Sum.inl s)) λt=>some (Sum.inr t)
def M.CX iT v7 v8 s:=fV (M.qK iT v7 v8) s
def F.CX{iT:zah}(QC:S.kS.ok X0 λx=>ng iT x.1.1):LE X0 54:=le 3 (IC [dD 3 pI,dD 7 (pL false 5),dD 8 pI,dD 9 pI] []) (λx=>(x.1.1,x.1.va.1)) (λx s=>((s.1,x.1.2.1,x.1.2.2.1,s.2,()),())) (λx=> .leaf (Int×Int) (λt=>(Ex.exit 0,⟨[(3,iY t.1),(7,ET 5 x.1.2.1),(8,iY x.1.2.2.1),(9,iY t.2),(10,ou false)],[]⟩))) (λx=>M.qJ iT x.1.2.1 x.1.2.2.1) [fe QC] [] (by rintro _ _ ⟨_,_⟩ _ _<;>simp only[JY,M.qJ,nb]<;>rfl)
def M.zA(iT:zah)(t' Iw:Int)(UM ZY:aC)(Yp:au)(k:Int->Option R):=(M.CX iT Yp ((↑Yp.length:Int)) (0,0)).bind λa=>k (i64.wrap (a.1+1))
def M.iU:zas
 |0=>λ_ _ _ _ _=>none
 |n+1=>λt' Iw UM ZY Yp=>M.zA (M.iU n) t' Iw UM ZY Yp some
def M.kS t' Iw UM ZY Yp:=lim λn=>M.iU n t' Iw UM ZY Yp
def C.aeU{iT:zah}(QC:S.kS.ok X0 λx=>ng iT x.1.1):S.kS.ok X0 λx=>ng (M.zA iT) x.1.1 some:=fnS (λx=>M.zA iT x.1.1.1 x.1.1.2.1 x.1.1.2.2.1 x.1.1.va.1 x.1.1.va.2.1) [] [F.CX QC] (by intros;simp only[M.zA,nb]<;>rfl)
def C.iU:∀n,S.kS.ok X0 λx=>M.iU n x.1.1.1 x.1.1.2.1 x.1.1.2.2.1 x.1.1.va.1 x.1.1.va.2.1
 |0=>fA.zero
 |n+1=>C.aeU (C.iU n)
def C.kS:S.kS.ok X0 λx=>ng M.kS x.1.1:=fA.lim C.iU
def M.Wi{n:Nat}{t' Iw:Int}{UM ZY:aC}{Yp:au}{r:Int}(h:M.iU n t' Iw UM ZY Yp=some r):M.kS t' Iw UM ZY Yp=some r:=fA.Jf C.iU (by intro a b h;simp[S.kS,rg,sg] at h;first|exact h|simp[Prod.ext_iff,h]) (x:=(((t',Iw,UM,ZY,Yp,()),()),())) h
abbrev M.QD(t' Iw:Int)(UM ZY:aC)(Yp:au)(k:Int×Int->Option R):=(M.oQ t' Iw UM ZY Yp).bind λb=>cond (decide (b>400)) (k (1,0)) ((M.kS t' Iw UM ZY Yp).bind λa=>cond (decide (a>40)) (k (4,0)) (k (0,0)))
def M.vY t' Iw UM ZY Yp:=M.QD t' Iw UM ZY Yp some
def C.vY:=fTa S.vY (λx=>M.QD x.1.1.1 x.1.1.2.1 x.1.1.2.2.1 x.1.1.va.1 x.1.1.va.2.1) [fe C.oQ,fe C.kS]
def M.uI(jk:zam)(s:zaA⊕zaB)(kn:zaA⊕zaB->Option R)(ke:zaA⊕zaB->Option R):Option R:=match s with
 | .inl (v18,v19,v20,x',o7,qg,uX,xB)=>bif decide (v20<v19) then((idx v18 v20).bind λd=>JY 5 d λaQf aQg aQh aQi aAd=>((jk aQf aQg aQh aQi aAd x').bind λa=>kn (.inr (v18,v19,i64.wrap (v20+1),a,o7,qg,uX,xB,[[D.int .i64 (i64.wrap ((↑a.length:Int) - 1))]])))) else(ke (.inl (v18,v19,v20,x',o7,qg,uX,xB)))
 | .inr (v18,v19,v20,x',o7,qg,uX,xB,Dn)=>bif decide (v20<v19) then((idx v18 v20).bind λc=>JY 5 c λaQj aQk aQl aQm aAe=>((jk aQj aQk aQl aQm aAe x').bind λb=>oV Dn [[D.int .i64 (i64.wrap ((↑b.length:Int) - 1))]] 8 λe=>kn (.inr (v18,v19,i64.wrap (v20+1),b,o7,qg,uX,xB,e)))) else ke (.inr (v18,v19,v20,x',o7,qg,uX,xB,Dn))
def M.yt jk s:=M.uI jk s (λs=>some (Sum.inl s)) λt=>some (Sum.inr t)
def M.L6 jk s:=fV (M.yt jk) s
def F.L6{jk:zam}(UC:S.qP.ok X0 λx=>ng jk x.1.1 x.1.2.1):LE X0 55:=le 3 (pOr (IC zbB [dD 300000 zbp,dD 300001 (cB 60 [pI,pI,pS,pS,VL 1])]) (IC zbB zbD)) (σ:=zaA⊕zaB) (λx=>(match x with| .inl x=> .inl ((x.1.2.2.1,x.1.va.1,x.1.va.2.1,x.2.1,x.2.2.1.1,x.2.2.1.2.1,x.2.2.1.2.2.1,x.2.2.1.va.1))| .inr x=> .inr ((x.1.2.2.1,x.1.va.1,x.1.va.2.1,x.2.1,x.2.2.1.1,x.2.2.1.2.1,x.2.2.1.2.2.1,x.2.2.1.va.1,x.va.1)))) (λx s=>(match s with| .inl s=> .inl ((((),(),s.1,s.2.1,s.2.2.1,()),(s.va.1,(s.va.2.1,s.va.2.2.1,s.va.va.1,s.va.va.2,(),()),())))| .inr s=> .inr ((((),(),s.1,s.2.1,s.2.2.1,()),(s.va.1,(s.va.2.1,s.va.2.2.1,s.va.va.1,s.va.va.2.1,(),()),s.wc,()))))) (λx=> .sum (.leaf zaA (λt=>(Ex.exit 0,⟨[(1,V.own 300000 0),(5,V.ptr 300001 0),(18,ET 5 t.1),(19,iY t.2.1),(20,iY t.2.2.1),(21,ou false)],[(300000,Cell.arr false false 0 5 t.va.1),(300001,Cell.box 60 [iY t.va.2.1,iY t.va.2.2.1,qU t.va.va.1,qU t.va.va.2,V.nil 1])]⟩))) (.leaf zaB (λt=>(Ex.exit 0,⟨[(1,V.own 300000 0),(5,V.ptr 300001 0),(18,ET 5 t.1),(19,iY t.2.1),(20,iY t.2.2.1),(21,ou false)],[(300000,Cell.arr false false 0 5 t.va.1),(300001,Cell.box 60 [iY t.va.2.1,iY t.va.2.2.1,qU t.va.va.1,qU t.va.va.2.1,V.own 300002 0]),(300002,Cell.arr false true 0 1 t.wc)]⟩)))) (λx=>M.uI jk) [fe UC] [] (by rintro _ _ (⟨_,_,_,_,_,_,_,_⟩|⟨_,_,_,_,_,_,_,_,_⟩) _ _<;>simp only[oV,JY,M.uI,nb]<;>rfl) (hE:=by intro _ _ s _;rcases s with s|s<;>kernel_rfl)
def M.IZ(jk:zam)(t' Iw:Int)(UM ZY:aC)(Yp l:au)(k:au->Option R):=(M.L6 jk (.inl (Yp,(↑Yp.length:Int),0,l,t',Iw,UM,ZY))).bind λd=>kD d (λb=>oV b.2.2.2.1 [[D.int .i64 b.2.2.2.2.1,D.int .i64 b.2.2.2.2.2.1,D.str b.2.2.2.2.2.2.1,D.str b.2.2.2.2.2.2.2,D.sl true 1 []]] 72 λza=>k za) λc=>letE c λa=>cond (aj a.2.2.2.2.2.2.2.2) (oV a.2.2.2.1 [[D.int .i64 a.2.2.2.2.1,D.int .i64 a.2.2.2.2.2.1,D.str a.2.2.2.2.2.2.1,D.str a.2.2.2.2.2.2.2.1,D.sl true 1 a.2.2.2.2.2.2.2.2]] 72 λza=>k za) none
def M.kT:Nat->Int->Int->aC->aC->au->au->Option (au)
 |0=>λ_ _ _ _ _ _=>none
 |n+1=>λt' Iw UM ZY Yp l=>M.IZ (M.kT n) t' Iw UM ZY Yp l some
def M.qP t' Iw UM ZY Yp l:=lim λn=>M.kT n t' Iw UM ZY Yp l
def C.ag8{jk:zam}(UC:S.qP.ok X0 λx=>ng jk x.1.1 x.1.2.1):S.qP.ok X0 λx=>ng (M.IZ jk) x.1.1 x.1.2.1 some:=fnS (λx=>M.IZ jk x.1.1.1 x.1.1.2.1 x.1.1.2.2.1 x.1.1.va.1 x.1.1.va.2.1 x.1.2.1) [] [F.L6 UC] (by intros;simp only[oV,M.IZ,nb]<;>rfl)
def C.kT:∀n,S.qP.ok X0 λx=>M.kT n x.1.1.1 x.1.1.2.1 x.1.1.2.2.1 x.1.1.va.1 x.1.1.va.2.1 x.1.2.1
 |0=>fA.zero
 |n+1=>C.ag8 (C.kT n)
def C.qP:S.qP.ok X0 λx=>ng M.qP x.1.1 x.1.2.1:=fA.lim C.kT
def M.ag9{n:Nat}{t' Iw:Int}{UM ZY:aC}{Yp l r:au}(h:M.kT n t' Iw UM ZY Yp l=some r):M.qP t' Iw UM ZY Yp l=some r:=fA.Jf C.kT (by intro a b h;simp[S.qP,rc,sg] at h;first|exact h|simp[Prod.ext_iff,h]) (x:=(((t',Iw,UM,ZY,Yp,()),l,()),())) h
abbrev M.L8(t' Iw:Int)(UM ZY:aC)(Yp:au)(k:au->Option R):=(M.qP t' Iw UM ZY Yp []).bind λa=>k a
def M.qB t' Iw UM ZY Yp:=M.L8 t' Iw UM ZY Yp some
def C.qB:=fTa S.qB (λx=>M.L8 x.1.1.1 x.1.1.2.1 x.1.1.2.2.1 x.1.1.va.1 x.1.1.va.2.1) [fe C.qP]
def M.sG(s:zaC⊕zaD)(kn:zaC⊕zaD->Option R)(ke:zaC⊕zaD->Option R):Option R:=match s with
 | .inl (l,x',o7,qg,uX,xB,Dn,H7,KW,Pm,Uu)=>bif !xB then(bif decide (uX<(↑l.length:Int)) then(bif aj Uu then((M.dU qg uX xB Uu).bind λd=>bif((aB (aB d.2.1)).length * 72).ble 140737488355328 then(bif(aB (aB d.2.1)).length.ble 140737488355328 then(bif aj d.2.2.2.2.2 then((M.mg d.2.2.1 d.2.2.2.1 d.2.2.2.2.1 d.2.2.2.2.2).bind λa=>oV (aB (aB d.2.1)) [[D.int .i64 a.1,D.int .i64 a.2.1,D.str a.2.2.1,D.str a.2.2.2.1,D.sl false 5 (aB a.2.2.2.2.2.1)]] 72 λza=>bif aj a.2.2.2.2.2.2.2.2.2 then((M.bQ a.2.2.2.2.2.2.1 a.2.2.2.2.2.2.2.1 a.2.2.2.2.2.2.2.2.1 a.2.2.2.2.2.2.2.2.2).bind λe=>kn (.inr (l,x',o7,e.1,e.2.1,e.2.2.1,Dn,H7,KW,Pm,e.2.2.2,za))) else none) else none) else none) else none) else none) else ke (.inl (l,x',o7,qg,uX,xB,Dn,H7,KW,Pm,Uu))) else(ke (.inl (l,x',o7,qg,uX,xB,Dn,H7,KW,Pm,Uu)))
 | .inr (l,x',o7,qg,uX,xB,Dn,H7,KW,Pm,Uu,Ij)=>bif !xB then(bif decide (uX<(↑l.length:Int)) then(bif aj Uu then((M.dU qg uX xB Uu).bind λc=>bif((Ij.length+(aB (aB c.2.1)).length) * 72).ble 140737488355328 then(bif(Ij.length+(aB (aB c.2.1)).length).ble 140737488355328 then(bif aj c.2.2.2.2.2 then((M.mg c.2.2.1 c.2.2.2.1 c.2.2.2.2.1 c.2.2.2.2.2).bind λb=>oV (Ij++aB (aB c.2.1)) [[D.int .i64 b.1,D.int .i64 b.2.1,D.str b.2.2.1,D.str b.2.2.2.1,D.sl false 5 (aB b.2.2.2.2.2.1)]] 72 λza=>bif aj b.2.2.2.2.2.2.2.2.2 then((M.bQ b.2.2.2.2.2.2.1 b.2.2.2.2.2.2.2.1 b.2.2.2.2.2.2.2.2.1 b.2.2.2.2.2.2.2.2.2).bind λf=>kn (.inr (l,x',o7,f.1,f.2.1,f.2.2.1,Dn,H7,KW,Pm,f.2.2.2,za))) else none) else none) else none) else none) else none) else ke (.inr (l,x',o7,qg,uX,xB,Dn,H7,KW,Pm,Uu,Ij))) else ke (.inr (l,x',o7,qg,uX,xB,Dn,H7,KW,Pm,Uu,Ij))
def M.sH s:=M.sG s (λs=>some (Sum.inl s)) λt=>some (Sum.inr t)
def M.Ag s:=fV (M.sH) s
def F.Ag:LE X0 8:=le 6 (pOr (IC zbC [dD 300000 (cB 27 [pI,pI]),dD 300001 zbv,dD 300002 zbn,dD 300003 zbj]) (IC zbC [dD 300000 (cB 27 [pI,pI]),dD 300001 zbv,dD 300002 (cB 52 [pI,pI,pS,pS,pO 300004 0]),dD 300003 zbj,dD 300004 zbp])) (σ:=zaC⊕zaD) (λx=>(match x with| .inl x=> .inl ((x.1.1,x.2.1.1,x.2.1.2.1,x.2.2.1.1,x.2.2.1.2.1,x.2.2.1.2.2.1,x.va.1.1,x.va.1.2.1,x.va.1.2.2.1,x.va.1.va.1,x.va.2.1))| .inr x=> .inr ((x.1.1,x.2.1.1,x.2.1.2.1,x.2.2.1.1,x.2.2.1.2.1,x.2.2.1.2.2.1,x.va.1.1,x.va.1.2.1,x.va.1.2.2.1,x.va.1.va.1,x.va.2.1,x.va.2.2.1)))) (λx s=>(match s with| .inl s=> .inl (((s.1,(),(),(),()),((s.2.1,s.2.2.1,()),(s.va.1,s.va.2.1,s.va.2.2.1,(),()),(s.va.va.1,s.va.va.2.1,s.wc.1,s.wc.2.1,(),()),s.wc.2.2,())))| .inr s=> .inr (((s.1,(),(),(),()),((s.2.1,s.2.2.1,()),(s.va.1,s.va.2.1,s.va.2.2.1,(),()),(s.va.va.1,s.va.va.2.1,s.wc.1,s.wc.2.1,(),()),s.wc.2.2.1,s.wc.va,()))))) (λx=> .sum (.leaf zaC (λt=>(Ex.exit 0,⟨[(0,ET 3 t.1),(3,V.ptr 300000 0),(5,V.ptr 300001 0),(6,V.ptr 300002 0),(33,ou false)],[(300000,Cell.box 27 [iY t.2.1,iY t.2.2.1]),(300001,zaY t.va 300003),(300002,Cell.box 52 [iY t.va.va.1,iY t.va.va.2.1,qU t.wc.1,qU t.wc.2.1,V.nil 5]),(300003,Cell.arr false true 0 1 t.wc.2.2)]⟩))) (.leaf zaD (λt=>(Ex.exit 0,⟨[(0,ET 3 t.1),(3,V.ptr 300000 0),(5,V.ptr 300001 0),(6,V.ptr 300002 0),(33,ou false)],[(300000,Cell.box 27 [iY t.2.1,iY t.2.2.1]),(300001,zaY t.va 300003),(300002,Cell.box 52 [iY t.va.va.1,iY t.va.va.2.1,qU t.wc.1,qU t.wc.2.1,V.own 300004 0]),(300003,Cell.arr false true 0 1 t.wc.2.2.1),(300004,Cell.arr false false 0 5 t.wc.va)]⟩)))) (λx=>M.sG) [fe C.dU,fe C.mg,fe C.bQ] [] (by rintro _ _ (⟨_,_,_,_,_,_,_,_,_,_,_⟩|⟨_,_,_,_,_,_,_,_,_,_,_,_⟩) _ _<;>unfold M.sG<;>exact zbI) (hE:=by intro _ _ s _;rcases s with s|s<;>kernel_rfl)
abbrev M.yu(l:au)(k:au×Int×Int->Option R):=(M.vX l).bind λc=>cond (!cond (c.1==0) (cond (c.2==0) true false) false) (k ([],c)) ((M.bQ l 0 false []).bind λf=>(M.Ag (.inl (l,0,0,f.1,f.2.1,f.2.2.1,45,0,[],[],f.2.2.2))).bind λo=>kD o (λb=>cond b.2.2.2.2.2.1 ((M.pJ b.1 b.2.2.2.2.1).bind λm=>k ([],3,m)) (cond (aj b.2.2.2.2.2.2.2.2.2.2) ((M.dU b.2.2.2.1 b.2.2.2.2.1 b.2.2.2.2.2.1 b.2.2.2.2.2.2.2.2.2.2).bind λh=>cond (((aB (aB h.2.1)).length * 72).ble 140737488355328) (cond ((aB (aB h.2.1)).length.ble 140737488355328) ((M.vY b.2.2.2.2.2.2.1 b.2.2.2.2.2.2.2.1 b.2.2.2.2.2.2.2.2.1 b.2.2.2.2.2.2.2.2.2.1 (aB (aB (aB h.2.1)))).bind λe=>cond (!cond (e.1==0) (cond (e.2==0) true false) false) (k ([],e)) ((M.qB b.2.2.2.2.2.2.1 b.2.2.2.2.2.2.2.1 b.2.2.2.2.2.2.2.2.1 b.2.2.2.2.2.2.2.2.2.1 (aB (aB (aB h.2.1)))).bind λj=>cond ([[D.sl true 5 j]].all gI) (k (j,0,0)) none)) none) none) none)) λn=>letE n λa=>cond a.2.2.2.2.2.1 ((M.pJ a.1 a.2.2.2.2.1).bind λp=>k ([],3,p)) (cond (aj a.2.2.2.2.2.2.2.2.2.2.1) ((M.dU a.2.2.2.1 a.2.2.2.2.1 a.2.2.2.2.2.1 a.2.2.2.2.2.2.2.2.2.2.1).bind λg=>cond (((a.2.2.2.2.2.2.2.2.2.2.2.length+(aB (aB g.2.1)).length) * 72).ble 140737488355328) (cond ((a.2.2.2.2.2.2.2.2.2.2.2.length+(aB (aB g.2.1)).length).ble 140737488355328) ((M.vY a.2.2.2.2.2.2.1 a.2.2.2.2.2.2.2.1 a.2.2.2.2.2.2.2.2.1 a.2.2.2.2.2.2.2.2.2.1 (aB (a.2.2.2.2.2.2.2.2.2.2.2++aB (aB g.2.1)))).bind λd=>cond (!cond (d.1==0) (cond (d.2==0) true false) false) (k ([],d)) ((M.qB a.2.2.2.2.2.2.1 a.2.2.2.2.2.2.2.1 a.2.2.2.2.2.2.2.2.1 a.2.2.2.2.2.2.2.2.2.1 (aB (a.2.2.2.2.2.2.2.2.2.2.2++aB (aB g.2.1)))).bind λi=>cond ([[D.sl true 5 i]].all gI) (k (i,0,0)) none)) none) none) none))
def M.iW l:=M.yu l some
def C.iW:=fTa S.iW (λx=>M.yu x.1.1) [fe C.vX,fe C.bQ,fe C.pJ,fe C.dU,fe C.vY,fe C.qB] [F.Ag]
abbrev M.Vo(s':aC)(k:au×Int×Int->Option R):=(M.Ue s').bind λb=>cond (!cond (b.2.1==0) (cond (b.2.2==0) true false) false) (k ([],b.2)) ((M.iW b.1).bind λa=>cond ([[D.sl true 5 a.1],[D.int .i64 a.2.1,D.int .i64 a.2.2]].all gI) (k (a)) none)
def M.J7 s':=M.Vo s' some
def C.J7:=fTa S.J7 (λx=>M.Vo x.1.1) [fe C.Ue,fe C.iW]
abbrev M.QE(b:Int)(k:Bool->Option R):=cond (b==32) (k true) (k (b==9))
def M.Ea b:=M.QE b some
def C.Ea:=fTa S.Ea (λx=>M.QE x.1.1)
def M.EM(s:(aC×Int×Bool)⊕(aC×Int))(kn:(aC×Int×Bool)⊕(aC×Int)->Option R)(ke:aC×Int->Option R):Option R:=match s with
 | .inl (s',at',v9)=>(M.gG s' at').bind λa=>((M.jL a).bind λc=>bif c then(kn (.inr (s',i64.wrap (at'+1)))) else ke (s',at'))
 | .inr (s',at')=>(M.gG s' at').bind λd=>(M.jL d).bind λb=>bif b then(kn (.inr (s',i64.wrap (at'+1)))) else ke (s',at')
def M.QF s:=M.EM s (λs=>some (Sum.inl s)) λt=>some (Sum.inr t)
def M.Oo s:=fV (M.QF) s
def F.Oo:LE X0 42:=le 3 zbG (σ:=(aC×Int×Bool)⊕(aC×Int)) (λx=>(match x with| .inl x=> .inl ((x.1.1,x.1.2.1,x.1.2.2.1))| .inr x=> .inr ((x.1.1,x.1.2.1)))) (λx s=>(match s with| .inl s=> .inl (((s.1,s.2.1,s.2.2,()),()))| .inr s=> .inr (((s.1,s.2,()),())))) (λx=> .leaf (aC×Int) (λt=>(Ex.exit 0,⟨[(0,qU t.1),(1,iY t.2),(13,ou false)],[]⟩))) (λx=>M.EM) [fe C.gG,fe C.jL] [] (by rintro _ _ (⟨_,_,_⟩|⟨_,_⟩) _ _<;>unfold M.EM<;>exact zbI) (hE:=by intro _ _ s _;rcases s with s|s<;>kernel_rfl)
abbrev M.QG(s':aC)(at':Int)(k:Int->Option R):=(M.gG s' at').bind λb=>(M.mP b).bind λc=>cond (!c) (k (-1)) ((M.Oo (.inl (s',at',false))).bind λa=>k a.2)
def M.Az s' at':=M.QG s' at' some
def C.Az:=fTa S.Az (λx=>M.QG x.1.1 x.1.2.1) [fe C.gG,fe C.mP] [F.Oo]
abbrev M.TJ(s':aC)(at' e:Int)(k:Int×aC×Int->Option R):=(cut s' at' e).bind λa=>(M.qw a).bind λb=>cond (b !=0) ((M.qw a).bind λd=>k (d,a,at')) ((M.kY a).bind λc=>cond c (k (8,a,at')) ((M.gG s' e).bind λf=>cond (f==40) (k (7,a,at')) (k (6,a,at'))))
def M.Eb s' at' e:=M.TJ s' at' e some
def C.Eb:=fTa S.Eb (λx=>M.TJ x.1.1 x.1.2.1 x.1.2.2.1) [fe C.qw,fe C.kY,fe C.gG]
def M.zB(s':aC)(at' x':Int)(o7:aC)(qg uX:Int)(xB:aC)(Dn s:Int)(kn:Int->Option R)(ke:Int->Option R):Option R:=match s with
 |e=>bif decide (e<(↑s'.length:Int)) then((idx s' e).bind λa=>bif(↑a.toNat:Int) !=10 then(kn (i64.wrap (e+1))) else ke e) else ke e
def M.EN s' at' x' o7 qg uX xB Dn s:=M.zB s' at' x' o7 qg uX xB Dn s (λs=>some (Sum.inl s)) λt=>some (Sum.inr t)
def M.xq s' at' x' o7 qg uX xB Dn s:=fV (M.EN s' at' x' o7 qg uX xB Dn) s
def F.xq:LE X0 18:=le 13 (IC [dD 0 pS,dD 1 pI,dD 6 (pP 300000 0),dD 8 (pP 300001 0),dD 9 pI] [dD 300000 (cB 43 [pI,pS,pI]),dD 300001 (cB 43 [pI,pS,pI])]) (λx=>x.1.va.2.1) (λx s=>((x.1.1,x.1.2.1,(),(),s,()),((x.2.1.1,x.2.1.2.1,x.2.1.2.2.1,()),(x.2.2.1.1,x.2.2.1.2.1,x.2.2.1.2.2.1,()),()))) (λx=> .leaf (Int) (λt=>(Ex.exit 1,⟨[(0,qU x.1.1),(1,iY x.1.2.1),(6,V.ptr 300000 0),(8,V.ptr 300001 0),(9,iY t),(51,ou false)],[(300000,Cell.box 43 [iY x.2.1.1,qU x.2.1.2.1,iY x.2.1.2.2.1]),(300001,Cell.box 43 [iY x.2.2.1.1,qU x.2.2.1.2.1,iY x.2.2.1.2.2.1])]⟩))) (λx=>M.zB x.1.1 x.1.2.1 x.2.1.1 x.2.1.2.1 x.2.1.2.2.1 x.2.2.1.1 x.2.2.1.2.1 x.2.2.1.2.2.1) [] [] (by rintro _ _ _ _ _<;>simp only[M.zB,nb]<;>rfl)
abbrev M.QH(adV:UInt8)(s':aC)(at':Int)(k:Int×aC×Int->Option R):=(M.mP (i64.wrap (↑adV.toNat:Int))).bind λc=>cond c ((M.Az s' at').bind λd=>(M.Eb s' at' d).bind λa=>(M.qp a.2.1).bind λe=>cond (!e) (k (0,[],at')) (k (a))) ((M.zn s' at').bind λb=>cond (b.2==0) (k (0,[],at')) (cond (decide (i64.wrap (at'+b.2)<0)) (k (0,[],at')) ((cut s' at' (i64.wrap (at'+b.2))).bind λf=>k (b.1,f,at'))))
def M.TK(s':aC)(at':Int)(ere:Bool)(k:Int×aC×Int->Option R):=(idx s' at').bind λa=>cond (i64.wrap (↑a.toNat:Int)==10) (k (1,[10],at')) (cond (i64.wrap (↑a.toNat:Int)==35) ((M.xq s' at' 0 [] 0 0 [] at' at').bind λe=>cond (decide (e<0)) (k (0,[],at')) ((cut s' at' e).bind λh=>k (2,h,at'))) ((M.tJ (i64.wrap (↑a.toNat:Int))).bind λi=>cond i ((M.yM s' at').bind λf=>cond (decide (f<0)) (k (0,[],at')) ((cut s' at' f).bind λg=>k (3,g,at'))) (cond (i64.wrap (↑a.toNat:Int)==46) ((M.yM s' at').bind λc=>cond (decide (c<0)) (k (0,[],at')) ((cut s' at' c).bind λl=>k (3,l,at'))) (cond (i64.wrap (↑a.toNat:Int)==34) ((M.Bg s' at').bind λd=>cond (decide (d<0)) (k (0,[],at')) ((cut s' at' d).bind λm=>k (4,m,at'))) (cond (i64.wrap (↑a.toNat:Int)==47) (cond ere ((M.Bh s' at').bind λb=>cond (decide (b<0)) (k (0,[],at')) ((cut s' at' b).bind λj=>k (5,j,at'))) (M.QH a s' at' k)) (M.QH a s' at' k))))))
def M.Ec s' at' ere:=M.TK s' at' ere some
def C.Ec:S.Ec.ok X0 λx=>M.Ec x.1.1 x.1.2.1 x.1.2.2.1:=fnS (λx=>M.TK x.1.1 x.1.2.1 x.1.2.2.1) [fe C.tJ,fe C.yM,fe C.Bg,fe C.Bh,fe C.mP,fe C.Az,fe C.Eb,fe C.qp,fe C.zn] [F.xq] (by intros;unfold M.TK M.QH;exact zbI)
abbrev M.KE(last:Int)(s':aC)(at':Int)(ke:(Int×Int)⊕(Int×Int×au)->Option R)(qg:au)(kn:Int×Int×au->Option R):=(M.fB last).bind λb=>(M.Ec s' at' !b).bind λa=>cond (a.1==0) (ke (.inl (2,at'))) (cond ((↑qg.length:Int)==3000) (ke (.inl (1,0))) (cond (((qg.length+[[D.int .i64 a.1,D.str a.2.1,D.int .i64 a.2.2]].length) * 32).ble 140737488355328) (cond ((qg.length+[[D.int .i64 a.1,D.str a.2.1,D.int .i64 a.2.2]].length).ble 140737488355328) (kn (a.1,i64.wrap (at'+(↑a.2.1.length:Int)),qg++[[D.int .i64 a.1,D.str a.2.1,D.int .i64 a.2.2]])) none) none))
def M.Nz(s':aC)(x' o7:Int)(s:Int×Int×au)(kn:Int×Int×au->Option R)(ke:(Int×Int)⊕(Int×Int×au)->Option R):Option R:=match s with
 |(last,at',qg)=>bif decide (at'<(↑s'.length:Int)) then((idx s' at').bind λc=>(M.Ea (i64.wrap (↑c.toNat:Int))).bind λb=>bif b then(kn (last,i64.wrap (at'+1),qg)) else (idx s' at').bind λd=>bif(↑d.toNat:Int)==92 then((M.gG s' (i64.wrap (at'+1))).bind λa=>bif a==10 then(kn (last,i64.wrap (at'+2),qg)) else M.KE last s' at' ke qg kn) else M.KE last s' at' ke qg kn) else ke (.inr (last,at',qg))
def M.TM s' x' o7 s:=M.Nz s' x' o7 s (λs=>some (Sum.inl s)) λt=>some (Sum.inr t)
def M.BD s' x' o7 s:=fV (M.TM s' x' o7) s
def F.BD:LE X0 7:=le 6 (IC [dD 0 pS,dD 3 (pP 300000 0),dD 4 (pO 300001 0),dD 5 pI,dD 6 pI] [dD 300000 (cB 27 [pI,pI]),dD 300001 (cA false true 0 3)]) (λx=>(x.1.va.1,x.1.va.2.1,x.2.2.1)) (λx s=>((x.1.1,(),(),s.1,s.2.1,()),((x.2.1.1,x.2.1.2.1,()),s.2.2,()))) (λx=> .sum (.leaf (Int×Int) (λt=>(Ex.ret,⟨[(2,V.own 300000 0),(3,V.ptr 300001 0)],[(300000,Cell.arr false true 0 3 []),(300001,Cell.box 27 [iY t.1,iY t.2])]⟩))) (.leaf (Int×Int×au) (λt=>(Ex.exit 0,⟨[(0,qU x.1.1),(3,V.ptr 300000 0),(4,V.own 300001 0),(5,iY t.1),(6,iY t.2.1),(17,ou false)],[(300000,Cell.box 27 [iY x.2.1.1,iY x.2.1.2.1]),(300001,Cell.arr false true 0 3 t.2.2)]⟩)))) (λx=>M.Nz x.1.1 x.2.1.1 x.2.1.2.1) [fe C.Ea,fe C.gG,fe C.fB,fe C.Ec] [] (by rintro _ _ ⟨_,_,_⟩ _ _<;>simp only[M.Nz,M.KE,nb]<;>rfl)
abbrev M.Y5(s':aC)(k:au×Int×Int->Option R):=cond (decide ((↑s'.length:Int)>3000)) (k ([],1,0)) ((M.BD s' 0 0 (0,0,[])).bind λd=>kD d (λa=>k ([],a)) λc=>letE c λb=>cond (aj b.2.2) (k (b.2.2,0,0)) none)
def M.Uf s':=M.Y5 s' some
def C.Uf:=fTa S.Uf (λx=>M.Y5 x.1.1) [] [F.BD]
def M.GK(a b:au)(s:Int)(kn:Int->Option R)(ke:(Unit)⊕(Int)->Option R):Option R:=match s with
 |i=>bif decide (i<(↑a.length:Int)) then((idx a i).bind λd=>(jD .i64 d 0).bind λf=>(idx b i).bind λe=>(jD .i64 e 0).bind λc=>bif f !=c then(ke (.inl ())) else kn (i64.wrap (i+1))) else ke (.inr i)
def M.L9 a b s:=M.GK a b s (λs=>some (Sum.inl s)) λt=>some (Sum.inr t)
def M.QI a b s:=fV (M.L9 a b) s
def F.QI:LE X0 27:=le 4 (IC [dD 0 (pL false 1),dD 1 (pL false 1),dD 5 pI] []) (λx=>x.1.2.2.1) (λx s=>((x.1.1,x.1.2.1,s,()),())) (λx=> .sum (.leaf (Unit) (λt=>(Ex.ret,⟨[(4,ou false)],[]⟩))) (.leaf (Int) (λt=>(Ex.exit 0,⟨[(0,ET 1 x.1.1),(1,ET 1 x.1.2.1),(5,iY t),(14,ou false)],[]⟩)))) (λx=>M.GK x.1.1 x.1.2.1) [] [] (by rintro _ _ _ _ _<;>simp only[M.GK,nb]<;>rfl)
abbrev M.TN(a b:au)(k:Bool->Option R):=cond ((↑a.length:Int) !=(↑b.length:Int)) (k false) ((M.QI a b 0).bind λd=>kD d (λe=>k false) λc=>letE c λf=>k true)
def M.Hf a b:=M.TN a b some
def C.Hf:=fTa S.Hf (λx=>M.TN x.1.1 x.1.2.1) [] [F.QI]
def M.CY(a b:au)(s:Int)(kn:Int->Option R)(ke:(Unit)⊕(Int)->Option R):Option R:=match s with
 |i=>bif decide (i<(↑a.length:Int)) then((idx a i).bind λy=>(jD .i64 y 0).bind λf=>(idx b i).bind λl=>(jD .i64 l 0).bind λo=>bif f !=o then(ke (.inl ())) else (idx a i).bind λw=>(jD .i64 w 1).bind λk=>(idx b i).bind λh=>(jD .i64 h 1).bind λn=>bif k !=n then(ke (.inl ())) else (idx a i).bind λx=>(cStr x 2).bind λj=>(idx b i).bind λd=>(cStr d 2).bind λv=>bif !j==v then(ke (.inl ())) else (idx a i).bind λe=>(cStr e 3).bind λg=>(idx b i).bind λt=>(cStr t 3).bind λu=>bif !g==u then(ke (.inl ())) else (idx a i).bind λc=>(cSl 1 c 4).bind λp=>(idx b i).bind λq=>(cSl 1 q 4).bind λr=>(M.Hf p r).bind λm=>bif !m then(ke (.inl ())) else kn (i64.wrap (i+1))) else ke (.inr i)
def M.Io a b s:=M.CY a b s (λs=>some (Sum.inl s)) λt=>some (Sum.inr t)
def M.Mc a b s:=fV (M.Io a b) s
def F.Mc:LE X0 9:=le 4 (IC [dD 0 (pL false 5),dD 1 (pL false 5),dD 5 pI] []) (λx=>x.1.2.2.1) (λx s=>((x.1.1,x.1.2.1,s,()),())) (λx=> .sum (.leaf (Unit) (λt=>(Ex.ret,⟨[(4,ou false)],[]⟩))) (.leaf (Int) (λt=>(Ex.exit 0,⟨[(0,ET 5 x.1.1),(1,ET 5 x.1.2.1),(5,iY t),(14,ou false)],[]⟩)))) (λx=>M.CY x.1.1 x.1.2.1) [fe C.Hf] [] (by rintro _ _ _ _ _<;>simp only[M.CY,nb]<;>rfl)
abbrev M.Oq(a b:au)(k:Bool->Option R):=cond ((↑a.length:Int) !=(↑b.length:Int)) (k false) ((M.Mc a b 0).bind λc=>kD c (λe=>k false) λd=>letE d λf=>k true)
def M.yF a b:=M.Oq a b some
def C.yF:=fTa S.yF (λx=>M.Oq x.1.1 x.1.2.1) [] [F.Mc]
abbrev M.RH(kind:Int)(k:aC->Option R):=(M.dZ kind 0 4).bind λb=>cond (!b) (k []) (cond (decide (0<=kind) && decide (kind<5)) ((cStr [D.str [110,111,110,101],D.str [108,97,114,103,101],D.str [108,101,120],D.str [115,121,110,116,97,120],D.str [100,101,101,112]] kind.toNat).bind λa=>k a) none)
def M.BO kind:=M.RH kind some
def C.BO:=fTa S.BO (λx=>M.RH x.1.1) [fe C.dZ]
abbrev M.Md(l:au)(k:Bool->Option R):=(M.Bj l).bind λa=>cond a ((idx l (i64.wrap ((↑l.length:Int) - 1))).bind λc=>(jD .i64 c 0).bind λb=>k (b==45)) (k false)
def M.yQ l:=M.Md l some
def C.yQ:=fTa S.yQ (λx=>M.Md x.1.1) [fe C.Bj]
def C.lK:S.lK.ok X0 λx=>M.lK x.1.1:=fA.ad5 (p:=Prim.lK)
abbrev M.QJ(l:au)(k:Bool->Option R):=(M.lK l).bind λa=>k a.2
def M.Ed l:=M.QJ l some
def C.Ed:=fTa S.Ed (λx=>M.QJ x.1.1) [fe C.lK]
abbrev M.lU(kind:Int)(k:Bool->Option R):=(M.dZ kind 1 15).bind λa=>k a
def M.fU kind:=M.lU kind some
def C.fU:=fTa S.fU (λx=>M.lU x.1.1) [fe C.dZ]
abbrev M.jJ(n':Int)(ny:aC)(k:Bool×Bool×Bool×Int×Int->Option R)(kC:Int):=cond (decide (0<=i64.wrap (n' - 2)) && decide (i64.wrap (n' - 2)<3)) ((jD .i64 [D.int .i64 3,D.int .i64 4,D.int .i64 5] (i64.wrap (n' - 2)).toNat).bind λb=>(M.qX b ny 0).bind λa=>k (kC==0,a,false,0,0)) none
def M.kU(n' kC:Int)(ny oM:aC)(sV:au)(k:Bool×Bool×Bool×Int×Int->Option R):=cond (n'==1) ((M.lI ny).bind λh=>k (kC==0,h,false,0,0)) (cond (n'==2) (M.jJ n' ny k kC) (cond (n'==3) (M.jJ n' ny k kC) (cond (n'==4) (M.jJ n' ny k kC) (cond (n'==5) ((M.lI ny).bind λf=>k (kC==0,f,false,1,6)) (cond (n'==13) ((M.lI ny).bind λc=>k (kC==0,c,false,1,6)) (cond (n'==6) (k (kC==0,ny==[],false,1,1)) (cond (n'==7) ((M.lI ny).bind λd=>k (kC==0,d,false,0,6)) (cond (n'==8) ((M.mJ ny).bind λg=>k (kC==0,g,false,0,6)) (cond (n'==9) ((M.iI kC).bind λa=>k (a,ny==[],false,1,1)) (cond (n'==10) ((M.iI kC).bind λi=>k (i,ny==[],false,1,1)) (cond (n'==11) (cond (kC==55) (k (true,ny==[],false,1,1)) (cond (kC==56) (k (true,ny==[],false,1,1)) (k (kC==61,ny==[],false,1,1)))) (cond (n'==12) ((M.nO kC).bind λe=>k (e !=0,ny==[],false,2,2)) (cond (n'==14) (k (kC==0,ny==[],false,3,3)) ((M.vI kC).bind λb=>k (b,ny==[],false,2,2)))))))))))))))
def M.kM n' kC ny oM sV:=M.kU n' kC ny oM sV some
def C.kM:S.kM.ok X0 λx=>ng M.kM x.1.1:=fnS (λx=>M.kU x.1.1.1 x.1.1.2.1 x.1.1.2.2.1 x.1.1.va.1 x.1.1.va.2.1) [fe C.lI,fe C.qX,fe C.mJ,fe C.iI,fe C.nO,fe C.vI] [] (by intros;unfold M.kU M.jJ;exact zbI)
abbrev M.lV(kind:Int)(k:Bool->Option R):=(M.dZ kind 20 34).bind λa=>k a
def M.jZ kind:=M.lV kind some
def C.jZ:=fTa S.jZ (λx=>M.lV x.1.1) [fe C.dZ]
abbrev M.kV(n' kC:Int)(ny oM:aC)(sV:au)(k:Bool×Bool×Bool×Int×Int->Option R):=cond (n'==20) (k (kC==0,ny==[],oM==[],1,1)) (cond (n'==21) (cond (kC==0) ((M.slices_Contains ([[D.str []],[D.str [62]],[D.str [62,62]],[D.str [124]]]) oM).bind λa=>cond (!oM==[]) (k (true,ny==[],a,i64.wrap (kC+1),7)) (k (true,ny==[],a,kC,6))) ((M.slices_Contains ([[D.str []],[D.str [62]],[D.str [62,62]],[D.str [124]]]) oM).bind λb=>cond (!oM==[]) (k (kC==1,ny==[],b,i64.wrap (kC+1),7)) (k (kC==1,ny==[],b,kC,6)))) (cond (n'==23) (k (kC==0,ny==[],oM==[],0,1)) (cond (n'==24) (k (kC==0,ny==[],oM==[],0,1)) (cond (n'==27) ((M.lI ny).bind λf=>k (kC==0,f,oM==[],0,6)) (cond (n'==28) (k (kC==0,ny==[],oM==[],2,3)) (cond (n'==29) (k (kC==0,ny==[],oM==[],2,2)) (cond (n'==30) (k (kC==0,ny==[],oM==[],2,2)) (cond (n'==31) (k (kC==0,ny==[],oM==[],4,4)) (cond (n'==32) ((M.lI ny).bind λe=>(M.lI oM).bind λd=>k (kC==0,e,d,1,1)) (cond (n'==33) (k (kC==0,ny==[],oM==[],0,400)) (cond (n'==34) ((M.qX 2 ny 0).bind λc=>k (kC==0,c,oM==[],0,0)) (k (kC==0,ny==[],oM==[],0,0)))))))))))))
def M.kN n' kC ny oM sV:=M.kV n' kC ny oM sV some
def C.kN:=fTa S.kN (λx=>M.kV x.1.1.1 x.1.1.2.1 x.1.1.2.2.1 x.1.1.va.1 x.1.1.va.2.1) [fe C.slices_Contains,fe C.lI,fe C.qX]
abbrev M.kW(n' kC:Int)(ny oM:aC)(sV:au)(k:Bool×Bool×Bool×Int×Int->Option R):=cond (n'==40) (k (kC==0,ny==[],oM==[],1,1)) (cond (n'==41) (k (kC==0,ny==[],oM==[],1,1)) (cond (n'==42) ((M.dZ kC 1 3).bind λa=>cond (kC==3) (k (a,ny==[],oM==[],2,2)) (k (a,ny==[],oM==[],1,1))) (cond (n'==43) (cond (kC==1) (cond (kC==3) (k (true,ny==[],oM==[],3,3)) (k (true,ny==[],oM==[],2,2))) (cond (kC==3) (k (kC==3,ny==[],oM==[],3,3)) (k (kC==3,ny==[],oM==[],2,2)))) (cond (n'==44) ((M.lI ny).bind λb=>k (kC==0,b,oM==[],1,7)) (k (kC==0,ny==[],oM==[],0,400))))))
def M.kP n' kC ny oM sV:=M.kW n' kC ny oM sV some
def C.kP:=fTa S.kP (λx=>M.kW x.1.1.1 x.1.1.2.1 x.1.1.2.2.1 x.1.1.va.1 x.1.1.va.2.1) [fe C.dZ,fe C.lI]
abbrev M.jV(n' kC:Int)(ny oM:aC)(sV:au)(k:Bool->Option R):=(M.fU n').bind λj=>cond j ((M.kM n' kC ny oM sV).bind λc=>cond c.1 (cond c.2.1 (cond (oM==[]) ((M.dZ ((↑sV.length:Int)) c.2.2.2.1 c.2.2.2.2).bind λg=>k g) (k false)) (k false)) (k false)) (cond (n'==16) (cond (kC==0) (cond (ny==[]) (cond (oM==[]) ((M.dZ ((↑sV.length:Int)) 0 0).bind λf=>k f) (k false)) (k false)) (k false)) ((M.jZ n').bind λh=>cond h ((M.kN n' kC ny oM sV).bind λb=>cond b.1 (cond b.2.1 (cond b.2.2.1 ((M.dZ ((↑sV.length:Int)) b.2.2.2.1 b.2.2.2.2).bind λi=>k i) (k false)) (k false)) (k false)) ((M.dZ n' 40 45).bind λe=>cond e ((M.kP n' kC ny oM sV).bind λa=>cond a.1 (cond a.2.1 (cond a.2.2.1 ((M.dZ ((↑sV.length:Int)) a.2.2.2.1 a.2.2.2.2).bind λd=>k d) (k false)) (k false)) (k false)) (k false))))
def M.jA n' kC ny oM sV:=M.jV n' kC ny oM sV some
def C.jA:=fTa S.jA (λx=>M.jV x.1.1.1 x.1.1.2.1 x.1.1.2.2.1 x.1.1.va.1 x.1.1.va.2.1) [fe C.fU,fe C.kM,fe C.dZ,fe C.jZ,fe C.kN,fe C.kP]
abbrev M.Ot(kind:Int)(k:Bool->Option R):=cond (kind==1) (k true) (cond (kind==5) (k true) (k (kind==6)))
def M.vJ kind:=M.Ot kind some
def C.vJ:=fTa S.vJ (λx=>M.Ot x.1.1)
abbrev M.TQ(kind:Int)(k:Bool->Option R):=(M.dZ kind 40 44).bind λa=>k a
def M.Hg kind:=M.TQ kind some
def C.Hg:=fTa S.Hg (λx=>M.TQ x.1.1) [fe C.dZ]
abbrev M.fZ(n' kC:Int)(ny oM:aC)(sV:au)(k' kid:Int)(k:Bool->Option R):=cond (n'==9) ((M.vJ kid).bind λh=>k h) (cond (n'==10) ((M.vJ kid).bind λr=>k r) (cond (n'==15) (cond (k'==0) ((M.vJ kid).bind λf=>cond f (k true) (cond (decide (k'>0)) ((M.fU kid).bind λq=>k q) (k false))) (cond (decide (k'>0)) ((M.fU kid).bind λi=>k i) (k false))) (cond (n'==28) (cond (decide (k'>0)) (k (kid==33)) ((M.fU kid).bind λn=>k n)) (cond (n'==29) (cond (decide (k'>0)) (k (kid==33)) ((M.fU kid).bind λa=>k a)) (cond (n'==31) (cond (decide (k'<3)) (cond (kid==16) (k true) (cond (k'==i64.wrap ((↑sV.length:Int) - 1)) (k (kid==33)) ((M.fU kid).bind λe=>k e))) (cond (k'==i64.wrap ((↑sV.length:Int) - 1)) (k (kid==33)) ((M.fU kid).bind λo=>k o))) (cond (n'==30) (cond (k'==0) (k (kid==33)) ((M.fU kid).bind λp=>k p)) (cond (n'==32) (k (kid==33)) (cond (n'==40) (k (kid==33)) (cond (n'==41) (k (kid==33)) (cond (n'==33) ((M.jZ kid).bind λm=>k m) (cond (n'==42) (cond (k'==i64.wrap ((↑sV.length:Int) - 1)) (cond (decide (kC>=2)) (k (kid==33)) ((M.fU kid).bind λg=>k g)) ((M.fU kid).bind λb=>k b)) (cond (n'==43) (cond (k'==i64.wrap ((↑sV.length:Int) - 1)) (cond (kC==3) (k (kid==33)) ((M.fU kid).bind λj=>k j)) ((M.fU kid).bind λl=>k l)) (cond (n'==44) (cond (!k'==i64.wrap ((↑sV.length:Int) - 1)) (k (kid==1)) (k (kid==33))) (cond (n'==45) ((M.Hg kid).bind λc=>cond c (k true) (k (kid==34))) ((M.fU kid).bind λd=>k d)))))))))))))))
def M.gU n' kC ny oM sV k' kid:=M.fZ n' kC ny oM sV k' kid some
def C.gU:=fTa S.gU (λx=>M.fZ x.1.1.1 x.1.1.2.1 x.1.1.2.2.1 x.1.1.va.1 x.1.1.va.2.1 x.1.2.1 x.1.2.2.1) [fe C.vJ,fe C.fU,fe C.jZ,fe C.Hg]
def M.yw(jW:zan)(s:zaE⊕zaF)(kn:zaE⊕zaF->Option R)(ke:zaE⊕zaF->Option R):Option R:=match s with
 | .inl (l,v23,v24,v25,x',o7,qg,uX,xB,Dn,H7,KW)=>bif decide (v25<v24) then((idx v23 v25).bind λc=>(jD .i64 c 0).bind λd=>(jW l d).bind λa=>kn (.inr (l,v23,v24,i64.wrap (v25+1),x',o7,qg,uX,xB,Dn,H7,KW,[[D.int .i64 a.1,D.int .i64 a.2.1,D.str a.2.2.1,D.str a.2.2.2.1,D.sl true 5 a.2.2.2.2]]))) else(ke (.inl (l,v23,v24,v25,x',o7,qg,uX,xB,Dn,H7,KW)))
 | .inr (l,v23,v24,v25,x',o7,qg,uX,xB,Dn,H7,KW,Pm)=>bif decide (v25<v24) then((idx v23 v25).bind λe=>(jD .i64 e 0).bind λf=>(jW l f).bind λb=>oV Pm [[D.int .i64 b.1,D.int .i64 b.2.1,D.str b.2.2.1,D.str b.2.2.2.1,D.sl true 5 b.2.2.2.2]] 72 λg=>kn (.inr (l,v23,v24,i64.wrap (v25+1),x',o7,qg,uX,xB,Dn,H7,KW,g))) else ke (.inr (l,v23,v24,v25,x',o7,qg,uX,xB,Dn,H7,KW,Pm))
def M.BI jW s:=M.yw jW s (λs=>some (Sum.inl s)) λt=>some (Sum.inr t)
def M.QK jW s:=fV (M.BI jW) s
def F.QK{jW:zan}(Xy:S.wZ.ok X0 λx=>jW x.1.1 x.1.2.1):LE X0 106:=le 4 (pOr (IC zbx [dD 300000 zbn,dD 300001 zbn]) (IC zbx [dD 300000 zbn,dD 300001 (cB 52 [pI,pI,pS,pS,pO 300002 0]),dD 300002 zbp])) (σ:=zaE⊕zaF) (λx=>(match x with| .inl x=> .inl ((x.1.1,x.1.va.1,x.1.va.2.1,x.1.va.2.2.1,x.2.1.1,x.2.1.2.1,x.2.1.2.2.1,x.2.1.va.1,x.2.2.1.1,x.2.2.1.2.1,x.2.2.1.2.2.1,x.2.2.1.va.1))| .inr x=> .inr ((x.1.1,x.1.va.1,x.1.va.2.1,x.1.va.2.2.1,x.2.1.1,x.2.1.2.1,x.2.1.2.2.1,x.2.1.va.1,x.2.2.1.1,x.2.2.1.2.1,x.2.2.1.2.2.1,x.2.2.1.va.1,x.va.1)))) (λx s=>(match s with| .inl s=> .inl (((s.1,(),(),s.2.1,s.2.2.1,s.va.1,()),((s.va.2.1,s.va.2.2.1,s.va.va.1,s.va.va.2.1,(),()),(s.wc.1,s.wc.2.1,s.wc.2.2.1,s.wc.va,(),()),())))| .inr s=> .inr (((s.1,(),(),s.2.1,s.2.2.1,s.va.1,()),((s.va.2.1,s.va.2.2.1,s.va.va.1,s.va.va.2.1,(),()),(s.wc.1,s.wc.2.1,s.wc.2.2.1,s.wc.va.1,(),()),s.wc.va.2,()))))) (λx=> .sum (.leaf zaE (λt=>(Ex.exit 0,⟨[(0,ET 5 t.1),(4,V.ptr 300000 0),(6,V.ptr 300001 0),(23,ET 1 t.2.1),(24,iY t.2.2.1),(25,iY t.va.1),(26,ou false)],[(300000,Cell.box 52 [iY t.va.2.1,iY t.va.2.2.1,qU t.va.va.1,qU t.va.va.2.1,V.nil 5]),(300001,Cell.box 52 [iY t.wc.1,iY t.wc.2.1,qU t.wc.2.2.1,qU t.wc.va,V.nil 5])]⟩))) (.leaf zaF (λt=>(Ex.exit 0,⟨[(0,ET 5 t.1),(4,V.ptr 300000 0),(6,V.ptr 300001 0),(23,ET 1 t.2.1),(24,iY t.2.2.1),(25,iY t.va.1),(26,ou false)],[(300000,Cell.box 52 [iY t.va.2.1,iY t.va.2.2.1,qU t.va.va.1,qU t.va.va.2.1,V.nil 5]),(300001,Cell.box 52 [iY t.wc.1,iY t.wc.2.1,qU t.wc.2.2.1,qU t.wc.va.1,V.own 300002 0]),(300002,Cell.arr false false 0 5 t.wc.va.2)]⟩)))) (λx=>M.yw jW) [fe Xy] [] (by rintro _ _ (⟨_,_,_,_,_,_,_,_,_,_,_,_⟩|⟨_,_,_,_,_,_,_,_,_,_,_,_,_⟩) _ _<;>simp only[oV,M.yw,nb]<;>rfl) (hE:=by intro _ _ s _;rcases s with s|s<;>kernel_rfl)
def M.NC(jW:zan)(l:au)(i:Int)(k:Int×Int×aC×aC×au->Option R):=(idx l i).bind λd=>JY 1 d λaR0 aR1 aR2 aR3 arV=>((M.QK jW (.inl (l,arV,(↑arV.length:Int),0,0,0,[],[],aR0,aR1,aR2,aR3))).bind λe=>kD e (λb=>k (b.2.2.2.2.2.2.2.2.1,b.2.2.2.2.2.2.2.2.2.1,b.2.2.2.2.2.2.2.2.2.2.1,b.2.2.2.2.2.2.2.2.2.2.2,[])) λc=>letE c λa=>k (a.2.2.2.2.2.2.2.2))
def M.qR:Nat->au->Int->Option zaP
 |0=>λ_ _=>none
 |n+1=>λl i=>M.NC (M.qR n) l i some
def M.wZ l i:=lim λn=>M.qR n l i
def C.akI{jW:zan}(Xy:S.wZ.ok X0 λx=>jW x.1.1 x.1.2.1):S.wZ.ok X0 λx=>M.NC jW x.1.1 x.1.2.1 some:=fnS (λx=>M.NC jW x.1.1 x.1.2.1) [] [F.QK Xy] (by intros;simp only[JY,M.NC,nb]<;>rfl)
def C.qR:∀n,S.wZ.ok X0 λx=>M.qR n x.1.1 x.1.2.1
 |0=>fA.zero
 |n+1=>C.akI (C.qR n)
def C.wZ:S.wZ.ok X0 λx=>M.wZ x.1.1 x.1.2.1:=fA.lim C.qR
def M.akJ{n:Nat}{l:au}{i:Int}{r:Int×Int×aC×aC×au}(h:M.qR n l i=some r):M.wZ l i=some r:=fA.Jf C.qR (by intro a b h;simp[S.wZ,rx,sg] at h;first|exact h|simp[Prod.ext_iff,h]) (x:=((l,i,()),())) h
abbrev M.TR(l:au)(k:Int×Int×aC×aC×au->Option R):=(M.wZ l (i64.wrap ((↑l.length:Int) - 1))).bind λa=>k (a)
def M.J8 l:=M.TR l some
def C.J8:=fTa S.J8 (λx=>M.TR x.1.1) [fe C.wZ]
def M.GL(l v10:au)(v11 v12:Int)(v20:au)(v21 x' o7:Int)(qg uX:aC)(xB:au)(s:Int)(kn:Int->Option R)(ke:(Unit)⊕(Int)->Option R):Option R:=match s with
 |v22=>bif decide (v22<v21) then((idx v20 v22).bind λb=>(jD .i64 b 0).bind λe=>(idx l e).bind λc=>(jD .i64 c 0).bind λa=>(M.gU x' o7 qg uX xB v22 a).bind λd=>bif !d then(ke (.inl ())) else kn (i64.wrap (v22+1))) else ke (.inr v22)
def M.RJ l v10 v11 v12 v20 v21 x' o7 qg uX xB s:=M.GL l v10 v11 v12 v20 v21 x' o7 qg uX xB s (λs=>some (Sum.inl s)) λt=>some (Sum.inr t)
def M.KF l v10 v11 v12 v20 v21 x' o7 qg uX xB s:=fV (M.RJ l v10 v11 v12 v20 v21 x' o7 qg uX xB) s
def F.KF:LE X0 30:=le 9 (IC [dD 0 (pL false 5),dD 4 (pP 300000 0),dD 10 (pL false 5),dD 11 pI,dD 12 pI,dD 20 (pL false 1),dD 21 pI,dD 22 pI] [dD 300000 (cB 60 zbk)]) (λx=>x.1.va.va.2.1) (λx s=>((x.1.1,(),x.1.2.2.1,x.1.va.1,x.1.va.2.1,x.1.va.2.2.1,x.1.va.va.1,s,()),((x.2.1.1,x.2.1.2.1,x.2.1.2.2.1,x.2.1.va.1,x.2.1.va.2.1,()),()))) (λx=> .sum (.leaf (Unit) (λt=>(Ex.ret,⟨[(2,ou false)],[]⟩))) (.leaf (Int) (λt=>(Ex.exit 2,⟨[(0,ET 5 x.1.1),(4,V.ptr 300000 0),(10,ET 5 x.1.2.2.1),(11,iY x.1.va.1),(12,iY x.1.va.2.1),(20,ET 1 x.1.va.2.2.1),(21,iY x.1.va.va.1),(22,iY t),(23,ou false)],[(300000,Cell.box 60 [iY x.2.1.1,iY x.2.1.2.1,qU x.2.1.2.2.1,qU x.2.1.va.1,ET 1 x.2.1.va.2.1])]⟩)))) (λx=>M.GL x.1.1 x.1.2.2.1 x.1.va.1 x.1.va.2.1 x.1.va.2.2.1 x.1.va.va.1 x.2.1.1 x.2.1.2.1 x.2.1.2.2.1 x.2.1.va.1 x.2.1.va.2.1) [fe C.gU] [] (by rintro _ _ _ _ _<;>simp only[M.GL,nb]<;>rfl)
def M.GN(l v10:au)(v11 s:Int)(kn:Int->Option R)(ke:(Unit)⊕(Int)->Option R):Option R:=match s with
 |v12=>bif decide (v12<v11) then((idx v10 v12).bind λc=>JY 1 c λaFL aFM aFN aFO afP=>((M.jA aFL aFM aFN aFO afP).bind λa=>bif !a then(ke (.inl ())) else (M.KF l v10 v11 v12 afP ((↑afP.length:Int)) aFL aFM aFN aFO afP 0).bind λb=>kD b (λe=>ke (.inl ())) λd=>letE d λf=>kn (i64.wrap (v12+1)))) else ke (.inr v12)
def M.RN l v10 v11 s:=M.GN l v10 v11 s (λs=>some (Sum.inl s)) λt=>some (Sum.inr t)
def M.KG l v10 v11 s:=fV (M.RN l v10 v11) s
def F.KG:LE X0 30:=le 4 (IC [dD 0 (pL false 5),dD 10 (pL false 5),dD 11 pI,dD 12 pI] []) (λx=>x.1.va.1) (λx s=>((x.1.1,x.1.2.1,x.1.2.2.1,s,()),())) (λx=> .sum (.leaf (Unit) (λt=>(Ex.ret,⟨[(2,ou false)],[]⟩))) (.leaf (Int) (λt=>(Ex.exit 0,⟨[(0,ET 5 x.1.1),(10,ET 5 x.1.2.1),(11,iY x.1.2.2.1),(12,iY t),(13,ou false)],[]⟩)))) (λx=>M.GN x.1.1 x.1.2.1 x.1.2.2.1) [fe C.jA] [F.KF] (by rintro _ _ _ _ _<;>simp only[JY,M.GN,nb]<;>rfl)
abbrev M.TS(l:au)(k:Bool->Option R):=(M.Ed l).bind λc=>cond (!c) (k false) ((M.KG l l ((↑l.length:Int)) 0).bind λb=>kD b (λf=>k false) λe=>letE e λg=>(M.J8 l).bind λa=>(M.kS a.1 a.2.1 a.2.2.1 a.2.2.2.1 (aB a.2.2.2.2)).bind λd=>k (decide (d<=40)))
def M.Hl l:=M.TS l some
def C.Hl:=fTa S.Hl (λx=>M.TS x.1.1) [fe C.Ed,fe C.J8,fe C.kS] [F.KG]
abbrev M.Me(l:au)(k:Bool->Option R):=(M.Hl l).bind λb=>cond b ((idx l (i64.wrap ((↑l.length:Int) - 1))).bind λc=>(jD .i64 c 0).bind λa=>k (a==45)) (k false)
def M.yR l:=M.Me l some
def C.yR:=fTa S.yR (λx=>M.Me x.1.1) [fe C.Hl]
abbrev M.Ou(code:au)(k:Bool->Option R):=(M.VQ code).bind λi=>cond i (k true) ((M.yO code).bind λd=>(M.J7 d).bind λb=>(M.Uf d).bind λc=>cond (c.2.1 !=0) (cond (cond (b.2.1==c.2.1) (cond (b.2.2==c.2.2) true false) false) (k ((↑b.1.length:Int)==0)) (k false)) ((M.iW c.1).bind λa=>cond ([[D.sl true 5 a.1],[D.int .i64 a.2.1,D.int .i64 a.2.2]].all gI) (cond (!cond (b.2.1==a.2.1) (cond (b.2.2==a.2.2) true false) false) (k false) ((M.yF (aB b.1) (aB a.1)).bind λg=>cond (!g) (k false) (cond (b.2.1 !=0) (cond ((↑b.1.length:Int)==0) (cond (decide (b.2.2>=0)) (cond (decide (b.2.2<=(↑d.length:Int))) ((M.BO b.2.1).bind λe=>k (!e==[])) (k false)) (k false)) (k false)) ((M.yQ (aB b.1)).bind λh=>cond h ((M.yR (aB b.1)).bind λf=>k f) (k false))))) none))
def M.Fg code:=M.Ou code some
def C.Fg:=fTa S.Fg (λx=>M.Ou x.1.1) [fe C.VQ,fe C.yO,fe C.J7,fe C.Uf,fe C.iW,fe C.yF,fe C.BO,fe C.yQ,fe C.yR]
end
open Int (reduceLE reduceLT reduceSub reduceAdd)
def gJ:(∀a b:Int,(a>=b)=(b<=a))/\(∀a b:Int,(a>b)=(b<a))/\(∀h:Decidable True,@decide True h=true)/\(∀h:Decidable False,@decide False h=false)/\(∀(α:Type) (a b:α),cond true a b=a)/\(∀(α:Type) (a b:α),cond false a b=b)/\(∀b:Bool,(b && true)=b)/\(∀b:Bool,(b && false)=false)/\(∀b:Bool,(true && b)=b)/\(∀b:Bool,(false && b)=false)/\((!true)=false)/\((!false)=true):=
 ⟨λ_ _=>rfl,λ_ _=>rfl,λh=>@decide_eq_true True h trivial,λh=>@decide_eq_false False h id,λ_ _ _=>rfl,λ_ _ _=>rfl,λb=>by cases b<;>rfl,λb=>by cases b<;>rfl,λ_=>rfl,λ_=>rfl,rfl,rfl⟩
def bI{m n:Nat}(h:m<=n):m.ble n=true:=Nat.ble_eq_true_of_le h
def ah{α β:Type}(a:α)(f:α->Option β):(some a).bind f=f a:=rfl
def ND:((0:Nat):Int)=0:=rfl
def qh(s:aC)(a:Int):Int:=if 0<=a then(match s[a.toNat]? with|some c=>(c.toNat:Int)|none=> -1) else -1
def isD(b:Int):Bool:=decide (b>=48) && decide (b<=57)
def EO(s:aC)(a:Int):Int:=if 0<=a then a+(((s.drop a.toNat).takeWhile λc=>isD (c.toNat:Int)).length:Nat) else a
def arZ(c:UInt8):c.toNat<256:=c.toNat_lt
def Ip(s:aC)(i:Nat):qh s (i:Int)=(match s[i]? with|some c=>(c.toNat:Int)|none=> -1):=by rw[qh,if_pos ak,ztn]
section
variable {s:aC} (h:s.length<=1048576)
include h
theorem CZ(a:Int):M.gG s a=some (qh s a):=by
 simp only[M.gG,M.SQ]
 by_cases h0:a<0
 ·rw[zdt h0,aH,qh,if_neg ak]
 ·rw[xK h0,bC];obtain⟨i,rfl⟩:∃i:Nat,a=i:=⟨a.toNat,ak⟩
  rw[Ip]
  by_cases h1:(i:Int)>=(s.length:Int)
  ·rw[zdt h1,aH,List.getElem?_eq_none ak]
  ·obtain⟨c,hc⟩:∃c,s[i]? =some c:=⟨s[i]'ak,by simp⟩
   have:=arZ c;rw[xK h1,bC,cO,hc,ah,aJ ak ak]
theorem C9(a:Int):M.iZ s a=some (qh s a):=by
 simp only[M.iZ,M.TA,M.dZ,M.Fq];rw[aJ ak ak]
 by_cases h0:a<0
 ·rw[xK ak,bC,ah,Bool.not_false,aH,qh,if_neg ak]
 ·rw[zdt ak,aH,ah];obtain⟨i,rfl⟩:∃i:Nat,a=i:=⟨a.toNat,ak⟩
  rw[Ip]
  by_cases h1:(i:Int)>=(s.length:Int)
  ·rw[xK ak,Bool.not_false,aH,List.getElem?_eq_none ak]
  ·obtain⟨c,hc⟩:∃c,s[i]? =some c:=⟨s[i]'ak,by simp⟩
   have:=arZ c;rw[zdt ak,zaU,bC,cO,hc,ah,aJ ak ak]
end
def akK(b:Int):M.tJ b=some (isD b):=by simp only[M.tJ,M.PX,M.dP,M.Eh,isD];cases decide (b>=48)<;>rfl
def akL(b:Int):M.tV b=some (isD b):=by simp only[M.tV,M.Qm,isD];cases decide (b>=48)<;>rfl
def aFP{s:aC}{b:Int->Option (Int⊕Int)}(hb:∀a,0<=a->a<=2000000->b a=some (bif isD (qh s a) then .inl (a+1) else .inr a))(h:s.length<=1048576):
  ∀(rest pre:aC),s=pre++rest->fV b (pre.length:Int)=some ((pre.length:Int)+((rest.takeWhile λc=>isD (c.toNat:Int)).length:Nat))
 |[],pre,e=>by
  have hl:pre.length=s.length:=by rw[e];simp
  refine aV ?_;rw[hb _ ak ak,Ip,List.getElem?_eq_none ak];simp[isD]
 |c::rest,pre,e=>by
  have hl:s.length=pre.length+(rest.length+1):=by rw[e];simp
  have hget:s[pre.length]? =some c:=by rw[e,List.getElem?_append_right (zaV _),Nat.sub_self];rfl
  have hs:=hb (pre.length:Int) ak ak;rw[Ip,hget] at hs;simp only at hs;cases hd:isD (c.toNat:Int) with
  |true=>have:=aFP hb h rest (pre++[c]) (by rw[e];simp);rw[Ai,Jj] at this;rw[hd,aH] at hs;rw[bY hs,List.takeWhile_cons,if_pos hd,show(pre.length:Int)+1=((pre.length+1:Nat):Int) by omega,this];simp;omega
  |false=>rw[hd,bC] at hs;rw[aV hs,List.takeWhile_cons,hd];simp
def aAh{s:aC}{b:Int->Option (Int⊕Int)}(hb:∀a,0<=a->a<=2000000->b a=some (bif isD (qh s a) then .inl (a+1) else .inr a))(h:s.length<=1048576)(a:Int)(h0:0<=a)(h1:a<=2000000):fV b a=some (EO s a):=by
 obtain⟨i,rfl⟩:∃i:Nat,a=i:=⟨a.toNat,ak⟩
 rw[EO,if_pos h0,ztn]
 by_cases hi:i<=s.length
 ·have:=aFP hb h (s.drop i) (s.take i) (List.take_append_drop i s).symm;rw[zlt,Nat.min_eq_left hi] at this;exact this
 ·rw[List.drop_eq_nil_of_le ak];refine aV ?_;rw[hb _ h0 h1,Ip,List.getElem?_eq_none ak];simp[isD]
def KH{s:aC}(h:s.length<=1048576){a:Int}(h0:0<=a):a<=EO s a/\(EO s a<=a\/EO s a<=s.length):=by have h1:=(List.takeWhile_sublist (p:=λc:UInt8=>isD (c.toNat:Int)) (l:=s.drop a.toNat)).length_le;rw[List.length_drop] at h1;rw[EO,if_pos h0];omega
section
variable {s:aC} (h:s.length<=1048576)
include h
theorem GR(a:Int)(h0:0<=a)(h1:a<=2000000):M.fQ s a=some (EO s a):=by simp only[M.fQ,M.NS,M.Ls];rw[aAh (λa h0 h1=>by simp only[M.VT,M.Hz,CZ h,akK,ah];rw[aJ ak ak];cases isD (qh s a)<;>rfl) h a h0 h1,ah]
theorem EP(a:Int)(h0:0<=a)(h1:a<=2000000):M.jB s a=some (EO s a):=by simp only[M.jB,M.LP,M.JA];rw[aAh (λa h0 h1=>by simp only[M.UN,M.FU,C9 h,akL,ah];rw[aJ ak ak];cases isD (qh s a)<;>rfl) h a h0 h1,ah]
end
def Xz(s:aC)(r:Int):Int:=bif(qh s r==101)||(qh s r==69) then
  (bif(qh s (r+1)==43)||(qh s (r+1)==45) then(bif decide (EO s (r+1+1)>r+1+1) then EO s (r+1+1) else r) else(bif decide (EO s (r+1)>r+1) then EO s (r+1) else r)) else r
def Wj(s:aC)(a:Int):Int:=if a<0\/(s.length:Int)<=a then -1 else
 bif qh s (EO s a)==46 then(bif(EO s a==a) &&(EO s (EO s a+1)==EO s a+1) then -1 else Xz s (EO s (EO s a+1))) else(bif EO s a==a then -1 else Xz s (EO s a))
section
variable {s:aC} (h:s.length<=1048576)
include h
set_option maxHeartbeats 2000000 in
theorem abA(a:Int)(ha:a<=1048576):M.yP s a=some (Wj s a):=by
 simp only[M.yP,M.TB,M.Gw,M.dZ,M.Fq,Wj];rw[aJ ak ak]
 by_cases h0:a<0
 ·rw[xK ak,bC,ah,Bool.not_false,aH,if_pos (.inl h0)]
 ·rw[zdt ak,aH,ah]
  by_cases h1:(s.length:Int)<=a
  ·rw[xK ak,Bool.not_false,aH,if_pos (.inr h1)]
  ·rw[zdt ak,zaU,bC,if_neg ak,EP h a ak ak,ah];have e1:=KH h (a:=a) ak;generalize hE:EO s a=e at e1|-;simp only[C9 h,ah];rw[aJ (n:=e+1) ak ak,aJ (n:=e - a) ak ak,EP h (e+1) ak ak,ah];have e2:=KH h (a:=e+1) ak;generalize hK:EO s (e+1)=k at e2|-;have hz:(i64.wrap (e - a+i64.wrap (i64.wrap (k - e) - 1))==0)=((e==a) &&(k==e+1)):=by rw[aJ (n:=k - e) ak ak,aJ (n:=k - e - 1) ak ak,aJ ak ak,Bool.eq_iff_iff];simp only[BK,beq_iff_eq];omega
   have hz2:(e - a==0)=(e==a):=by rw[Bool.eq_iff_iff];simp only[beq_iff_eq];omega
   rw[hz,hz2];have ex:∀r:Int,0<=r->r<=1048578->(bif qh s r==101 then
      ((some (qh s (i64.wrap (r+1)))).bind λaSm=>
      (bif aSm==43 then
       ((M.jB s (i64.wrap (i64.wrap (r+1)+1))).bind λaSn=>
       (bif decide (aSn>i64.wrap (i64.wrap (r+1)+1)) then(some aSn) else(some r))) else
       (bif aSm==45 then
       ((M.jB s (i64.wrap (i64.wrap (r+1)+1))).bind λaCC=>(bif decide (aCC>i64.wrap (i64.wrap (r+1)+1)) then(some aCC) else(some r))) else
       ((M.jB s (i64.wrap (r+1))).bind λaSo=>(bif decide (aSo>i64.wrap (r+1)) then(some aSo) else(some r)))))) else
      (bif qh s r==69 then
      ((some (qh s (i64.wrap (r+1)))).bind λaSp=>
       (bif aSp==43 then
       ((M.jB s (i64.wrap (i64.wrap (r+1)+1))).bind λaCD=>(bif decide (aCD>i64.wrap (i64.wrap (r+1)+1)) then(some aCD) else(some r))) else
       (bif aSp==45 then
        ((M.jB s (i64.wrap (i64.wrap (r+1)+1))).bind λaCP=>
        (bif decide (aCP>i64.wrap (i64.wrap (r+1)+1)) then(some aCP) else(some r))) else
        ((M.jB s (i64.wrap (r+1))).bind λaCE=>(bif decide (aCE>i64.wrap (r+1)) then(some aCE) else(some r)))))) else(some r)))=some (Xz s r):=by
    intro r h0 h1;rw[aJ (n:=r+1) ak ak,aJ (n:=r+1+1) ak ak,EP h (r+1) ak ak,EP h (r+1+1) ak ak,Xz];simp only[ah];cases qh s r==101<;>cases qh s r==69<;>cases qh s (r+1)==43<;>cases qh s (r+1)==45<;>cases decide (EO s (r+1+1)>r+1+1)<;>cases decide (EO s (r+1)>r+1)<;>rfl
   simp only[ah] at ex;cases qh s e==46 with
   |true=>
    simp only[aH];cases(e==a) &&(k==e+1) with
    |true=>rfl
    |false=>simp only[bC];exact ex k ak ak
   |false=>
    simp only[bC];cases e==a with
    |true=>rfl
    |false=>simp only[bC];have h2:=ex e ak ak;rw[aJ (n:=e+1) ak ak,EP h (e+1) ak ak,hK] at h2;simp only[ah] at h2;exact h2
theorem abB(a:Int)(ha:a<=1048576):M.yM s a=some (Wj s a):=by
 simp only[M.yM,M.SS,M.yS,Wj]
 by_cases h0:a<0
 ·rw[zdt h0,aH,if_pos (.inl h0)]
 ·rw[xK h0,bC];have e1:=KH h (a:=a) ak;rw[GR h a ak ak,ah];simp only[CZ h,ah]
  by_cases h1:(s.length:Int)<=a
  ·have he:EO s a=a:=ak;obtain⟨i,rfl⟩:∃i:Nat,a=i:=⟨a.toNat,ak⟩
   have hb:qh s (i:Int)= -1:=by rw[Ip,List.getElem?_eq_none ak]
   rw[he,hb,if_pos (.inr h1),show((-1:Int)==46)=false from rfl,bC,beq_self_eq_true,aH]
  ·rw[if_neg ak];generalize hE:EO s a=e at e1|-;have e2:=KH h (a:=e+1) ak;rw[aJ (n:=e+1) ak ak,GR h (e+1) ak ak,ah];have ex:∀r:Int,0<=r->r<=1048578->(bif qh s r==101 then
      (bif qh s (i64.wrap (r+1))==43 then
       ((M.fQ s (i64.wrap (i64.wrap (r+1)+1))).bind λa0I=>
        (bif decide (a0I>i64.wrap (i64.wrap (r+1)+1)) then
        ((M.fQ s (i64.wrap (i64.wrap (r+1)+1))).bind λa0J=>(some a0J)) else(some r))) else
        (bif qh s (i64.wrap (r+1))==45 then
        ((M.fQ s (i64.wrap (i64.wrap (r+1)+1))).bind λa0K=>
         (bif decide (a0K>i64.wrap (i64.wrap (r+1)+1)) then
         ((M.fQ s (i64.wrap (i64.wrap (r+1)+1))).bind λa0L=>(some a0L)) else(some r))) else
        ((M.fQ s (i64.wrap (r+1))).bind λa0M=>(bif decide (a0M>i64.wrap (r+1)) then((M.fQ s (i64.wrap (r+1))).bind λa0N=>(some a0N)) else(some r))))) else
       (bif qh s r==69 then
        (bif qh s (i64.wrap (r+1))==43 then
        ((M.fQ s (i64.wrap (i64.wrap (r+1)+1))).bind λa0O=>
         (bif decide (a0O>i64.wrap (i64.wrap (r+1)+1)) then
         ((M.fQ s (i64.wrap (i64.wrap (r+1)+1))).bind λa0P=>(some a0P)) else(some r))) else
         (bif qh s (i64.wrap (r+1))==45 then
         ((M.fQ s (i64.wrap (i64.wrap (r+1)+1))).bind λa0Q=>
          (bif decide (a0Q>i64.wrap (i64.wrap (r+1)+1)) then
          ((M.fQ s (i64.wrap (i64.wrap (r+1)+1))).bind λa0R=>(some a0R)) else(some r))) else
         ((M.fQ s (i64.wrap (r+1))).bind λa0S=>(bif decide (a0S>i64.wrap (r+1)) then((M.fQ s (i64.wrap (r+1))).bind λa0T=>(some a0T)) else(some r))))) else(some r)))=some (Xz s r):=by
    intro r h0 h1;rw[aJ (n:=r+1) ak ak,aJ (n:=r+1+1) ak ak,GR h (r+1) ak ak,GR h (r+1+1) ak ak,Xz];simp only[ah];cases qh s r==101<;>cases qh s r==69<;>cases qh s (r+1)==43<;>cases qh s (r+1)==45<;>cases decide (EO s (r+1+1)>r+1+1)<;>cases decide (EO s (r+1)>r+1)<;>rfl
   generalize hK:EO s (e+1)=k at e2|-;have hka:(k==a)=false:=by rw[Rf];omega
   rw[hka];cases qh s e==46 with
   |true=>
    simp only[aH,bC];cases e==a with
    |true=>
     simp only[aH,Bool.true_and];cases k==e+1 with
     |true=>rfl
     |false=>simp only[bC];exact ex k ak ak
    |false=>simp only[bC,Bool.false_and];exact ex k ak ak
   |false=>
    simp only[bC];cases e==a with
    |true=>rfl
    |false=>simp only[bC];have h2:=ex e ak ak;rw[aJ (n:=e+1) ak ak,GR h (e+1) ak ak,hK] at h2;simp only[ah] at h2;exact h2
end
def afQ(q:Int):aC->Int->Int
 |[],_=> -1
 |c::l,i=>if(c.toNat:Int)=q then i+1 else if(c.toNat:Int)=10 then -1 else if(c.toNat:Int)=92 then(match l with
   |[]=> -1
   |d::l'=>if(d.toNat:Int)=10 then -1 else afQ q l' (i+2)) else afQ q l (i+1)
def aha(q:Int)(c:UInt8)(l:aC)(i:Int):afQ q (c::l) i=if(c.toNat:Int)=q then i+1 else if(c.toNat:Int)=10 then -1 else if(c.toNat:Int)=92 then(match l with
   |[]=> -1
   |d::l'=>if(d.toNat:Int)=10 then -1 else afQ q l' (i+2)) else afQ q l (i+1):=by
 cases l with
 |nil=>simp[afQ]
 |cons d l=>simp[afQ]
def hdI:aC->Int
 |[]=> -1
 |d::_=>(d.toNat:Int)
def quoted(s:aC)(a q:Int):Int:=if qh s a=q then afQ q (s.drop (a+1).toNat) (a+1) else -1
def aAi{s:aC}(h:s.length<=1048576)(q:Int)(hq:q≠10):∀(n:Nat) (rest pre:aC),rest.length<=n->s=pre++rest->
  (∃r,M.xU s q (pre.length:Int)=some r/\(kD r some λu=>letE u λ_=>some (-1))=some (afQ q rest (pre.length:Int)))/\
  (∃r,M.wF s q (pre.length:Int)=some r/\(kD r some λu=>letE u λ_=>some (-1))=some (afQ q rest (pre.length:Int)))
 |n,[],pre,hn,e=>by
  have hl:pre.length=s.length:=by rw[e];simp
  constructor
  ·refine⟨.inr (pre.length:Int), ?_,rfl⟩;rw[M.xU];refine aV ?_;simp only[M.BR,M.xR];rw[xK ak,bC]
  ·refine⟨.inr (pre.length:Int), ?_,rfl⟩;rw[M.wF];refine aV ?_;simp only[M.zW,M.wV];rw[xK ak,bC]
 |0,c::rest,pre,hn,e=>by simp at hn
 |n+1,c::rest,pre,hn,e=>by
  simp only[GX] at hn;have hl:s.length=pre.length+(rest.length+1):=by rw[e];simp
  have hget:s[pre.length]? =some c:=by rw[e,List.getElem?_append_right (zaV _),Nat.sub_self];rfl
  have hc:=arZ c;have hw:i64.wrap ((c.toNat:Nat):Int)=(c.toNat:Int):=aJ ak ak;have hw1:i64.wrap ((pre.length:Int)+1)=((pre.length+1:Nat):Int):=by rw[aJ ak ak];omega
  have hw2:i64.wrap (((pre.length+1:Nat):Int)+1)=((pre.length+2:Nat):Int):=by rw[aJ ak ak];omega
  have hnext:qh s ((pre.length+1:Nat):Int)=hdI rest:=by rw[Ip,e,List.getElem?_append_right ak,show pre.length+1 - pre.length=1 by omega];cases rest<;>rfl
  have hS:M.BR s q (pre.length:Int)=some (if(c.toNat:Int)=q then .inr (.inl ((pre.length+1:Nat):Int)) else if(c.toNat:Int)=10 then .inr (.inl (-1)) else if(c.toNat:Int)=92 then
    (if qh s ((pre.length+1:Nat):Int)=10 then .inr (.inl (-1)) else .inl ((pre.length+2:Nat):Int)) else .inl ((pre.length+1:Nat):Int)):=by
   simp only[M.BR,M.xR,cO,hget,ah,hw,hw1,hw2,CZ h];rw[zdt ak,aH]
   by_cases c1:(c.toNat:Int)=q
   ·rw[if_pos c1,show((c.toNat:Int)==q)=true by simpa using c1,aH]
   ·rw[if_neg c1,show((c.toNat:Int)==q)=false by simpa using c1,bC]
    by_cases c2:(c.toNat:Int)=10
    ·rw[if_pos c2,show((c.toNat:Int)==10)=true by simpa using c2,aH]
    ·rw[if_neg c2,show((c.toNat:Int)==10)=false by simpa using c2,bC]
     by_cases c3:(c.toNat:Int)=92
     ·rw[if_pos c3,show((c.toNat:Int)==92)=true by simpa using c3,aH]
      by_cases c4:qh s ((pre.length+1:Nat):Int)=10
      ·rw[if_pos c4,c4];rfl
      ·rw[if_neg c4,show(qh s ((pre.length+1:Nat):Int)==10)=false by simpa using c4,bC]
     ·rw[if_neg c3,show((c.toNat:Int)==92)=false by simpa using c3,bC]
  have hI:M.zW s q (pre.length:Int)=some (if(c.toNat:Int)=10 then .inr (.inr (pre.length:Int)) else if(c.toNat:Int)=q then .inr (.inl ((pre.length+1:Nat):Int)) else if(c.toNat:Int)=92 then
    (if qh s ((pre.length+1:Nat):Int)=10 then .inl ((pre.length+1:Nat):Int) else .inl ((pre.length+2:Nat):Int)) else .inl ((pre.length+1:Nat):Int)):=by
   simp only[M.zW,M.wV,cO,hget,ah,hw,hw1,hw2,C9 h];rw[zdt ak,aH]
   by_cases c2:(c.toNat:Int)=10
   ·rw[if_pos c2,show((c.toNat:Int) !=10)=false by simpa using c2,bC]
   ·rw[if_neg c2,show((c.toNat:Int) !=10)=true by simpa using c2,aH]
    by_cases c1:(c.toNat:Int)=q
    ·rw[if_pos c1,show((c.toNat:Int)==q)=true by simpa using c1,aH]
    ·rw[if_neg c1,show((c.toNat:Int)==q)=false by simpa using c1,bC]
     by_cases c3:(c.toNat:Int)=92
     ·rw[if_pos c3,show((c.toNat:Int)==92)=true by simpa using c3,aH]
      by_cases c4:qh s ((pre.length+1:Nat):Int)=10
      ·rw[if_pos c4,c4];rfl
      ·rw[if_neg c4,show(qh s ((pre.length+1:Nat):Int) !=10)=true by simpa using c4,aH]
     ·rw[if_neg c3,show((c.toNat:Int)==92)=false by simpa using c3,bC]
  have e1:s=(pre++[c])++rest:=by rw[e];simp
  have ih1:=aAi h q hq n rest (pre++[c]) ak e1;rw[Ai,Jj] at ih1;rw[M.xU,M.wF] at ih1|-;rw[aha]
  by_cases c1:(c.toNat:Int)=q
  ·have c2:¬(c.toNat:Int)=10:=ak;rw[if_pos c1];rw[if_pos c1] at hS;rw[if_neg c2,if_pos c1] at hI;refine⟨⟨_,aV hS, ?_⟩,⟨_,aV hI, ?_⟩⟩<;>simp[kD]
  ·rw[if_neg c1];rw[if_neg c1] at hS
   by_cases c2:(c.toNat:Int)=10
   ·rw[if_pos c2];rw[if_pos c2] at hS hI;exact⟨⟨_,aV hS,rfl⟩,⟨_,aV hI,rfl⟩⟩
   ·rw[if_neg c2];rw[if_neg c2] at hS hI;rw[if_neg c1] at hI
    by_cases c3:(c.toNat:Int)=92
    ·rw[if_pos c3];rw[if_pos c3] at hS hI;cases rest with
     |nil=>
      rw[hnext,hdI] at hS hI;simp only[show¬((-1:Int)=10) by omega,if_false] at hS hI;have hend:∀(b:Int->Option (Int⊕(Int⊕Int))),True:=λ_=>trivial
      simp only[OT] at hl;refine⟨⟨.inr ((pre.length+2:Nat):Int), ?_,rfl⟩,⟨.inr ((pre.length+2:Nat):Int), ?_,rfl⟩⟩
      ·rw[bY hS];refine aV ?_;simp only[M.BR,M.xR];rw[xK ak,bC]
      ·rw[bY hI];refine aV ?_;simp only[M.zW,M.wV];rw[xK ak,bC]
     |cons d rest'=>
      simp only[hdI] at hnext|-;rw[hnext] at hS hI
      by_cases c4:(d.toNat:Int)=10
      ·rw[if_pos c4];rw[if_pos c4] at hS hI;refine⟨⟨_,aV hS,rfl⟩, ?_⟩;obtain⟨r,h1,h2⟩:=ih1.2;refine⟨r,by rw[bY hI];exact h1, ?_⟩;rw[h2,aha,if_neg ak,if_pos c4]
      ·rw[if_neg c4];rw[if_neg c4] at hS hI;have e2:s=(pre++[c,d])++rest':=by rw[e];simp
       simp only[GX] at hn;have ih2:=aAi h q hq n rest' (pre++[c,d]) ak e2;rw[Ai,show[c,d].length=2 from rfl,M.xU,M.wF] at ih2;rw[bY hS,bY hI,show(pre.length:Int)+2=((pre.length+2:Nat):Int) by omega];exact ih2
    ·rw[if_neg c3];rw[if_neg c3] at hS hI;rw[bY hS,bY hI,show(pre.length:Int)+1=((pre.length+1:Nat):Int) by omega];exact ih1
section
variable {s:aC} (h:s.length<=1048576)
include h
theorem anF(a q:Int)(h0:0<=a)(h1:a<=1048576)(hq:0<=q)(hq2:q≠10):M.vF s a q=some (quoted s a q)/\M.sS s a q=some (quoted s a q):=by
 simp only[M.vF,M.NT,M.sS,M.LQ,CZ h,C9 h,ah,quoted]
 by_cases hb:qh s a=q
 ·rw[if_pos hb,show(qh s a !=q)=false by simpa using hb,bC,bC,aJ ak ak];obtain⟨i,rfl⟩:∃i:Nat,a=i:=⟨a.toNat,ak⟩
  have hi:i<s.length:=by
   rcases Nat.lt_or_ge i s.length with hlt|hge
   ·exact hlt
   ·rw[Ip,List.getElem?_eq_none hge] at hb;simp only at hb;omega
  obtain⟨⟨r,k1,k2⟩,⟨r',k3,k4⟩⟩:=aAi h q hq2 _ (s.drop (i+1)) (s.take (i+1)) (zaV _) (List.take_append_drop _ s).symm;rw[zlt,Nat.min_eq_left ak] at k1 k2 k3 k4;rw[show(i:Int)+1=((i+1:Nat):Int) by omega,ztn,k1,k3,ah,ah];exact⟨k2,k4⟩
 ·rw[if_neg hb,show(qh s a !=q)=true by simpa using hb,aH,aH];exact⟨rfl,rfl⟩
theorem ahb(a:Int)(h0:0<=a)(h1:a<=1048576):M.Bg s a=some (quoted s a 34)/\M.Bq s a=some (quoted s a 34):=by have:=anF h a 34 h0 h1 ak ak;simp only[M.Bg,M.SV,M.Bq,M.TD,this.1,this.2,ah];constructor<;>first|rfl|trivial
def XA(s:aC)(a:Int):Int:=bif quoted s a 47==a+2 then -1 else quoted s a 47
theorem ahc(a:Int)(h0:0<=a)(h1:a<=1048576):M.Bh s a=some (XA s a)/\M.Bv s a=some (XA s a):=by have:=anF h a 47 h0 h1 ak ak;simp only[M.Bh,M.SY,M.Bv,M.TF,this.1,this.2,ah,XA];rw[aJ ak ak];cases quoted s a 47==a+2<;>simp
end
end Go.Proofs.YtflhkdjglihbmaaGreatDoor
namespace Go.Proofs.YtflhkdjglihbmaaGreatDoor
open Go Go.Vm
open Int (reduceLE reduceLT reduceSub reduceAdd)
@[simp] theorem KI(l:List (aC)):(encS l).length=l.length:=by simp[encS]
@[simp] theorem Yr(l:List (aC))(i:Nat):(encS l)[i]? =(l[i]?).map λs=>[D.str s]:=by simp[encS]
def cS0(s:aC):cStr [D.str s] 0=some s:=rfl
def strsOf:Row->List (aC)
 |[]=>[]
 | .str s::r=>s::strsOf r
 |_::r=>strsOf r
def Y6:List (aC):=strsOf G7
def UD:List (aC):=strsOf VP
def ar0:List (aC):=strsOf OX
def Uo(s:aC):List (aC)->Int->Int
 |[],_=> -1
 |x::l,i=>if x==s then i else Uo s l (i+1)
def abC(s:aC):∀(l:List (aC)) (i:Int),0<=i-> -1<=Uo s l i/\Uo s l i<i+l.length
 |[],i,h=>by simp[Uo];omega
 |x::l,i,h=>by
  rw[Uo];split
  ·simp;omega
  ·have:=abC s l (i+1) ak;simp only[GX];omega
def anG(s:aC)(l:List (aC))(hl:l.length<=1048576){b:Int->Option (Int⊕(Int⊕Int))}
  (hb:∀(i:Nat) x,l[i]? =some x->b (i:Int)=some (if x==s then .inr (.inl (i:Int)) else .inl ((i:Int)+1))) (he:b (l.length:Int)=some (.inr (.inr (l.length:Int)))):
  ∃r,fV b 0=some r/\(kD r some λu=>letE u λ_=>some (-1))=some (Uo s l 0):=by
 have key:∀(t:List (aC)) (i:Nat),l.drop i=t->i<=l.length->∃r,fV b (i:Int)=some r/\(kD r some λu=>letE u λ_=>some (-1))=some (Uo s t (i:Int)):=by
  intro t;induction t with
  |nil=>
   intro i hd hi;have:i=l.length:=by have:=congrArg List.length hd;simp at this;omega
   subst this;exact⟨_,aV he,rfl⟩
  |cons x t ih=>
   intro i hd hi;have hx:l[i]? =some x:=by
    have:(l.drop i)[0]? =some x:=by rw[hd];rfl
    simpa using this
   have hlt:i<l.length:=(QV.1 hx).1;have hd':l.drop (i+1)=t:=by rw[<-List.drop_drop,hd];rfl
   have hs:=hb i x hx;rw[Uo];cases hxs:x==s with
   |true=>rw[hxs] at hs;exact⟨_,aV hs,rfl⟩
   |false=>
    rw[hxs] at hs;obtain⟨r,h1,h2⟩:=ih (i+1) hd' hlt;refine⟨r, ?_, ?_⟩
    ·rw[bY hs,show(i:Int)+1=((i+1:Nat):Int) by omega];exact h1
    ·rw[h2];simp
 exact key l 0 rfl (Nat.zero_le _)
def anH(s:aC)(l:List (aC))(hl:l.length<=1048576):M.Bf (encS l) s=some (Uo s l 0):=by
 obtain⟨r,h1,h2⟩:=anG s l hl (b:=M.Lm (encS l) s)
  (λi x hx=>by have hi:=(QV.1 hx).1;simp only[M.Lm,M.Gf,KI,cO,Yr,hx,MI,ah,cS0];rw[zdt ak,aH,aJ ak ak];cases x==s<;>rfl)
  (by simp only[M.Lm,M.Gf,KI];rw[xK ak,bC])
 simp only[M.Bf,M.SK,M.PY];rw[h1,ah];exact h2
def akM(s:aC)(l:List (aC))(hl:l.length<=1048576):M.slices_Index (encS l) s=some (Uo s l 0):=by
 obtain⟨r,h1,h2⟩:=anG s l hl (b:=M.JD (encS l) s (l.length:Int))
  (λi x hx=>by have hi:=(QV.1 hx).1;simp only[M.JD,M.Ey,cO,Yr,hx,MI,ah,cS0];rw[zdt ak,aH,aJ ak ak,show(s==x)=(x==s) by rw[Bool.eq_iff_iff,beq_iff_eq,beq_iff_eq];exact⟨Eq.symm,Eq.symm⟩];cases x==s<;>rfl)
  (by simp only[M.JD,M.Ey];rw[xK ak,bC])
 simp only[M.slices_Index,M.Qp,M.Oh,KI];rw[h1,ah];exact h2
def aiJ(s:aC):Int:=if Uo s Y6 0<0 then 0 else 10+Uo s Y6 0
def Xh(s:aC):Bool:=decide (Uo s ar0 0>=0)
def ar1:M.Am=some (encS Y6):=rfl
def ar2:M.qM=some (encS ar0):=rfl
def akN:M.Ap=some (encS UD):=rfl
def aH9:List.map (λx=>[x]) G7=encS Y6:=rfl
def aDM:List.map (λx=>[x]) OX=encS ar0:=rfl
def Y7(s:aC):M.qw s=some (aiJ s)/\M.qy s=some (aiJ s):=by
 have hr:=abC s Y6 0 ak;have hl:Y6.length=17:=rfl;simp only[M.qw,M.Lp,M.qy,M.LV,ar1,aH9,ah,anH s Y6 (by rw[hl];omega),akM s Y6 (by rw[hl];omega),aiJ]
 by_cases h:Uo s Y6 0<0
 ·rw[zdt h,aH,if_pos h];exact⟨rfl,rfl⟩
 ·rw[xK h,bC,if_neg h,aJ ak ak];exact⟨rfl,rfl⟩
def MB(s:aC):M.kY s=some (Xh s)/\M.mJ s=some (Xh s):=by have hl:ar0.length=21:=rfl;simp only[M.kY,M.Lr,M.mJ,M.LW,M.slices_Contains,M.Ez,ar2,aDM,ah,anH s ar0 (by rw[hl];omega),akM s ar0 (by rw[hl];omega),Xh];constructor<;>first|rfl|trivial
def isL(b:Int):Bool:=(decide (b>=97) && decide (b<=122))||((decide (b>=65) && decide (b<=90))||(b==95))
def isW(b:Int):Bool:=isL b||isD b
def O6(b:Int):M.mP b=some (isL b)/\M.mQ b=some (isL b):=by simp only[M.mP,M.NQ,M.dP,M.Eh,M.mQ,M.Oe,isL];cases decide (b>=97)<;>cases decide (b<=122)<;>cases decide (b>=65)<;>cases decide (b<=90)<;>cases(b==95)<;>exact⟨rfl,rfl⟩
def Fv(b:Int):M.jL b=some (isW b)/\M.oN b=some (isW b):=by simp only[M.jL,M.Jt,M.oN,M.JB,O6,akK,akL,ah,isW];cases isL b<;>cases isD b<;>exact⟨rfl,rfl⟩
def aAj(s:aC):Bool:=s.all λc=>isW (c.toNat:Int)
def a0U:aC->Bool
 |[]=>false
 |c::_=>isL (c.toNat:Int)
def Jc(s:aC):Bool:=aAj s &&((decide ((s.length:Int)>=1) && decide ((s.length:Int)<=12)) && a0U s)
def akO(s:aC){b:Int->Option (Int⊕(Unit⊕Int))}
  (hb:∀(i:Nat) c,s[i]? =some c->b (i:Int)=some (bif isW (c.toNat:Int) then .inl ((i:Int)+1) else .inr (.inl ()))) (he:b (s.length:Int)=some (.inr (.inr (s.length:Int)))):
  fV b 0=some (bif aAj s then .inr (s.length:Int) else .inl ()):=by
 have key:∀(t:aC) (i:Nat),s.drop i=t->i<=s.length->fV b (i:Int)=some (bif aAj t then .inr (s.length:Int) else .inl ()):=by
  intro t;induction t with
  |nil=>
   intro i hd hi;have:i=s.length:=by have:=congrArg List.length hd;simp at this;omega
   subst this;exact aV he
  |cons x t ih=>
   intro i hd hi;have hx:s[i]? =some x:=by
    have:(s.drop i)[0]? =some x:=by rw[hd];rfl
    simpa using this
   have hlt:i<s.length:=(QV.1 hx).1;have hd':s.drop (i+1)=t:=by rw[<-List.drop_drop,hd];rfl
   have hs:=hb i x hx;rw[aAj,List.all_cons];cases hw:isW (x.toNat:Int) with
   |true=>rw[hw,aH] at hs;rw[bY hs,show(i:Int)+1=((i+1:Nat):Int) by omega,ih (i+1) hd' hlt,Bool.true_and];rfl
   |false=>rw[hw,bC] at hs;rw[aV hs];rfl
 exact key s 0 rfl (Nat.zero_le _)
def Y8(s:aC)(h:s.length<=1048576):M.qp s=some (Jc s)/\M.qx s=some (Jc s):=by
 have hw:∀c:UInt8,i64.wrap ((c.toNat:Nat):Int)=(c.toNat:Int):=λc=>by have:=arZ c;exact aJ ak ak
 have h1:=akO s (b:=M.FM s)
  (λi c hc=>by have hi:=(QV.1 hc).1;simp only[M.FM,M.zQ,cO,hc,ah,hw,Fv];rw[zdt ak,aH,aJ ak ak];cases isW (c.toNat:Int)<;>rfl)
  (by simp only[M.FM,M.zQ];rw[xK ak,bC])
 have h2:=akO s (b:=M.FV s (s.length:Int))
  (λi c hc=>by have hi:=(QV.1 hc).1;simp only[M.FV,M.zX,cO,hc,ah,hw,Fv];rw[zdt ak,aH,aJ ak ak];cases isW (c.toNat:Int)<;>rfl)
  (by simp only[M.FV,M.zX];rw[xK ak,bC])
 simp only[M.qp,M.Ll,M.qx,M.LU,M.Ju,M.JC,M.dP,M.Eh,M.dZ,M.Fq];rw[h1,h2,ah,ah,Jc];cases aAj s with
 |false=>exact⟨rfl,rfl⟩
 |true=>
  simp only[aH,kD,letE,Bool.true_and];cases s with
  |nil=>exact⟨rfl,rfl⟩
  |cons c l=>have hi:idx (c::l) 0=some c:=rfl;simp only[hi,ah,hw,O6];cases decide (((c::l).length:Int)>=1)<;>cases decide (((c::l).length:Int)<=12)<;>exact⟨rfl,rfl⟩
def yx(s:aC):Bool:=Jc s &&((aiJ s==0) && !(Xh s))
def Yt(s:aC)(h:s.length<=1048576):M.kL s=some (yx s)/\M.lI s=some (yx s):=by have h1:=Y8 s h;simp only[M.kL,M.SN,M.lI,M.TG,h1.1,h1.2,Y7,MB,ah,yx];cases Jc s<;>cases aiJ s==0<;>cases Xh s<;>exact⟨rfl,rfl⟩
end Go.Proofs.YtflhkdjglihbmaaGreatDoor
namespace Go.Proofs.YtflhkdjglihbmaaGreatDoor
open Go Go.Vm
open Int (reduceLE reduceLT reduceSub reduceAdd)
def aFQ(c:UInt8)(n:Nat)(h:n<256):(((c.toNat:Nat):Int)==(n:Int))=(c==UInt8.ofNat n):=by
 rw[Bool.eq_iff_iff,beq_iff_eq,beq_iff_eq];constructor
 ·intro e;apply UInt8.toNat_inj.1;rw[UInt8.toNat_ofNat',Nat.mod_eq_of_lt h];omega
 ·rintro rfl;rw[UInt8.toNat_ofNat',Nat.mod_eq_of_lt h]
def hasB(c:UInt8)(s:aC):Bool:=s.any (· ==c)
def axG(s:aC)(c:UInt8):decide (0<=Lib.indexByte s c)=hasB c s:=by
 have hge:=Lib.indexByte_ge s c;rw[Bool.eq_iff_iff,decide_eq_true_eq,hasB,List.any_eq_true];constructor
 ·intro h;obtain⟨i,hi⟩:∃i:Nat,Lib.indexByte s c=i:=⟨(Lib.indexByte s c).toNat,ak⟩
  exact⟨c,UK (Lib.indexByte_some hi).1,by simp⟩
 ·rintro⟨x,hx,hc⟩;have:=beq_iff_eq.1 hc;subst this;rcases Int.lt_or_le (Lib.indexByte s x) 0 with h|h
  ·obtain⟨i,hi⟩:=List.mem_iff_getElem?.1 hx;exact absurd hi (Lib.indexByte_none ak i)
  ·exact h
def ar4(s:aC)(h:s.length<=1000000000):M.yC s=some (!(hasB 10 s)):=by
 have key:∀(t:aC) (i:Nat),s.drop i=t->i<=s.length->fV (M.En s) (i:Int)=some (bif hasB 10 t then .inl () else .inr (s.length:Int)):=by
  intro t;induction t with
  |nil=>
   intro i hd hi;have:i=s.length:=by have:=congrArg List.length hd;simp at this;omega
   subst this;refine aV ?_;simp only[M.En,M.Em];rw[xK ak,bC];rfl
  |cons x t ih=>
   intro i hd hi;have hx:s[i]? =some x:=by
    have:(s.drop i)[0]? =some x:=by rw[hd];rfl
    simpa using this
   have hlt:i<s.length:=(QV.1 hx).1;have hd':s.drop (i+1)=t:=by rw[<-List.drop_drop,hd];rfl
   have hs:M.En s (i:Int)=some (bif x==10 then .inr (.inl ()) else .inl ((i:Int)+1)):=by simp only[M.En,M.Em,cO,hx,ah];rw[zdt ak,aH,show(10:Int)=((10:Nat):Int) from rfl,aFQ _ _ ak,aJ ak ak,show(x==UInt8.ofNat 10)=(x==10) from rfl];cases x==10<;>rfl
   rw[hasB,List.any_cons];cases hc:x==10 with
   |true=>rw[hc,aH] at hs;rw[aV hs];rfl
   |false=>rw[hc,bC] at hs;rw[bY hs,show(i:Int)+1=((i+1:Nat):Int) by omega,ih (i+1) hd' hlt,Bool.false_or];rfl
 have:=key s 0 rfl (Nat.zero_le _);rw[ND] at this;simp only[M.yC,M.PZ,M.NR];rw[this,ah];cases hasB 10 s<;>rfl
def aDN:∀i,i<17->cStr G7 i=Y6[i]? :=by decide+kernel
def avV:∀i,i<39->cStr VP i=UD[i]? :=by decide+kernel
def spell(k:Int):aC:=if k=1 then[10] else if 10<=k/\k<=26 then Y6[(k - 10).toNat]?.getD [] else if 30<=k/\k<=68 then UD[(k - 30).toNat]?.getD [] else[]
def zN(k:Int)(hk:I64 k):M.jO k=some (spell k)/\M.D9 k=some (spell k):=by
 have l1:Y6.length=17:=rfl;have l2:UD.length=39:=rfl;simp only[M.jO,M.P5,M.D9,M.Qu,M.ug,M.ED,M.zI,M.JF,M.dZ,M.Fq,M.dP,M.Eh,ar1,akN,ah,spell]
 by_cases h1:k=1
 ·subst h1;exact⟨rfl,rfl⟩
 ·rw[show(k==1)=false by simpa using h1,bC,bC,if_neg h1]
  by_cases h2:10<=k/\k<=26
  ·obtain⟨i,hi⟩:∃i:Nat,k=10+i:=⟨(k - 10).toNat,ak⟩
   have hw:i64.wrap (k - 10)=(i:Int):=by rw[aJ ak ak];omega
   obtain⟨x,hx⟩:∃x,Y6[i]? =some x:=⟨Y6[i]'ak,by simp⟩
   rw[if_pos h2,zdt (show k>=10 by omega),aH,zdt (show k<=26 by omega),hw,zdt (show(0:Int)<=(i:Int) by omega),zdt (show(i:Int)<17 by omega)];simp only[ah,aH,cO,ztn,Yr,hx,MI,cS0,Bool.and_self,Nat.zero_add,Nat.mul_one,aDN i ak];rw[show(k - 10).toNat=i by omega,hx];exact⟨rfl,rfl⟩
  ·have hf:(bif decide (k>=10) then some (decide (k<=26)) else some false)=some false:=by
    by_cases h3:k>=10
    ·rw[zdt h3,aH,xK ak]
    ·rw[xK h3,bC]
   rw[if_neg h2,hf];simp only[ah,bC]
   by_cases h4:30<=k/\k<=68
   ·obtain⟨i,hi⟩:∃i:Nat,k=30+i:=⟨(k - 30).toNat,ak⟩
    have hw:i64.wrap (k - 30)=(i:Int):=by rw[aJ ak ak];omega
    obtain⟨x,hx⟩:∃x,UD[i]? =some x:=⟨UD[i]'ak,by simp⟩
    rw[if_pos h4,zdt (show k>=30 by omega),aH,zdt (show k<=68 by omega),hw,zdt (show(0:Int)<=(i:Int) by omega),zdt (show(i:Int)<39 by omega)];simp only[ah,aH,cO,ztn,Yr,hx,MI,cS0,Bool.and_self,Nat.zero_add,Nat.mul_one,avV i ak];rw[show(k - 30).toNat=i by omega,hx];exact⟨rfl,rfl⟩
   ·have hf:(bif decide (k>=30) then some (decide (k<=68)) else some false)=some false:=by
     by_cases h3:k>=30
     ·rw[zdt h3,aH,xK ak]
     ·rw[xK h3,bC]
    rw[if_neg h4,hf];exact⟨rfl,rfl⟩
def tX(k:Int)(s:aC):Bool:=bif s==[] then false else
 bif k==2 then(qh s 0==35) && !(hasB 10 s) else bif k==3 then Wj s 0==(s.length:Int) else bif k==4 then quoted s 0 34==(s.length:Int) else bif k==5 then XA s 0==(s.length:Int) else
 bif k==6 then yx s else bif k==7 then yx s else bif k==8 then Xh s else s==spell k
def aeV(k:Int)(s:aC)(a:Int)(h:s.length<=1048576)(hk:I64 k):M.nM k s a=some (tX k s)/\M.qX k s a=some (tX k s):=by
 have hn:=Yt s h;have hb:=MB s;have hst:=ahb h 0 ak ak;have her:=ahc h 0 ak ak;have hsp:=zN k hk;have hct:M.strings_Contains s [10]=some (hasB 10 s):=by rw[M.strings_Contains,axG]
 simp only[M.nM,M.P6,M.qX,M.Qv,hn.1,hn.2,hb.1,hb.2,hst.1,hst.2,her.1,her.2,hsp.1,hsp.2,hct,ar4 s ak,abB h 0 ak,abA h 0 ak,ah,tX];cases s with
 |nil=>refine⟨?_,rfl⟩;have q1:yx []=false:=rfl;have q2:Xh []=false:=rfl;have q3:(quoted [] 0 34==(([]:aC).length:Int))=false:=rfl;have q4:(XA [] 0==(([]:aC).length:Int))=false:=rfl;rw[q1,q2,q3,q4];cases k==2<;>cases k==3<;>cases k==4<;>cases k==5<;>cases k==6<;>cases k==7<;>cases k==8<;>rfl
 |cons c l=>
  have hi:idx (c::l) 0=some c:=rfl;have hb0:qh (c::l) 0=(c.toNat:Int):=rfl;have hne:((c::l:aC)==[])=false:=rfl;have hgt:decide (((c::l).length:Int)>0)=true:=by simp
  have hsw:(spell k==c::l)=(c::l==spell k):=by rw[Bool.eq_iff_iff,beq_iff_eq,beq_iff_eq];exact⟨Eq.symm,Eq.symm⟩
  rw[hi,hb0,hne,hgt,hsw];simp only[ah,aH,bC,Bool.not_false];cases k==2<;>cases k==3<;>cases k==4<;>cases k==5<;>cases k==6<;>cases k==7<;>cases k==8<;>cases(c.toNat:Int)==35<;>exact⟨rfl,rfl⟩
end Go.Proofs.YtflhkdjglihbmaaGreatDoor
namespace Go.Proofs.YtflhkdjglihbmaaGreatDoor
open Go Go.Vm
open Int (reduceLE reduceLT reduceSub reduceAdd)
def dL(x a b:Int):M.dP x a b=some (decide (x>=a) && decide (x<=b)):=by simp only[M.dP,M.Eh];cases decide (x>=a)<;>rfl
def eP(x a b:Int):M.dZ x a b=some (decide (x>=a) && decide (x<=b)):=dL x a b
def ZC(op:Int):Bool:=op==60||op==57||op==58||op==59||op==55||op==56||op==99||op==63||op==48||op==47||op==50||op==62||op==49||op==67||op==46||op==45||op==44
def Dc(op:Int):M.DV op=some (ZC op)/\∃lv,M.nO op=some lv/\(lv !=0)=ZC op:=by
 by_cases h44:op=44
 ·subst h44;exact⟨rfl,_,rfl,rfl⟩
 have e44:(op==44)=false:=by simpa using h44
 by_cases h45:op=45
 ·subst h45;exact⟨rfl,_,rfl,rfl⟩
 have e45:(op==45)=false:=by simpa using h45
 by_cases h67:op=67
 ·subst h67;exact⟨rfl,_,rfl,rfl⟩
 have e67:(op==67)=false:=by simpa using h67
 by_cases h46:op=46
 ·subst h46;exact⟨rfl,_,rfl,rfl⟩
 have e46:(op==46)=false:=by simpa using h46
 by_cases h63:op=63
 ·subst h63;exact⟨rfl,_,rfl,rfl⟩
 have e63:(op==63)=false:=by simpa using h63
 by_cases h48:op=48
 ·subst h48;exact⟨rfl,_,rfl,rfl⟩
 have e48:(op==48)=false:=by simpa using h48
 by_cases h47:op=47
 ·subst h47;exact⟨rfl,_,rfl,rfl⟩
 have e47:(op==47)=false:=by simpa using h47
 by_cases h50:op=50
 ·subst h50;exact⟨rfl,_,rfl,rfl⟩
 have e50:(op==50)=false:=by simpa using h50
 by_cases h62:op=62
 ·subst h62;exact⟨rfl,_,rfl,rfl⟩
 have e62:(op==62)=false:=by simpa using h62
 by_cases h49:op=49
 ·subst h49;exact⟨rfl,_,rfl,rfl⟩
 have e49:(op==49)=false:=by simpa using h49
 by_cases h99:op=99
 ·subst h99;exact⟨rfl,_,rfl,rfl⟩
 have e99:(op==99)=false:=by simpa using h99
 by_cases h55:op=55
 ·subst h55;exact⟨rfl,_,rfl,rfl⟩
 have e55:(op==55)=false:=by simpa using h55
 by_cases h56:op=56
 ·subst h56;exact⟨rfl,_,rfl,rfl⟩
 have e56:(op==56)=false:=by simpa using h56
 by_cases h57:op=57
 ·subst h57;exact⟨rfl,_,rfl,rfl⟩
 have e57:(op==57)=false:=by simpa using h57
 by_cases h58:op=58
 ·subst h58;exact⟨rfl,_,rfl,rfl⟩
 have e58:(op==58)=false:=by simpa using h58
 by_cases h59:op=59
 ·subst h59;exact⟨rfl,_,rfl,rfl⟩
 have e59:(op==59)=false:=by simpa using h59
 by_cases h60:op=60
 ·subst h60;exact⟨rfl,_,rfl,rfl⟩
 have e60:(op==60)=false:=by simpa using h60
 simp only[M.DV,M.PW,M.nO,M.Kw,ZC,e44,e45,e67,e46,e63,e48,e47,e50,e62,e49,e99,e55,e56,e57,e58,e59,e60,bC,Bool.or_self];exact⟨trivial,0,rfl,rfl⟩
def ZE(op:Int):Bool:=op==54||(decide (op>=38) && decide (op<=43))
def pq(op:Int):M.wY op=some (ZE op)/\M.vI op=some (ZE op):=by simp only[M.wY,M.Js,M.vI,M.Ol,dL,eP,ah,ZE];cases op==54<;>exact⟨rfl,rfl⟩
def abD(s:aC)(l:List (aC))(hl:l.length<=1048576):M.slices_Contains (encS l) s=some (decide (Uo s l 0>=0)):=by simp only[M.slices_Contains,M.Ez,akM s l hl,ah]
def Jd:([[D.str []],[D.str [62]],[D.str [62,62]],[D.str [124]]]:au)=encS [[],[62],[62,62],[124]]:=rfl
def aeW(s:aC):decide (Uo s [[],[62],[62,62],[124]] 0>=0)=(s==[]||(s==[62]||(s==[62,62]||s==[124]))):=by
 have sw:∀a b:aC,(a==b)=(b==a):=λa b=>by rw[Bool.eq_iff_iff,beq_iff_eq,beq_iff_eq];exact⟨Eq.symm,Eq.symm⟩
 simp only[Uo,sw _ s];cases s==[]<;>cases s==[62]<;>cases s==[62,62]<;>cases s==[124]<;>rfl
def FOk(k op:Int)(t o:aC)(kids:au):Prop:=∃b,M.aG k op t o kids=some b/\M.jA k op t o kids=some b
def aDO(k:Int)(op:Int)(t o:aC)(kids:au)(ht:t.length<=1048576)(ho:o.length<=1048576)(hk:kids.length<=400)(hkk:k=1\/k=2\/k=3\/k=4\/k=5\/k=6\/k=7\/k=8\/k=9\/k=10\/k=11\/k=12\/k=13\/k=14\/k=15\/k=16\/k=20\/k=22\/k=23\/k=24\/k=25\/k=26\/k=27\/k=28\/k=29\/k=30\/k=31\/k=32\/k=33\/k=34\/k=40\/k=41\/k=44\/k=45):FOk k op t o kids:=by
 have hn:=Yt t ht;have hn2:=Yt o ho;have hb:=MB t;have ha:=pq op;obtain⟨hi,lv,hlv,hi2⟩:=Dc op;have tk:=λk hk=>aeV k t 0 ht hk
 have tk2:=tk 2 ⟨ak,ak⟩;have tk3:=tk 3 ⟨ak,ak⟩;have tk4:=tk 4 ⟨ak,ak⟩;have tk5:=tk 5 ⟨ak,ak⟩;have hc2:jD IntKind.i64 [D.int IntKind.i64 3,D.int IntKind.i64 4,D.int IntKind.i64 5] (i64.wrap 0).toNat=some 3:=rfl;have d12:decide ((0:Int)<=i64.wrap 0)=true:=rfl;have d22:decide (i64.wrap 0<3)=true:=rfl;have hc3:jD IntKind.i64 [D.int IntKind.i64 3,D.int IntKind.i64 4,D.int IntKind.i64 5] (i64.wrap 1).toNat=some 4:=rfl;have d13:decide ((0:Int)<=i64.wrap 1)=true:=rfl;have d23:decide (i64.wrap 1<3)=true:=rfl;have hc4:jD IntKind.i64 [D.int IntKind.i64 3,D.int IntKind.i64 4,D.int IntKind.i64 5] (i64.wrap 2).toNat=some 5:=rfl;have d14:decide ((0:Int)<=i64.wrap 2)=true:=rfl;have d24:decide (i64.wrap 2<3)=true:=rfl;have z1:decide ((kids.length:Int)<=400)=true:=zdt ak;have z2:decide ((0:Int)<=(kids.length:Int))=true:=zdt ak;have z3:decide ((kids.length:Int)<=(kids.length:Int))=true:=zdt ak;rcases hkk with rfl|rfl|rfl|rfl|rfl|rfl|rfl|rfl|rfl|rfl|rfl|rfl|rfl|rfl|rfl|rfl|rfl|rfl|rfl|rfl|rfl|rfl|rfl|rfl|rfl|rfl|rfl|rfl|rfl|rfl|rfl|rfl|rfl|rfl<;>simp only[FOk,M.aG,M.aK,M.bg,M.aT,M.bW,M.bG,M.bn,M.aU,M.jA,M.jV,M.fU,M.lU,M.jZ,M.lV,M.kM,M.kU,M.jJ,M.kN,M.kV,M.kP,M.kW,M.iI,M.mX,dL,eP,hn.1,hn.2,hn2.1,hn2.2,hb.1,hb.2,ha.1,ha.2,hi,hlv,hi2,tk2.1,tk2.2,tk3.1,tk3.2,tk4.1,tk4.2,tk5.1,tk5.2,hc2,d12,d22,hc3,d13,d23,hc4,d14,d24,z1,z2,z3,ge_iff_le,Int.reduceBEq,reduceLE,reduceSub,decide_true,decide_false,aH,bC,Bool.and_true,Bool.and_false,Bool.true_and,Bool.false_and,ah]
 ·cases(op==0)<;>cases(yx t)<;>cases(o==[])<;>exact⟨_,rfl,rfl⟩
 ·cases(op==0)<;>cases(tX 3 t)<;>cases(o==[])<;>exact⟨_,rfl,rfl⟩
 ·cases(op==0)<;>cases(tX 4 t)<;>cases(o==[])<;>exact⟨_,rfl,rfl⟩
 ·cases(op==0)<;>cases(tX 5 t)<;>cases(o==[])<;>exact⟨_,rfl,rfl⟩
 ·cases(op==0)<;>cases(yx t)<;>cases(o==[])<;>exact⟨_,rfl,rfl⟩
 ·cases(op==0)<;>cases(t==[])<;>cases(o==[])<;>exact⟨_,rfl,rfl⟩
 ·cases(op==0)<;>cases(yx t)<;>cases(o==[])<;>exact⟨_,rfl,rfl⟩
 ·cases(op==0)<;>cases(Xh t)<;>cases(o==[])<;>exact⟨_,rfl,rfl⟩
 ·cases(op==51)<;>cases(op==52)<;>cases(t==[])<;>cases(o==[])<;>exact⟨_,rfl,rfl⟩
 ·cases(op==51)<;>cases(op==52)<;>cases(t==[])<;>cases(o==[])<;>exact⟨_,rfl,rfl⟩
 ·cases(op==55)<;>cases(op==56)<;>cases(op==61)<;>cases(t==[])<;>cases(o==[])<;>exact⟨_,rfl,rfl⟩
 ·cases(ZC op)<;>cases(t==[])<;>cases(o==[])<;>exact⟨_,rfl,rfl⟩
 ·cases(op==0)<;>cases(yx t)<;>cases(o==[])<;>exact⟨_,rfl,rfl⟩
 ·cases(op==0)<;>cases(t==[])<;>cases(o==[])<;>exact⟨_,rfl,rfl⟩
 ·cases(ZE op)<;>cases(t==[])<;>cases(o==[])<;>exact⟨_,rfl,rfl⟩
 ·cases(op==0)<;>cases(t==[])<;>cases(o==[])<;>exact⟨_,rfl,rfl⟩
 ·cases(op==0)<;>cases(t==[])<;>cases(o==[])<;>exact⟨_,rfl,rfl⟩
 ·cases(op==0)<;>cases(t==[])<;>cases(o==[])<;>exact⟨_,rfl,rfl⟩
 ·cases(op==0)<;>cases(t==[])<;>cases(o==[])<;>exact⟨_,rfl,rfl⟩
 ·cases(op==0)<;>cases(t==[])<;>cases(o==[])<;>exact⟨_,rfl,rfl⟩
 ·cases(op==0)<;>cases(t==[])<;>cases(o==[])<;>exact⟨_,rfl,rfl⟩
 ·cases(op==0)<;>cases(t==[])<;>cases(o==[])<;>exact⟨_,rfl,rfl⟩
 ·cases(op==0)<;>cases(yx t)<;>cases(o==[])<;>exact⟨_,rfl,rfl⟩
 ·cases(op==0)<;>cases(t==[])<;>cases(o==[])<;>exact⟨_,rfl,rfl⟩
 ·cases(op==0)<;>cases(t==[])<;>cases(o==[])<;>exact⟨_,rfl,rfl⟩
 ·cases(op==0)<;>cases(t==[])<;>cases(o==[])<;>exact⟨_,rfl,rfl⟩
 ·cases(op==0)<;>cases(t==[])<;>cases(o==[])<;>exact⟨_,rfl,rfl⟩
 ·cases(op==0)<;>cases(yx t)<;>cases(yx o)<;>exact⟨_,rfl,rfl⟩
 ·cases(op==0)<;>cases(t==[])<;>cases(o==[])<;>exact⟨_,rfl,rfl⟩
 ·cases(op==0)<;>cases(tX 2 t)<;>cases(o==[])<;>exact⟨_,rfl,rfl⟩
 ·cases(op==0)<;>cases(t==[])<;>cases(o==[])<;>exact⟨_,rfl,rfl⟩
 ·cases(op==0)<;>cases(t==[])<;>cases(o==[])<;>exact⟨_,rfl,rfl⟩
 ·cases(op==0)<;>cases(yx t)<;>cases(o==[])<;>exact⟨_,rfl,rfl⟩
 ·cases(op==0)<;>cases(t==[])<;>cases(o==[])<;>exact⟨_,rfl,rfl⟩
def aSq(op:Int)(t o:aC)(kids:au)(ht:t.length<=1048576)(ho:o.length<=1048576)(hk:kids.length<=400):FOk 21 op t o kids:=by
 have hp:=abD o [[],[62],[62,62],[124]] (by decide);rw[aeW] at hp
 by_cases h0:op=0
 ·subst h0;simp only[FOk,M.aG,M.aK,M.bg,M.aT,M.bW,M.bG,M.bn,M.aU,M.jA,M.jV,M.fU,M.lU,M.jZ,M.lV,M.kM,M.kU,M.jJ,M.kN,M.kV,M.kP,M.kW,M.iI,M.mX,dL,eP,Jd,hp,show i64.wrap (0+1)=1 from rfl,show i64.wrap (1+1)=2 from rfl,show i64.wrap (1+i64.wrap (Int.tdiv 1 3))=1 from rfl,show i64.wrap (1+i64.wrap (Int.tdiv 2 3))=1 from rfl,show i64.wrap (1+i64.wrap (Int.tdiv 3 3))=2 from rfl,show i64.wrap (2+i64.wrap (Int.tdiv 1 3))=2 from rfl,show i64.wrap (2+i64.wrap (Int.tdiv 3 3))=3 from rfl,ge_iff_le,Int.reduceBEq,reduceLE,reduceSub,decide_true,decide_false,aH,bC,Bool.and_true,Bool.and_false,Bool.true_and,Bool.false_and,ah];generalize (t==[])=a0;generalize (o==[])=a1;generalize (o==[62])=a2;generalize (o==[62,62])=a3;generalize (o==[124])=a4;cases a0<;>cases a1<;>cases a2<;>cases a3<;>cases a4<;>exact⟨_,rfl,rfl⟩
 by_cases h1:op=1
 ·subst h1;simp only[FOk,M.aG,M.aK,M.bg,M.aT,M.bW,M.bG,M.bn,M.aU,M.jA,M.jV,M.fU,M.lU,M.jZ,M.lV,M.kM,M.kU,M.jJ,M.kN,M.kV,M.kP,M.kW,M.iI,M.mX,dL,eP,Jd,hp,show i64.wrap (0+1)=1 from rfl,show i64.wrap (1+1)=2 from rfl,show i64.wrap (1+i64.wrap (Int.tdiv 1 3))=1 from rfl,show i64.wrap (1+i64.wrap (Int.tdiv 2 3))=1 from rfl,show i64.wrap (1+i64.wrap (Int.tdiv 3 3))=2 from rfl,show i64.wrap (2+i64.wrap (Int.tdiv 1 3))=2 from rfl,show i64.wrap (2+i64.wrap (Int.tdiv 3 3))=3 from rfl,ge_iff_le,Int.reduceBEq,reduceLE,reduceSub,decide_true,decide_false,aH,bC,Bool.and_true,Bool.and_false,Bool.true_and,Bool.false_and,ah];generalize (t==[])=a0;generalize (o==[])=a1;generalize (o==[62])=a2;generalize (o==[62,62])=a3;generalize (o==[124])=a4;cases a0<;>cases a1<;>cases a2<;>cases a3<;>cases a4<;>exact⟨_,rfl,rfl⟩
 have e0:(op==0)=false:=by simpa using h0
 have e1:(op==1)=false:=by simpa using h1
 have hf:(decide ((0:Int)<=op) && decide (op<=1))=false:=by rw[Bool.and_eq_false_iff,decide_eq_false_iff_not,decide_eq_false_iff_not];omega
 simp only[FOk,M.aG,M.aK,M.bg,M.aT,M.bW,M.bG,M.bn,M.aU,M.jA,M.jV,M.fU,M.lU,M.jZ,M.lV,M.kM,M.kU,M.jJ,M.kN,M.kV,M.kP,M.kW,M.iI,M.mX,dL,eP,Jd,hp,e0,e1,hf,ge_iff_le,Int.reduceBEq,reduceLE,reduceSub,decide_true,decide_false,aH,bC,Bool.and_true,Bool.and_false,Bool.true_and,Bool.false_and,ah];generalize (t==[])=a0;generalize (o==[])=a1;generalize (o==[62])=a2;generalize (o==[62,62])=a3;generalize (o==[124])=a4;cases a0<;>cases a1<;>cases a2<;>cases a3<;>cases a4<;>exact⟨_,rfl,rfl⟩
def aSr(op:Int)(t o:aC)(kids:au)(ht:t.length<=1048576)(ho:o.length<=1048576)(hk:kids.length<=400):FOk 42 op t o kids:=by
 have hp:=abD o [[],[62],[62,62],[124]] (by decide);rw[aeW] at hp
 by_cases h1:op=1
 ·subst h1;simp only[FOk,M.aG,M.aK,M.bg,M.aT,M.bW,M.bG,M.bn,M.aU,M.jA,M.jV,M.fU,M.lU,M.jZ,M.lV,M.kM,M.kU,M.jJ,M.kN,M.kV,M.kP,M.kW,M.iI,M.mX,dL,eP,Jd,hp,show i64.wrap (0+1)=1 from rfl,show i64.wrap (1+1)=2 from rfl,show i64.wrap (1+i64.wrap (Int.tdiv 1 3))=1 from rfl,show i64.wrap (1+i64.wrap (Int.tdiv 2 3))=1 from rfl,show i64.wrap (1+i64.wrap (Int.tdiv 3 3))=2 from rfl,show i64.wrap (2+i64.wrap (Int.tdiv 1 3))=2 from rfl,show i64.wrap (2+i64.wrap (Int.tdiv 3 3))=3 from rfl,ge_iff_le,Int.reduceBEq,reduceLE,reduceSub,decide_true,decide_false,aH,bC,Bool.and_true,Bool.and_false,Bool.true_and,Bool.false_and,ah];generalize (t==[])=a0;generalize (o==[])=a1;cases a0<;>cases a1<;>exact⟨_,rfl,rfl⟩
 by_cases h2:op=2
 ·subst h2;simp only[FOk,M.aG,M.aK,M.bg,M.aT,M.bW,M.bG,M.bn,M.aU,M.jA,M.jV,M.fU,M.lU,M.jZ,M.lV,M.kM,M.kU,M.jJ,M.kN,M.kV,M.kP,M.kW,M.iI,M.mX,dL,eP,Jd,hp,show i64.wrap (0+1)=1 from rfl,show i64.wrap (1+1)=2 from rfl,show i64.wrap (1+i64.wrap (Int.tdiv 1 3))=1 from rfl,show i64.wrap (1+i64.wrap (Int.tdiv 2 3))=1 from rfl,show i64.wrap (1+i64.wrap (Int.tdiv 3 3))=2 from rfl,show i64.wrap (2+i64.wrap (Int.tdiv 1 3))=2 from rfl,show i64.wrap (2+i64.wrap (Int.tdiv 3 3))=3 from rfl,ge_iff_le,Int.reduceBEq,reduceLE,reduceSub,decide_true,decide_false,aH,bC,Bool.and_true,Bool.and_false,Bool.true_and,Bool.false_and,ah];generalize (t==[])=a0;generalize (o==[])=a1;cases a0<;>cases a1<;>exact⟨_,rfl,rfl⟩
 by_cases h3:op=3
 ·subst h3;simp only[FOk,M.aG,M.aK,M.bg,M.aT,M.bW,M.bG,M.bn,M.aU,M.jA,M.jV,M.fU,M.lU,M.jZ,M.lV,M.kM,M.kU,M.jJ,M.kN,M.kV,M.kP,M.kW,M.iI,M.mX,dL,eP,Jd,hp,show i64.wrap (0+1)=1 from rfl,show i64.wrap (1+1)=2 from rfl,show i64.wrap (1+i64.wrap (Int.tdiv 1 3))=1 from rfl,show i64.wrap (1+i64.wrap (Int.tdiv 2 3))=1 from rfl,show i64.wrap (1+i64.wrap (Int.tdiv 3 3))=2 from rfl,show i64.wrap (2+i64.wrap (Int.tdiv 1 3))=2 from rfl,show i64.wrap (2+i64.wrap (Int.tdiv 3 3))=3 from rfl,ge_iff_le,Int.reduceBEq,reduceLE,reduceSub,decide_true,decide_false,aH,bC,Bool.and_true,Bool.and_false,Bool.true_and,Bool.false_and,ah];generalize (t==[])=a0;generalize (o==[])=a1;cases a0<;>cases a1<;>exact⟨_,rfl,rfl⟩
 have e1:(op==1)=false:=by simpa using h1
 have e2:(op==2)=false:=by simpa using h2
 have e3:(op==3)=false:=by simpa using h3
 have hf:(decide ((1:Int)<=op) && decide (op<=3))=false:=by rw[Bool.and_eq_false_iff,decide_eq_false_iff_not,decide_eq_false_iff_not];omega
 simp only[FOk,M.aG,M.aK,M.bg,M.aT,M.bW,M.bG,M.bn,M.aU,M.jA,M.jV,M.fU,M.lU,M.jZ,M.lV,M.kM,M.kU,M.jJ,M.kN,M.kV,M.kP,M.kW,M.iI,M.mX,dL,eP,Jd,hp,e1,e2,e3,hf,ge_iff_le,Int.reduceBEq,reduceLE,reduceSub,decide_true,decide_false,aH,bC,Bool.and_true,Bool.and_false,Bool.true_and,Bool.false_and,ah];generalize (t==[])=a0;generalize (o==[])=a1;cases a0<;>cases a1<;>exact⟨_,rfl,rfl⟩
def aSs(op:Int)(t o:aC)(kids:au)(ht:t.length<=1048576)(ho:o.length<=1048576)(hk:kids.length<=400):FOk 43 op t o kids:=by
 have hp:=abD o [[],[62],[62,62],[124]] (by decide);rw[aeW] at hp
 by_cases h1:op=1
 ·subst h1;simp only[FOk,M.aG,M.aK,M.bg,M.aT,M.bW,M.bG,M.bn,M.aU,M.jA,M.jV,M.fU,M.lU,M.jZ,M.lV,M.kM,M.kU,M.jJ,M.kN,M.kV,M.kP,M.kW,M.iI,M.mX,dL,eP,Jd,hp,show i64.wrap (0+1)=1 from rfl,show i64.wrap (1+1)=2 from rfl,show i64.wrap (1+i64.wrap (Int.tdiv 1 3))=1 from rfl,show i64.wrap (1+i64.wrap (Int.tdiv 2 3))=1 from rfl,show i64.wrap (1+i64.wrap (Int.tdiv 3 3))=2 from rfl,show i64.wrap (2+i64.wrap (Int.tdiv 1 3))=2 from rfl,show i64.wrap (2+i64.wrap (Int.tdiv 3 3))=3 from rfl,ge_iff_le,Int.reduceBEq,reduceLE,reduceSub,decide_true,decide_false,aH,bC,Bool.and_true,Bool.and_false,Bool.true_and,Bool.false_and,ah];generalize (t==[])=a0;generalize (o==[])=a1;cases a0<;>cases a1<;>exact⟨_,rfl,rfl⟩
 by_cases h3:op=3
 ·subst h3;simp only[FOk,M.aG,M.aK,M.bg,M.aT,M.bW,M.bG,M.bn,M.aU,M.jA,M.jV,M.fU,M.lU,M.jZ,M.lV,M.kM,M.kU,M.jJ,M.kN,M.kV,M.kP,M.kW,M.iI,M.mX,dL,eP,Jd,hp,show i64.wrap (0+1)=1 from rfl,show i64.wrap (1+1)=2 from rfl,show i64.wrap (1+i64.wrap (Int.tdiv 1 3))=1 from rfl,show i64.wrap (1+i64.wrap (Int.tdiv 2 3))=1 from rfl,show i64.wrap (1+i64.wrap (Int.tdiv 3 3))=2 from rfl,show i64.wrap (2+i64.wrap (Int.tdiv 1 3))=2 from rfl,show i64.wrap (2+i64.wrap (Int.tdiv 3 3))=3 from rfl,ge_iff_le,Int.reduceBEq,reduceLE,reduceSub,decide_true,decide_false,aH,bC,Bool.and_true,Bool.and_false,Bool.true_and,Bool.false_and,ah];generalize (t==[])=a0;generalize (o==[])=a1;cases a0<;>cases a1<;>exact⟨_,rfl,rfl⟩
 have e1:(op==1)=false:=by simpa using h1
 have e3:(op==3)=false:=by simpa using h3
 have hf:True:=trivial;simp only[FOk,M.aG,M.aK,M.bg,M.aT,M.bW,M.bG,M.bn,M.aU,M.jA,M.jV,M.fU,M.lU,M.jZ,M.lV,M.kM,M.kU,M.jJ,M.kN,M.kV,M.kP,M.kW,M.iI,M.mX,dL,eP,Jd,hp,e1,e3,hf,ge_iff_le,Int.reduceBEq,reduceLE,reduceSub,decide_true,decide_false,aH,bC,Bool.and_true,Bool.and_false,Bool.true_and,Bool.false_and,ah];generalize (t==[])=a0;generalize (o==[])=a1;cases a0<;>cases a1<;>exact⟨_,rfl,rfl⟩
def ar5(k:Int)(op:Int)(t o:aC)(kids:au)(ht:t.length<=1048576)(ho:o.length<=1048576)(hk:kids.length<=400):FOk k op t o kids:=by
 by_cases hkk:k=1\/k=2\/k=3\/k=4\/k=5\/k=6\/k=7\/k=8\/k=9\/k=10\/k=11\/k=12\/k=13\/k=14\/k=15\/k=16\/k=20\/k=22\/k=23\/k=24\/k=25\/k=26\/k=27\/k=28\/k=29\/k=30\/k=31\/k=32\/k=33\/k=34\/k=40\/k=41\/k=44\/k=45
 ·exact aDO k op t o kids ht ho hk hkk
 by_cases h21:k=21
 ·subst h21;exact aSq op t o kids ht ho hk
 by_cases h42:k=42
 ·subst h42;exact aSr op t o kids ht ho hk
 by_cases h43:k=43
 ·subst h43;exact aSs op t o kids ht ho hk
 have h1:k≠1:=ak;have h2:k≠2:=ak;have h3:k≠3:=ak;have h4:k≠4:=ak;have h5:k≠5:=ak;have h6:k≠6:=ak;have h7:k≠7:=ak;have h8:k≠8:=ak;have h9:k≠9:=ak;have h10:k≠10:=ak;have h11:k≠11:=ak;have h12:k≠12:=ak;have h13:k≠13:=ak;have h14:k≠14:=ak;have h15:k≠15:=ak;have h16:k≠16:=ak;have h20:k≠20:=ak;have h22:k≠22:=ak;have h23:k≠23:=ak;have h24:k≠24:=ak;have h25:k≠25:=ak;have h26:k≠26:=ak;have h27:k≠27:=ak;have h28:k≠28:=ak;have h29:k≠29:=ak;have h30:k≠30:=ak;have h31:k≠31:=ak;have h32:k≠32:=ak;have h33:k≠33:=ak;have h34:k≠34:=ak;have h40:k≠40:=ak;have h41:k≠41:=ak;have h44:k≠44:=ak;have h45:k≠45:=ak;have f1:(decide (k>=1) && decide (k<=16))=false:=by rw[Bool.and_eq_false_iff,decide_eq_false_iff_not,decide_eq_false_iff_not];omega
 have f2:(decide (k>=20) && decide (k<=34))=false:=by rw[Bool.and_eq_false_iff,decide_eq_false_iff_not,decide_eq_false_iff_not];omega
 have f3:(decide (k>=40) && decide (k<=45))=false:=by rw[Bool.and_eq_false_iff,decide_eq_false_iff_not,decide_eq_false_iff_not];omega
 have f4:(decide (k>=1) && decide (k<=15))=false:=by rw[Bool.and_eq_false_iff,decide_eq_false_iff_not,decide_eq_false_iff_not];omega
 have g:(k==16)=false:=by simpa using h16
 have e1:(k==1)=false:=by simpa using h1
 have e2:(k==2)=false:=by simpa using h2
 have e3:(k==3)=false:=by simpa using h3
 have e4:(k==4)=false:=by simpa using h4
 have e5:(k==5)=false:=by simpa using h5
 have e6:(k==6)=false:=by simpa using h6
 have e7:(k==7)=false:=by simpa using h7
 have e8:(k==8)=false:=by simpa using h8
 have e9:(k==9)=false:=by simpa using h9
 have e10:(k==10)=false:=by simpa using h10
 have e11:(k==11)=false:=by simpa using h11
 have e12:(k==12)=false:=by simpa using h12
 have e13:(k==13)=false:=by simpa using h13
 have e14:(k==14)=false:=by simpa using h14
 have e15:(k==15)=false:=by simpa using h15
 have e16:(k==16)=false:=by simpa using h16
 have e20:(k==20)=false:=by simpa using h20
 have e21:(k==21)=false:=by simpa using h21
 have e22:(k==22)=false:=by simpa using h22
 have e23:(k==23)=false:=by simpa using h23
 have e24:(k==24)=false:=by simpa using h24
 have e25:(k==25)=false:=by simpa using h25
 have e26:(k==26)=false:=by simpa using h26
 have e27:(k==27)=false:=by simpa using h27
 have e28:(k==28)=false:=by simpa using h28
 have e29:(k==29)=false:=by simpa using h29
 have e30:(k==30)=false:=by simpa using h30
 have e31:(k==31)=false:=by simpa using h31
 have e32:(k==32)=false:=by simpa using h32
 have e33:(k==33)=false:=by simpa using h33
 have e34:(k==34)=false:=by simpa using h34
 have e40:(k==40)=false:=by simpa using h40
 have e41:(k==41)=false:=by simpa using h41
 have e42:(k==42)=false:=by simpa using h42
 have e43:(k==43)=false:=by simpa using h43
 have e44:(k==44)=false:=by simpa using h44
 have e45:(k==45)=false:=by simpa using h45
 simp only[FOk,M.aG,M.aK,M.bg,M.aT,M.jA,M.jV,M.fU,M.lU,M.jZ,M.lV,dL,eP,f1,f2,f3,f4,e1,e2,e3,e4,e5,e6,e7,e8,e9,e10,e11,e12,e13,e14,e15,e16,e20,e21,e22,e23,e24,e25,e26,e27,e28,e29,e30,e31,e32,e33,e34,e40,e41,e42,e43,e44,e45,bC,ah];exact⟨false,rfl,rfl⟩
end Go.Proofs.YtflhkdjglihbmaaGreatDoor
namespace Go.Proofs.YtflhkdjglihbmaaGreatDoor
open Go Go.Vm
open Int (reduceLE reduceLT reduceSub reduceAdd)
structure Cons(k op:Int)(n:Nat):Prop where
 two:k=29\/k=30->n=2
 four:k=31->n=4
 rule:k=42->(op=1/\n=1)\/(op=2/\n=1)\/(op=3/\n=2)
 range:k=43->(op=1/\n=2)\/(op=3/\n=3)
def a0V(op:Int)(t o:aC)(kids:au)(h:M.aG 29 op t o kids=some true):kids.length=2:=by simp only[M.aG,M.aK,M.bg,M.aT,M.bW,M.bG,M.bn,M.aU,dL,eP,Int.reduceBEq,reduceLE,reduceLT,reduceSub,reduceAdd,gJ,ah] at h;revert h;cases op==0<;>cases t==[]<;>cases o==[]<;>simp<;>omega
def a0W(op:Int)(t o:aC)(kids:au)(h:M.aG 30 op t o kids=some true):kids.length=2:=by simp only[M.aG,M.aK,M.bg,M.aT,M.bW,M.bG,M.bn,M.aU,dL,eP,Int.reduceBEq,reduceLE,reduceLT,reduceSub,reduceAdd,gJ,ah] at h;revert h;cases op==0<;>cases t==[]<;>cases o==[]<;>simp<;>omega
def a0X(op:Int)(t o:aC)(kids:au)(h:M.aG 31 op t o kids=some true):kids.length=4:=by simp only[M.aG,M.aK,M.bg,M.aT,M.bW,M.bG,M.bn,M.aU,dL,eP,Int.reduceBEq,reduceLE,reduceLT,reduceSub,reduceAdd,gJ,ah] at h;revert h;cases op==0<;>cases t==[]<;>cases o==[]<;>simp<;>omega
def a0Y(op:Int)(t o:aC)(kids:au)(h:M.aG 42 op t o kids=some true):(op=1/\kids.length=1)\/(op=2/\kids.length=1)\/(op=3/\kids.length=2):=by
 by_cases h1:op=1
 ·subst h1;simp only[M.aG,M.aK,M.bg,M.aT,M.bW,M.bG,M.bn,M.aU,dL,eP,show i64.wrap (1+i64.wrap (Int.tdiv 1 3))=1 from rfl,show i64.wrap (1+i64.wrap (Int.tdiv 2 3))=1 from rfl,show i64.wrap (1+i64.wrap (Int.tdiv 3 3))=2 from rfl,show i64.wrap (2+i64.wrap (Int.tdiv 1 3))=2 from rfl,show i64.wrap (2+i64.wrap (Int.tdiv 3 3))=3 from rfl,Int.reduceBEq,reduceLE,reduceLT,reduceSub,reduceAdd,gJ,ah] at h;revert h;cases t==[]<;>cases o==[]<;>simp<;>omega
 have e1:(op==1)=false:=by simpa using h1
 by_cases h2:op=2
 ·subst h2;simp only[M.aG,M.aK,M.bg,M.aT,M.bW,M.bG,M.bn,M.aU,dL,eP,show i64.wrap (1+i64.wrap (Int.tdiv 1 3))=1 from rfl,show i64.wrap (1+i64.wrap (Int.tdiv 2 3))=1 from rfl,show i64.wrap (1+i64.wrap (Int.tdiv 3 3))=2 from rfl,show i64.wrap (2+i64.wrap (Int.tdiv 1 3))=2 from rfl,show i64.wrap (2+i64.wrap (Int.tdiv 3 3))=3 from rfl,Int.reduceBEq,reduceLE,reduceLT,reduceSub,reduceAdd,gJ,ah] at h;revert h;cases t==[]<;>cases o==[]<;>simp<;>omega
 have e2:(op==2)=false:=by simpa using h2
 by_cases h3:op=3
 ·subst h3;simp only[M.aG,M.aK,M.bg,M.aT,M.bW,M.bG,M.bn,M.aU,dL,eP,show i64.wrap (1+i64.wrap (Int.tdiv 1 3))=1 from rfl,show i64.wrap (1+i64.wrap (Int.tdiv 2 3))=1 from rfl,show i64.wrap (1+i64.wrap (Int.tdiv 3 3))=2 from rfl,show i64.wrap (2+i64.wrap (Int.tdiv 1 3))=2 from rfl,show i64.wrap (2+i64.wrap (Int.tdiv 3 3))=3 from rfl,Int.reduceBEq,reduceLE,reduceLT,reduceSub,reduceAdd,gJ,ah] at h;revert h;cases t==[]<;>cases o==[]<;>simp<;>omega
 have e3:(op==3)=false:=by simpa using h3
 have hf:(decide ((1:Int)<=op) && decide (op<=3))=false:=by rw[Bool.and_eq_false_iff,decide_eq_false_iff_not,decide_eq_false_iff_not];omega
 simp only[M.aG,M.aK,M.bg,M.aT,M.bW,M.bG,M.bn,M.aU,dL,eP,e1,e2,e3,hf,Int.reduceBEq,reduceLE,reduceLT,reduceSub,reduceAdd,gJ,ah] at h;cases h
def a0Z(op:Int)(t o:aC)(kids:au)(h:M.aG 43 op t o kids=some true):(op=1/\kids.length=2)\/(op=3/\kids.length=3):=by
 by_cases h1:op=1
 ·subst h1;simp only[M.aG,M.aK,M.bg,M.aT,M.bW,M.bG,M.bn,M.aU,dL,eP,show i64.wrap (1+i64.wrap (Int.tdiv 1 3))=1 from rfl,show i64.wrap (1+i64.wrap (Int.tdiv 2 3))=1 from rfl,show i64.wrap (1+i64.wrap (Int.tdiv 3 3))=2 from rfl,show i64.wrap (2+i64.wrap (Int.tdiv 1 3))=2 from rfl,show i64.wrap (2+i64.wrap (Int.tdiv 3 3))=3 from rfl,Int.reduceBEq,reduceLE,reduceLT,reduceSub,reduceAdd,gJ,ah] at h;revert h;cases t==[]<;>cases o==[]<;>simp<;>omega
 have e1:(op==1)=false:=by simpa using h1
 by_cases h3:op=3
 ·subst h3;simp only[M.aG,M.aK,M.bg,M.aT,M.bW,M.bG,M.bn,M.aU,dL,eP,show i64.wrap (1+i64.wrap (Int.tdiv 1 3))=1 from rfl,show i64.wrap (1+i64.wrap (Int.tdiv 2 3))=1 from rfl,show i64.wrap (1+i64.wrap (Int.tdiv 3 3))=2 from rfl,show i64.wrap (2+i64.wrap (Int.tdiv 1 3))=2 from rfl,show i64.wrap (2+i64.wrap (Int.tdiv 3 3))=3 from rfl,Int.reduceBEq,reduceLE,reduceLT,reduceSub,reduceAdd,gJ,ah] at h;revert h;cases t==[]<;>cases o==[]<;>simp<;>omega
 have e3:(op==3)=false:=by simpa using h3
 have hf:True:=trivial;simp only[M.aG,M.aK,M.bg,M.aT,M.bW,M.bG,M.bn,M.aU,dL,eP,e1,e3,hf,Int.reduceBEq,reduceLE,reduceLT,reduceSub,reduceAdd,gJ,ah] at h;cases h
def ao8{k op:Int}{t o:aC}{kids:au}(h:M.aG k op t o kids=some true):Cons k op kids.length:=
 ⟨λe=>(by rcases e with rfl|rfl;exact a0V op t o kids h;exact a0W op t o kids h),λe=>(by subst e;exact a0X op t o kids h),λe=>(by subst e;exact a0Y op t o kids h),λe=>(by subst e;exact a0Z op t o kids h)⟩
def Iq(k:Int):Bool:=decide (1<=k) && decide (k<=15)
def Pj(k:Int):Bool:=k==1||(k==5||k==6)
def acy(k:Int):Bool:=decide (20<=k) && decide (k<=34)
def isIt(k:Int):Bool:=decide (40<=k) && decide (k<=44)
def eU(k:Int):M.lH k=some (Iq k)/\M.fU k=some (Iq k):=by simp only[M.lH,M.S9,M.fU,M.lU,dL,eP,ah,Iq,ge_iff_le];constructor<;>first|rfl|trivial
def iM(k:Int):M.G8 k=some (acy k)/\M.jZ k=some (acy k):=by simp only[M.G8,M.Tc,M.jZ,M.lV,dL,eP,ah,acy,ge_iff_le];constructor<;>first|rfl|trivial
def iO(k:Int):M.dP k 40 44=some (isIt k)/\M.Hg k=some (isIt k):=by simp only[M.Hg,M.TQ,dL,eP,ah,isIt,ge_iff_le];constructor<;>first|rfl|trivial
def eF(k:Int):M.vG k=some (Pj k)/\M.vJ k=some (Pj k):=by simp only[M.vG,M.NU,M.vJ,M.Ot,Pj];cases k==1<;>cases k==5<;>exact⟨rfl,rfl⟩
def aSt(k:Int):Pj k=(Iq k && Pj k):=by
 by_cases h1:k=1
 ·subst h1;rfl
 by_cases h5:k=5
 ·subst h5;rfl
 by_cases h6:k=6
 ·subst h6;rfl
 have e:Pj k=false:=by simp[Pj,h1,h5,h6]
 rw[e,Bool.and_false]
def Y9(k op:Int)(t o:aC)(kids:au)(j d:Int):Prop:=∃b,M.aW k op t o kids j d=some b/\M.gU k op t o kids j d=some b
def MH(k:Int)(op:Int)(t o:aC)(kids:au)(j d:Int)(h0:0<=j)(h1:j<kids.length)(hk:kids.length<=400)(hc:Cons k op kids.length)(hx:k=1\/k=2\/k=3\/k=4\/k=5\/k=6\/k=7\/k=8\/k=11\/k=12\/k=13\/k=14\/k=16\/k=20\/k=21\/k=22\/k=23\/k=24\/k=25\/k=26\/k=27\/k=34):Y9 k op t o kids j d:=by
 rcases hx with rfl|rfl|rfl|rfl|rfl|rfl|rfl|rfl|rfl|rfl|rfl|rfl|rfl|rfl|rfl|rfl|rfl|rfl|rfl|rfl|rfl|rfl
 all_goals
  simp only[Y9,M.aW,M.aY,M.aQ,M.gU,M.fZ,eU,iM,iO,eF,Int.reduceBEq,reduceLE,reduceLT,reduceSub,reduceAdd,gJ,ah];generalize (Iq d)=a0;cases a0<;>exact⟨_,rfl,rfl⟩
def aFR(k:Int)(op:Int)(t o:aC)(kids:au)(j d:Int)(h0:0<=j)(h1:j<kids.length)(hk:kids.length<=400)(hc:Cons k op kids.length)(hx:k=9\/k=10):Y9 k op t o kids j d:=by
 rcases hx with rfl|rfl
 all_goals
  simp only[Y9,M.aW,M.aY,M.aQ,M.gU,M.fZ,eU,iM,iO,eF,Int.reduceBEq,reduceLE,reduceLT,reduceSub,reduceAdd,gJ,ah];generalize (Pj d)=a0;cases a0<;>exact⟨_,rfl,rfl⟩
def aSu(op:Int)(t o:aC)(kids:au)(j d:Int)(h0:0<=j)(h1:j<kids.length)(hk:kids.length<=400)(hc:Cons 15 op kids.length):Y9 15 op t o kids j d:=by
 by_cases hj:j=0
 ·subst hj;have hl:=aSt d;simp only[Y9,M.aW,M.aY,M.aQ,M.gU,M.fZ,eU,iM,iO,eF,Int.reduceBEq,reduceLE,reduceLT,reduceSub,reduceAdd,gJ,ah];revert hl;cases Iq d<;>cases Pj d<;>intro hl<;>first|exact⟨_,rfl,rfl⟩|cases hl
 have e0:(j==0)=false:=by simpa using hj
 have e1:decide (0<j)=true:=zdt ak;simp only[Y9,M.aW,M.aY,M.aQ,M.gU,M.fZ,eU,iM,iO,eF,e0,e1,Int.reduceBEq,reduceLE,reduceLT,reduceSub,reduceAdd,gJ,ah];generalize (Iq d)=a0;cases a0<;>exact⟨_,rfl,rfl⟩
def aSv(op:Int)(t o:aC)(kids:au)(j d:Int)(h0:0<=j)(h1:j<kids.length)(hk:kids.length<=400)(hc:Cons 28 op kids.length):Y9 28 op t o kids j d:=by
 by_cases hj:j=0
 ·subst hj;simp only[Y9,M.aW,M.aY,M.aQ,M.gU,M.fZ,eU,iM,iO,eF,Int.reduceBEq,reduceLE,reduceLT,reduceSub,reduceAdd,gJ,ah];generalize (Iq d)=a0;generalize (d==33)=a1;cases a0<;>cases a1<;>exact⟨_,rfl,rfl⟩
 have e0:(j==0)=false:=by simpa using hj
 have e1:decide (0<j)=true:=zdt ak;simp only[Y9,M.aW,M.aY,M.aQ,M.gU,M.fZ,eU,iM,iO,eF,e0,e1,Int.reduceBEq,reduceLE,reduceLT,reduceSub,reduceAdd,gJ,ah];generalize (d==33)=a0;cases a0<;>exact⟨_,rfl,rfl⟩
def aFS(k:Int)(op:Int)(t o:aC)(kids:au)(j d:Int)(h0:0<=j)(h1:j<kids.length)(hk:kids.length<=400)(hc:Cons k op kids.length)(hx:k=29\/k=30):Y9 k op t o kids j d:=by
 rcases hx with rfl|rfl
 all_goals
  have hl:=hc.two ak;obtain rfl|rfl:j=0\/j=1:=ak
  ·simp only[Y9,M.aW,M.aY,M.aQ,M.gU,M.fZ,eU,iM,iO,eF,Int.reduceBEq,reduceLE,reduceLT,reduceSub,reduceAdd,gJ,ah];generalize (Iq d)=a0;generalize (d==33)=a1;cases a0<;>cases a1<;>exact⟨_,rfl,rfl⟩
  ·simp only[Y9,M.aW,M.aY,M.aQ,M.gU,M.fZ,eU,iM,iO,eF,Int.reduceBEq,reduceLE,reduceLT,reduceSub,reduceAdd,gJ,ah];generalize (Iq d)=a0;generalize (d==33)=a1;cases a0<;>cases a1<;>exact⟨_,rfl,rfl⟩
def aSw(op:Int)(t o:aC)(kids:au)(j d:Int)(h0:0<=j)(h1:j<kids.length)(hk:kids.length<=400)(hc:Cons 31 op kids.length):Y9 31 op t o kids j d:=by
 have hl:=hc.four rfl;have hw:i64.wrap ((kids.length:Int) - 1)=3:=by rw[hl];rfl
 obtain rfl|rfl|rfl|rfl:j=0\/j=1\/j=2\/j=3:=ak
 ·simp only[Y9,M.aW,M.aY,M.aQ,M.gU,M.fZ,eU,iM,iO,eF,hw,Int.reduceBEq,reduceLE,reduceLT,reduceSub,reduceAdd,gJ,ah];generalize (Iq d)=a0;generalize (d==16)=a1;generalize (d==33)=a2;cases a0<;>cases a1<;>cases a2<;>exact⟨_,rfl,rfl⟩
 ·simp only[Y9,M.aW,M.aY,M.aQ,M.gU,M.fZ,eU,iM,iO,eF,hw,Int.reduceBEq,reduceLE,reduceLT,reduceSub,reduceAdd,gJ,ah];generalize (Iq d)=a0;generalize (d==16)=a1;generalize (d==33)=a2;cases a0<;>cases a1<;>cases a2<;>exact⟨_,rfl,rfl⟩
 ·simp only[Y9,M.aW,M.aY,M.aQ,M.gU,M.fZ,eU,iM,iO,eF,hw,Int.reduceBEq,reduceLE,reduceLT,reduceSub,reduceAdd,gJ,ah];generalize (Iq d)=a0;generalize (d==16)=a1;generalize (d==33)=a2;cases a0<;>cases a1<;>cases a2<;>exact⟨_,rfl,rfl⟩
 ·simp only[Y9,M.aW,M.aY,M.aQ,M.gU,M.fZ,eU,iM,iO,eF,hw,Int.reduceBEq,reduceLE,reduceLT,reduceSub,reduceAdd,gJ,ah];generalize (Iq d)=a0;generalize (d==16)=a1;generalize (d==33)=a2;cases a0<;>cases a1<;>cases a2<;>exact⟨_,rfl,rfl⟩
def aAk(k:Int)(op:Int)(t o:aC)(kids:au)(j d:Int)(h0:0<=j)(h1:j<kids.length)(hk:kids.length<=400)(hc:Cons k op kids.length)(hx:k=32\/k=40\/k=41):Y9 k op t o kids j d:=by
 rcases hx with rfl|rfl|rfl
 all_goals
  simp only[Y9,M.aW,M.aY,M.aQ,M.gU,M.fZ,eU,iM,iO,eF,Int.reduceBEq,reduceLE,reduceLT,reduceSub,reduceAdd,gJ,ah];generalize (d==33)=a0;cases a0<;>exact⟨_,rfl,rfl⟩
def aSx(op:Int)(t o:aC)(kids:au)(j d:Int)(h0:0<=j)(h1:j<kids.length)(hk:kids.length<=400)(hc:Cons 33 op kids.length):Y9 33 op t o kids j d:=by simp only[Y9,M.aW,M.aY,M.aQ,M.gU,M.fZ,eU,iM,iO,eF,Int.reduceBEq,reduceLE,reduceLT,reduceSub,reduceAdd,gJ,ah];generalize (acy d)=a0;cases a0<;>exact⟨_,rfl,rfl⟩
def aSy(op:Int)(t o:aC)(kids:au)(j d:Int)(h0:0<=j)(h1:j<kids.length)(hk:kids.length<=400)(hc:Cons 42 op kids.length):Y9 42 op t o kids j d:=by
 rcases hc.rule rfl with⟨rfl,hl⟩|⟨rfl,hl⟩|⟨rfl,hl⟩
 ·have hw:i64.wrap ((kids.length:Int) - 1)=0:=by rw[hl];rfl
  obtain rfl:j=0:=ak;simp only[Y9,M.aW,M.aY,M.aQ,M.gU,M.fZ,eU,iM,iO,eF,hw,Int.reduceBEq,reduceLE,reduceLT,reduceSub,reduceAdd,gJ,ah];generalize (Iq d)=a0;generalize (d==33)=a1;cases a0<;>cases a1<;>exact⟨_,rfl,rfl⟩
 ·have hw:i64.wrap ((kids.length:Int) - 1)=0:=by rw[hl];rfl
  obtain rfl:j=0:=ak;simp only[Y9,M.aW,M.aY,M.aQ,M.gU,M.fZ,eU,iM,iO,eF,hw,Int.reduceBEq,reduceLE,reduceLT,reduceSub,reduceAdd,gJ,ah];generalize (Iq d)=a0;generalize (d==33)=a1;cases a0<;>cases a1<;>exact⟨_,rfl,rfl⟩
 ·have hw:i64.wrap ((kids.length:Int) - 1)=1:=by rw[hl];rfl
  obtain rfl|rfl:j=0\/j=1:=ak
  ·simp only[Y9,M.aW,M.aY,M.aQ,M.gU,M.fZ,eU,iM,iO,eF,hw,Int.reduceBEq,reduceLE,reduceLT,reduceSub,reduceAdd,gJ,ah];generalize (Iq d)=a0;generalize (d==33)=a1;cases a0<;>cases a1<;>exact⟨_,rfl,rfl⟩
  ·simp only[Y9,M.aW,M.aY,M.aQ,M.gU,M.fZ,eU,iM,iO,eF,hw,Int.reduceBEq,reduceLE,reduceLT,reduceSub,reduceAdd,gJ,ah];generalize (Iq d)=a0;generalize (d==33)=a1;cases a0<;>cases a1<;>exact⟨_,rfl,rfl⟩
def aSz(op:Int)(t o:aC)(kids:au)(j d:Int)(h0:0<=j)(h1:j<kids.length)(hk:kids.length<=400)(hc:Cons 43 op kids.length):Y9 43 op t o kids j d:=by
 rcases hc.range rfl with⟨rfl,hl⟩|⟨rfl,hl⟩
 ·have hw:i64.wrap ((kids.length:Int) - 1)=1:=by rw[hl];rfl
  obtain rfl|rfl:j=0\/j=1:=ak
  ·simp only[Y9,M.aW,M.aY,M.aQ,M.gU,M.fZ,eU,iM,iO,eF,hw,Int.reduceBEq,reduceLE,reduceLT,reduceSub,reduceAdd,gJ,ah];generalize (Iq d)=a0;generalize (d==33)=a1;cases a0<;>cases a1<;>exact⟨_,rfl,rfl⟩
  ·simp only[Y9,M.aW,M.aY,M.aQ,M.gU,M.fZ,eU,iM,iO,eF,hw,Int.reduceBEq,reduceLE,reduceLT,reduceSub,reduceAdd,gJ,ah];generalize (Iq d)=a0;generalize (d==33)=a1;cases a0<;>cases a1<;>exact⟨_,rfl,rfl⟩
 ·have hw:i64.wrap ((kids.length:Int) - 1)=2:=by rw[hl];rfl
  obtain rfl|rfl|rfl:j=0\/j=1\/j=2:=ak
  ·simp only[Y9,M.aW,M.aY,M.aQ,M.gU,M.fZ,eU,iM,iO,eF,hw,Int.reduceBEq,reduceLE,reduceLT,reduceSub,reduceAdd,gJ,ah];generalize (Iq d)=a0;generalize (d==33)=a1;cases a0<;>cases a1<;>exact⟨_,rfl,rfl⟩
  ·simp only[Y9,M.aW,M.aY,M.aQ,M.gU,M.fZ,eU,iM,iO,eF,hw,Int.reduceBEq,reduceLE,reduceLT,reduceSub,reduceAdd,gJ,ah];generalize (Iq d)=a0;generalize (d==33)=a1;cases a0<;>cases a1<;>exact⟨_,rfl,rfl⟩
  ·simp only[Y9,M.aW,M.aY,M.aQ,M.gU,M.fZ,eU,iM,iO,eF,hw,Int.reduceBEq,reduceLE,reduceLT,reduceSub,reduceAdd,gJ,ah];generalize (Iq d)=a0;generalize (d==33)=a1;cases a0<;>cases a1<;>exact⟨_,rfl,rfl⟩
def aSA(op:Int)(t o:aC)(kids:au)(j d:Int)(h0:0<=j)(h1:j<kids.length)(hk:kids.length<=400)(hc:Cons 44 op kids.length):Y9 44 op t o kids j d:=by simp only[Y9,M.aW,M.aY,M.aQ,M.gU,M.fZ,eU,iM,iO,eF,Int.reduceBEq,reduceLE,reduceLT,reduceSub,reduceAdd,gJ,ah];generalize (j==i64.wrap ((kids.length:Int) - 1))=a0;generalize (d==33)=a1;generalize (d==1)=a2;cases a0<;>cases a1<;>cases a2<;>exact⟨_,rfl,rfl⟩
def aSB(op:Int)(t o:aC)(kids:au)(j d:Int)(h0:0<=j)(h1:j<kids.length)(hk:kids.length<=400)(hc:Cons 45 op kids.length):Y9 45 op t o kids j d:=by simp only[Y9,M.aW,M.aY,M.aQ,M.gU,M.fZ,eU,iM,iO,eF,Int.reduceBEq,reduceLE,reduceLT,reduceSub,reduceAdd,gJ,ah];generalize (isIt d)=a0;generalize (d==34)=a1;cases a0<;>cases a1<;>exact⟨_,rfl,rfl⟩
def aIa(k:Int)(op:Int)(t o:aC)(kids:au)(j d:Int)(hj0:0<=j)(hj1:j<kids.length)(hk:kids.length<=400)(hc:Cons k op kids.length):Y9 k op t o kids j d:=by
 by_cases h1:k=1
 ·subst h1;exact MH _ op t o kids j d hj0 hj1 hk hc ak
 by_cases h2:k=2
 ·subst h2;exact MH _ op t o kids j d hj0 hj1 hk hc ak
 by_cases h3:k=3
 ·subst h3;exact MH _ op t o kids j d hj0 hj1 hk hc ak
 by_cases h4:k=4
 ·subst h4;exact MH _ op t o kids j d hj0 hj1 hk hc ak
 by_cases h5:k=5
 ·subst h5;exact MH _ op t o kids j d hj0 hj1 hk hc ak
 by_cases h6:k=6
 ·subst h6;exact MH _ op t o kids j d hj0 hj1 hk hc ak
 by_cases h7:k=7
 ·subst h7;exact MH _ op t o kids j d hj0 hj1 hk hc ak
 by_cases h8:k=8
 ·subst h8;exact MH _ op t o kids j d hj0 hj1 hk hc ak
 by_cases h9:k=9
 ·subst h9;exact aFR _ op t o kids j d hj0 hj1 hk hc ak
 by_cases h10:k=10
 ·subst h10;exact aFR _ op t o kids j d hj0 hj1 hk hc ak
 by_cases h11:k=11
 ·subst h11;exact MH _ op t o kids j d hj0 hj1 hk hc ak
 by_cases h12:k=12
 ·subst h12;exact MH _ op t o kids j d hj0 hj1 hk hc ak
 by_cases h13:k=13
 ·subst h13;exact MH _ op t o kids j d hj0 hj1 hk hc ak
 by_cases h14:k=14
 ·subst h14;exact MH _ op t o kids j d hj0 hj1 hk hc ak
 by_cases h15:k=15
 ·subst h15;exact aSu op t o kids j d hj0 hj1 hk hc
 by_cases h16:k=16
 ·subst h16;exact MH _ op t o kids j d hj0 hj1 hk hc ak
 by_cases h20:k=20
 ·subst h20;exact MH _ op t o kids j d hj0 hj1 hk hc ak
 by_cases h21:k=21
 ·subst h21;exact MH _ op t o kids j d hj0 hj1 hk hc ak
 by_cases h22:k=22
 ·subst h22;exact MH _ op t o kids j d hj0 hj1 hk hc ak
 by_cases h23:k=23
 ·subst h23;exact MH _ op t o kids j d hj0 hj1 hk hc ak
 by_cases h24:k=24
 ·subst h24;exact MH _ op t o kids j d hj0 hj1 hk hc ak
 by_cases h25:k=25
 ·subst h25;exact MH _ op t o kids j d hj0 hj1 hk hc ak
 by_cases h26:k=26
 ·subst h26;exact MH _ op t o kids j d hj0 hj1 hk hc ak
 by_cases h27:k=27
 ·subst h27;exact MH _ op t o kids j d hj0 hj1 hk hc ak
 by_cases h28:k=28
 ·subst h28;exact aSv op t o kids j d hj0 hj1 hk hc
 by_cases h29:k=29
 ·subst h29;exact aFS _ op t o kids j d hj0 hj1 hk hc ak
 by_cases h30:k=30
 ·subst h30;exact aFS _ op t o kids j d hj0 hj1 hk hc ak
 by_cases h31:k=31
 ·subst h31;exact aSw op t o kids j d hj0 hj1 hk hc
 by_cases h32:k=32
 ·subst h32;exact aAk _ op t o kids j d hj0 hj1 hk hc ak
 by_cases h33:k=33
 ·subst h33;exact aSx op t o kids j d hj0 hj1 hk hc
 by_cases h34:k=34
 ·subst h34;exact MH _ op t o kids j d hj0 hj1 hk hc ak
 by_cases h40:k=40
 ·subst h40;exact aAk _ op t o kids j d hj0 hj1 hk hc ak
 by_cases h41:k=41
 ·subst h41;exact aAk _ op t o kids j d hj0 hj1 hk hc ak
 by_cases h42:k=42
 ·subst h42;exact aSy op t o kids j d hj0 hj1 hk hc
 by_cases h43:k=43
 ·subst h43;exact aSz op t o kids j d hj0 hj1 hk hc
 by_cases h44:k=44
 ·subst h44;exact aSA op t o kids j d hj0 hj1 hk hc
 by_cases h45:k=45
 ·subst h45;exact aSB op t o kids j d hj0 hj1 hk hc
 have e1:(k==1)=false:=by simpa using h1
 have e2:(k==2)=false:=by simpa using h2
 have e3:(k==3)=false:=by simpa using h3
 have e4:(k==4)=false:=by simpa using h4
 have e5:(k==5)=false:=by simpa using h5
 have e6:(k==6)=false:=by simpa using h6
 have e7:(k==7)=false:=by simpa using h7
 have e8:(k==8)=false:=by simpa using h8
 have e9:(k==9)=false:=by simpa using h9
 have e10:(k==10)=false:=by simpa using h10
 have e11:(k==11)=false:=by simpa using h11
 have e12:(k==12)=false:=by simpa using h12
 have e13:(k==13)=false:=by simpa using h13
 have e14:(k==14)=false:=by simpa using h14
 have e15:(k==15)=false:=by simpa using h15
 have e16:(k==16)=false:=by simpa using h16
 have e20:(k==20)=false:=by simpa using h20
 have e21:(k==21)=false:=by simpa using h21
 have e22:(k==22)=false:=by simpa using h22
 have e23:(k==23)=false:=by simpa using h23
 have e24:(k==24)=false:=by simpa using h24
 have e25:(k==25)=false:=by simpa using h25
 have e26:(k==26)=false:=by simpa using h26
 have e27:(k==27)=false:=by simpa using h27
 have e28:(k==28)=false:=by simpa using h28
 have e29:(k==29)=false:=by simpa using h29
 have e30:(k==30)=false:=by simpa using h30
 have e31:(k==31)=false:=by simpa using h31
 have e32:(k==32)=false:=by simpa using h32
 have e33:(k==33)=false:=by simpa using h33
 have e34:(k==34)=false:=by simpa using h34
 have e40:(k==40)=false:=by simpa using h40
 have e41:(k==41)=false:=by simpa using h41
 have e42:(k==42)=false:=by simpa using h42
 have e43:(k==43)=false:=by simpa using h43
 have e44:(k==44)=false:=by simpa using h44
 have e45:(k==45)=false:=by simpa using h45
 simp only[Y9,M.aW,M.aY,M.aQ,M.gU,M.fZ,eU,iM,iO,eF,e1,e2,e3,e4,e5,e6,e7,e8,e9,e10,e11,e12,e13,e14,e15,e16,e20,e21,e22,e23,e24,e25,e26,e27,e28,e29,e30,e31,e32,e33,e34,e40,e41,e42,e43,e44,e45,bC,ah];exact⟨_,rfl,rfl⟩
end Go.Proofs.YtflhkdjglihbmaaGreatDoor
namespace Go.Proofs.YtflhkdjglihbmaaGreatDoor
open Go Go.Vm
open Int (reduceLE reduceLT reduceSub reduceAdd)
def Za(x lo hi:Int):M.dP x lo hi=some (decide (lo<=x) && decide (x<=hi)):=by
 simp only[M.dP,M.Eh]
 by_cases h:lo<=x
 ·rw[zdt (show x>=lo from h)];rfl
 ·rw[xK (show¬x>=lo from h)];rfl
def ar6:∀k:List Int,aoV (encI k)=some k
 |[]=>rfl
 |x::k=>by have:encI (x::k)=[D.int .i64 x]::encI k:=rfl;rw[this];simp only[aoV,ar6 k,MI]
def nk(n:Nd):Nk:=⟨n.kind,n.op,⟨⟨n.text⟩⟩,⟨⟨n.other⟩⟩,n.kids⟩
def anI(o:Bool):∀l:List Nd,(∀n,n∈l->n.kids.length<=1048576)->aav (dQ o l)=some (l.map nk)
 |[],_=>rfl
 |n::l,h=>by
  have:dQ o (n::l)=YU o n::dQ o l:=rfl;rw[this,aav];have hk:atV (YU o n)=some (nk n):=by simp only[YU,atV,ar6,ah];rw[if_pos (h n zmf)];rfl
  rw[hk,ah,anI o l (λm hm=>h m (zmm _ hm))];rfl
def aSC(l:List Nd):(l.map nk).map (·.kids)=ks l:=by simp[ks,nk]
def aiK(l:List Nd)(o:Bool)(hl:l.length<=1048576)(hk:∀n,n∈l->n.kids.length<=1048576):M.Ed (dQ o l)=some (Jg l):=by
 simp only[M.Ed,M.QJ,M.lK,anI o l hk,ah,aSC,zaW];rw[if_pos hl,Jg];cases uK (ks l) with
 |none=>rfl
 |some st=>rfl
def afR(l:List Nd)(o:Bool){i:Nat}{n:Nd}{st:List Int}(hi:l[i]? =some n)(hl:l.length<=1048576)(hkl:n.kids.length<=1048576)(hst:ace st)(hs:st.length=i):
  ∀(j:Nat) (a:Int),j<=n.kids.length->0<=a->a<=i->M.xP (dQ o l) (i:Int) (encI st) (a,(j:Int) - 1)=some (match gQ st (n.kids.take j).reverse (a - 1) with
   |none=> .inl ()
   |some r=> .inr (r+1, -1))
 |0,a,hj,h0,h1=>by rw[M.xP];apply aV;simp only[M.Hw,M.BP];rw[xK ak,bC,List.take_zero,List.reverse_nil,gQ];simp
 |j+1,a,hj,h0,h1=>by
  have hlt:i<l.length:=(QV.1 hi).1;obtain⟨k,hk⟩:∃k,n.kids[j]? =some k:=⟨n.kids[j]'ak,by simp⟩
  have ht:(n.kids.take (j+1)).reverse=k::(n.kids.take j).reverse:=by rw[List.take_add_one,hk,Option.toList_some,List.reverse_append];rfl
  rw[ht,gQ];have e1:(((j+1:Nat):Int) - 1)=(j:Int):=ak;rw[e1];have hstep:M.Hw (dQ o l) (i:Int) (encI st) (a,(j:Int))=if a - 1<0\/k≠a - 1 then some (.inr (.inl ())) else some (.inl (st[k.toNat]?.getD 0,(j:Int) - 1)):=by
   simp only[M.Hw,M.BP,cO,qW,hi,MI,ah,VN,zO,hk,YV];rw[zdt ak,aH,aJ (n:=a - 1) ak ak]
   by_cases h2:k=a - 1
   ·have:(k !=a - 1)=false:=by simp[h2]
    rw[this,bC]
    by_cases h3:a=0
    ·have:(a==0)=true:=by simp[h3]
     rw[this,aH,if_pos (.inl ak)]
    ·have:(a==0)=false:=by simp[h3]
     rw[this,bC,if_neg ak];obtain⟨d,hd⟩:∃d:Nat,a - 1=(d:Int):=⟨(a - 1).toNat,ak⟩
     have hdl:d<st.length:=ak;rw[h2,hd];simp only[akc,cO,zO,ztn];rw[List.getElem?_eq_getElem hdl];simp only[MI,ah,YV,Option.getD_some];rw[aJ ak ak]
   ·have:(k !=a - 1)=true:=by simp[h2]
    rw[this,aH,if_pos (.inr h2)]
  by_cases hc:a - 1<0\/k≠a - 1
  ·rw[if_pos hc];rw[if_pos hc] at hstep;exact aV hstep
  ·rw[if_neg hc];rw[if_neg hc] at hstep;rw[M.xP,bY hstep];have hz:=VO hst k.toNat;have:=afR l o hi hl hkl hst hs j (st[k.toNat]?.getD 0) ak hz.1 ak;rw[M.xP] at this;exact this
def adW(l:List Nd)(o:Bool)(hl:l.length<=1048576)(hk:∀n,n∈l->n.kids.length<=1048576):∀(rest:List Nd) (i:Nat) (st:List Int),l.drop i=rest->st.length=i->i<=l.length->ace st->
  M.xQ (dQ o l) ((i:Int),encI st)=some (match iL st (ks rest) with
   |none=> .inl ()
   |some r=> .inr ((l.length:Int),encI r))
 |[],i,st,hd,hs,hi,hst=>by have:l.length<=i:=List.drop_eq_nil_iff.1 hd;rw[M.xQ];apply aV;simp only[yJ,M.Hy,M.BQ,jd];rw[xK ak,bC];have:i=l.length:=ak;subst this;rfl
 |n::rest,i,st,hd,hs,hi,hst=>by
  have hn:l[i]? =some n:=by
   have:(l.drop i)[0]? =some n:=by rw[hd];rfl
   simpa using this
  have hlt:i<l.length:=(QV.1 hn).1;have hd':l.drop (i+1)=rest:=by rw[<-List.drop_drop,hd];rfl
  have hkn:=hk n (UK hn);have hin:=afR l o hn hl hkn hst hs n.kids.length (i:Int) (zaV _) ak ak;rw[List.take_length] at hin;have hks:ks (n::rest)=n.kids::ks rest:=rfl;rw[hks,iL,hs];have hstep:M.Hy (dQ o l) ((i:Int),encI st)=some (match gQ st n.kids.reverse ((i:Int) - 1) with
    |none=> .inr (.inl ())
    |some a=> .inl (((i+1:Nat):Int),encI (st++[a+1]))):=by
   simp only[yJ,M.Hy,M.BQ,jd,cO,qW,hn,MI,ah,VN,dV];rw[zdt ak,aH,aJ (n:=(n.kids.length:Int) - 1) ak ak,hin];cases hw:gQ st n.kids.reverse ((i:Int) - 1) with
   |none=>rfl
   |some a=>simp only[ah,kD,letE,Jj];rw[bI ak,aH,bI ak,aH,aJ ak ak];simp[encI]
  cases hw:gQ st n.kids.reverse ((i:Int) - 1) with
  |none=>rw[hw] at hstep;exact aV hstep
  |some a=>rw[hw] at hstep;rw[M.xQ,bY hstep];have hr:=JX hst _ _ _ ak ak hw;have:=adW l o hl hk rest (i+1) (st++[a+1]) hd' (by simp[hs]) hlt (X8 hst hr.1 hr.2);rw[M.xQ] at this;exact this
def ZF(l:List Nd)(o:Bool)(hl:l.length<=1048576)(hk:∀n,n∈l->n.kids.length<=1048576):M.yB (dQ o l)=some (Jg l):=by
 simp only[M.yB,M.PU,Za,ah,jd]
 by_cases h1:1<=l.length/\l.length<=400
 ·have hb:(decide ((1:Int)<=(l.length:Int)) && decide ((l.length:Int)<=400))=true:=by simp;omega
  rw[hb,zaU,bC];have h:=adW l o hl hk l 0 [] rfl rfl (Nat.zero_le _) X9;have e0:((0:Nat):Int)=0:=rfl;rw[e0] at h;simp only[M.E8,M.NM];rw[show([]:au)=encI [] from rfl,h,Jg,uK,if_pos (by rw[OW];exact h1)];cases hs:iL [] (ks l) with
  |none=>rfl
  |some r=>
   have hrl:r.length=l.length:=by have:=YX _ _ _ hs;rw[OW] at this;simpa using this
   simp only[ah,kD,letE,Rw,aH];rw[aJ ak ak,show(l.length:Int) - 1=((l.length - 1:Nat):Int) by omega];simp only[akc,cO,zO,ztn];rw[List.getElem?_eq_getElem ak];simp only[MI,ah,YV,Option.getD_some]
 ·have hb:(decide ((1:Int)<=(l.length:Int)) && decide ((l.length:Int)<=400))=false:=by
   cases hq:(decide ((1:Int)<=(l.length:Int)) && decide ((l.length:Int)<=400)) with
   |false=>rfl
   |true=>simp at hq;omega
  rw[hb,Bool.not_false,aH,Jg,uK,if_neg (by rw[OW];exact h1)]
def anJ{st:List Int}(h:ace st):∀(l:List Int) (a r:Int),a<st.length->gQ st l a=some r->∀k,k∈l->0<=k/\k<st.length
 |[],a,r,h1,e,k,hk=>absurd hk List.not_mem_nil
 |x::l,a,r,h1,e,k,hk=>by
  rw[gQ] at e;split at e
  ·cases e
  ·rename_i hc;have hz:=VO h x.toNat;rcases List.mem_cons.1 hk with rfl|hk
   ·omega
   ·exact anJ h l _ r ak e k hk
def ah7:∀(l:List (List Int)) (st r:List Int),ace st->iL st l=some r->∀(i:Nat) n,l[i]? =some n->∀k,k∈n->0<=k/\k<st.length+i
 |[],st,r,h0,h,i,n,hn=>by simp at hn
 |m::l,st,r,h0,h,i,n,hn=>by
  rw[iL] at h;split at h
  ·cases h
  ·rename_i a ha;have hr:=JX h0 _ _ _ ak ak ha;cases i with
   |zero=>simp only[List.getElem?_cons_zero,kX] at hn;subst hn;intro k hk;have:=anJ h0 _ _ _ ak ha k (List.mem_reverse.2 hk);omega
   |succ i=>simp only[List.getElem?_cons_succ] at hn;intro k hk;have:=ah7 l _ r (X8 h0 hr.1 hr.2) h i n hn k hk;simp at this;omega
def anK{l:List Nd}(h:Jg l=true):1<=l.length/\l.length<=400:=by
 unfold Jg at h;cases hs:uK (ks l) with
 |none=>rw[hs] at h;cases h
 |some r=>
  unfold uK at hs;split at hs
  ·rename_i hq;rw[OW] at hq;exact hq
  ·cases hs
def adX:∀(l:List (List Int)) (st r:List Int),iL st l=some r->∃t,r=st++t
 |[],st,r,h=>by rw[iL] at h;cases h;exact⟨[],by simp⟩
 |n::l,st,r,h=>by
  rw[iL] at h;split at h
  ·cases h
  ·obtain⟨t,ht⟩:=adX l _ r h;exact⟨_,by rw[ht,WC]⟩
def ar7{st t:List Int}(h:ace st):∀(ks:List Int) (a:Int),a<st.length->gQ (st++t) ks a=gQ st ks a
 |[],a,_=>rfl
 |k::ks,a,ha=>by
  rw[gQ,gQ];split
  ·rfl
  ·rename_i hc;have hk:k.toNat<st.length:=ak;have e:(st++t)[k.toNat]? =st[k.toNat]? :=List.getElem?_append_left hk;rw[e];have hz:=VO h k.toNat;exact ar7 h ks _ ak
def anL:∀(l:List (List Int)) (st r:List Int),ace st->iL st l=some r->∀(i:Nat) n,l[i]? =some n->∃a,gQ r n.reverse ((st.length:Int)+i - 1)=some a/\r[st.length+i]? =some (a+1)
 |[],st,r,h0,h,i,n,hn=>by simp at hn
 |m::l,st,r,h0,h,i,n,hn=>by
  rw[iL] at h;split at h
  ·cases h
  ·rename_i a ha;have hr:=JX h0 _ _ _ ak ak ha;obtain⟨t,ht⟩:=adX l _ r h;cases i with
   |zero=>
    simp only[List.getElem?_cons_zero,kX] at hn;subst hn;refine⟨a, ?_, ?_⟩
    ·rw[ht,WC,ar7 h0 _ _ (by simp;omega)];simpa using ha
    ·rw[ht];simp
   |succ i=>
    simp only[List.getElem?_cons_succ] at hn;obtain⟨b,h1,h2⟩:=anL l _ r (X8 h0 hr.1 hr.2) h i n hn;refine⟨b, ?_, ?_⟩
    ·rw[<-h1];congr 1;simp;omega
    ·rw[<-h2];congr 1;simp;omega
def abE:List Int->Int
 |[]=>0
 |x::l=>x+abE l
def ah8:∀(a b:List Int),abE (a++b)=abE a+abE b
 |[],b=>by simp[abE]
 |x::a,b=>by rw[zca,abE,abE,ah8 a b];omega
def afS:∀l:List Int,abE l.reverse=abE l
 |[]=>rfl
 |x::l=>by rw[List.reverse_cons,ah8,afS l];simp[abE];omega
def sz(r:List Int)(k:Int):Int:=k - (r[k.toNat]?.getD 0)+1
def ar8(r:List Int):∀(ks:List Int) (a b:Int),gQ r ks a=some b->abE (ks.map (sz r))=a - b
 |[],a,b,h=>by rw[gQ] at h;cases h;simp[abE]
 |k::ks,a,b,h=>by
  rw[gQ] at h;split at h
  ·cases h
  ·rename_i hc;have:=ar8 r ks _ b h;rw[zmc,abE,this,sz];omega
structure Val(l:List Nd)(r:List Int):Prop where
 st:iL [] (ks l)=some r
 pos:1<=l.length
 le:l.length<=400
def ao9{l:List Nd}(h:Jg l=true):∃r,Val l r:=by
 have hl:=anK h;unfold Jg at h;cases hs:uK (ks l) with
 |none=>rw[hs] at h;cases h
 |some r=>
  unfold uK at hs;split at hs
  ·exact⟨r,hs,hl.1,hl.2⟩
  ·cases hs
section
variable {l:List Nd} {r:List Int}
def Val.len(h:Val l r):r.length=l.length:=by have:=YX _ _ _ h.st;rw[OW] at this;simpa using this
def Val.ok(h:Val l r):ace r:=agS _ _ _ X9 h.st
def Val.kids(h:Val l r){i:Nat}{n:Nd}(hn:l[i]? =some n):∀k,k∈n.kids->0<=k/\k<i:=by have:=ah7 _ _ _ X9 h.st i n.kids (by simp[ks,hn]);simpa using this
def Val.sum(h:Val l r){i:Nat}{n:Nd}(hn:l[i]? =some n):abE (n.kids.map (sz r))+1=sz r i:=by obtain⟨a,h1,h2⟩:=anL _ _ _ X9 h.st i n.kids (by simp[ks,hn]);have:=ar8 r _ _ _ h1;rw[List.map_reverse,afS] at this;simp at h2;rw[this,sz,ztn,h2];simp;omega
def Val.aAl(h:Val l r){k:Int}(h0:0<=k):1<=sz r k/\sz r k<=k+1:=by have:=VO h.ok k.toNat;rw[sz];omega
end
def akP(l:List Nd)(i:Nat):List Int:=match l[i]? with|some n=>n.kids|none=>[]
def O7{l:List Nd}{i:Nat}{n:Nd}(h:l[i]? =some n):akP l i=n.kids:=by rw[akP,h]
def mx:Int->List Int->Int
 |a,[]=>a
 |a,x::l=>mx (bif decide (a<x) then x else a) l
def afT(B:Int):∀(l:List Int) (a:Int),a<=B->(∀x,x∈l->x<=B)->a<=mx a l/\mx a l<=B
 |[],a,h,_=>⟨Int.le_refl _,h⟩
 |x::l,a,h,hl=>by
  have hx:=hl x zmf;rw[mx]
  by_cases c:a<x
  ·rw[zdt c,aH];have:=afT B l x hx λy hy=>hl y (zmm _ hy)
   omega
  ·rw[xK c,bC];exact afT B l a h λy hy=>hl y (zmm _ hy)
def ai4:∀(l:List Int) (a x:Int),mx a (l++[x])=(bif decide (mx a l<x) then x else mx a l)
 |[],a,x=>rfl
 |y::l,a,x=>by rw[zca,mx,mx,ai4 l]
def aAm:∀(l:List Int) (a:Int),mx (1+a) (l.map λd=>1+d)=1+mx a l
 |[],a=>rfl
 |x::l,a=>by
  rw[zmc,mx,mx,<-aAm l]
  by_cases c:a<x
  ·rw[zdt c,aH,zdt ak,aH]
  ·rw[xK c,bC,xK ak,bC]
def dep(l:List Nd):Nat->Nat->Int
 |0,_=>0
 |f+1,i=>mx 0 ((akP l i).map λk=>dep l f k.toNat)+1
def ahd(l:List Nd):∀f i,0<=dep l f i/\dep l f i<=f
 |0,i=>by simp[dep]
 |f+1,i=>by have:=afT (f:Int) ((akP l i).map λk=>dep l f k.toNat) 0 ak (λx hx=>by obtain⟨k,_,rfl⟩:=List.mem_map.1 hx;exact(ahd l f k.toNat).2);rw[dep];omega
section
variable {l:List Nd} {r:List Int} {o:Bool}
def ar9(h:Val l r):∀(f f' i:Nat),i<f->i<f'->i<l.length->dep l f i=dep l f' i
 |0,_,i,h1,_,_=>absurd h1 (Nat.not_lt_zero _)
 |f+1,0,i,_,h2,_=>absurd h2 (Nat.not_lt_zero _)
 |f+1,f'+1,i,h1,h2,h3=>by
  obtain⟨n,hn⟩:∃n,l[i]? =some n:=⟨l[i],by simp⟩
  rw[dep,dep,O7 hn];congr 2;refine List.map_congr_left λk hk=> ?_
  have hkr:=h.kids hn k hk;exact ar9 h f f' k.toNat ak ak ak
def akQ(l:List Nd)(i:Nat):List Int:=(List.range i).map λj=>dep l (j+1) j
def aAn(l:List Nd)(i:Nat):(akQ l i).length=i:=by simp[akQ]
def asa(l:List Nd){i j:Nat}(h:j<i):(akQ l i)[j]? =some (dep l (j+1) j):=by simp[akQ,List.getElem?_range h]
def axH(l:List Nd)(i:Nat):akQ l (i+1)=akQ l i++[dep l (i+1) i]:=by simp[akQ,List.range_succ]
def asb(h:Val l r){i:Nat}{n:Nd}(hn:l[i]? =some n)(hk:n.kids.length<=1048576):M.II (dQ o l) (i:Int) (encI (akQ l i)) (1,0)=some (dep l (i+1) i,(n.kids.length:Int)):=by
 have hil:=(QV.1 hn).1;have hle:=h.le;have hdk:∀k,k∈n.kids->dep l i k.toNat=dep l (k.toNat+1) k.toNat:=λk hkm=>by have:=h.kids hn k hkm;exact ar9 h _ _ _ ak ak ak
 have hval:∀(j:Nat),(1:Int)+mx 0 ((n.kids.take j).map λk=>dep l i k.toNat)=mx 1 ((n.kids.take j).map λk=>1+dep l i k.toNat):=λj=>by have:=aAm ((n.kids.take j).map λk=>dep l i k.toNat) 0;rw[List.map_map] at this;exact this.symm
 have hloop:=uJ (b:=M.Jq (dQ o l) (i:Int) (encI (akQ l i))) (t:=(dep l (i+1) i,(n.kids.length:Int))) (λj=>(mx 1 ((n.kids.take j).map λk=>1+dep l i k.toNat),(j:Int))) n.kids.length
  (by
   intro j hj;obtain⟨k,hkj⟩:∃k,n.kids[j]? =some k:=⟨n.kids[j],by simp⟩
   have hkm:=UK hkj;have hkr:=h.kids hn k hkm;obtain⟨q,hq⟩:∃q:Nat,k=q:=⟨k.toNat,ak⟩
   have hd:=hdk k hkm;have hr:=ahd l (q+1) q;subst hq;rw[ztn] at hd;simp only[M.Jq,M.Ei,cO,qW,hn,MI,ah,VN,dV,zO,hkj,YV,ztn,asa l (show q<i by omega)];rw[zdt ak,aH,aJ (n:=(j:Int)+1) ak ak,aJ (n:=1+dep l (q+1) q) ak ak,List.take_add_one,hkj,Option.toList_some,List.map_append,zmc,List.map_nil,ai4,ztn,hd];rfl)
  (by simp only[M.Jq,M.Ei,cO,qW,hn,MI,ah,VN,dV];rw[xK ak,bC,<-hval,List.take_length,dep,O7 hn,Int.add_comm]) 0 (Nat.zero_le _)
 rw[M.II];exact hloop
def depth(l:List Nd):Int:=if Jg l then dep l l.length (l.length - 1) else 0
def aiL(l:List Nd)(o:Bool)(hl:l.length<=1048576)(hk:∀n,n∈l->n.kids.length<=1048576):M.DU (dQ o l)=some (depth l):=by
 simp only[M.DU,M.PV,ZF l o hl hk,ah,jd,depth];cases hs:Jg l with
 |false=>rfl
 |true=>
  obtain⟨r,h⟩:=ao9 hs;have h1:=h.pos;have h2:=h.le;have hloop:=uJ (b:=M.Jr (dQ o l)) (t:=((l.length:Int),encI (akQ l l.length))) (λi=>((i:Int),encI (akQ l i))) l.length
   (by
    intro i hi;obtain⟨n,hn⟩:∃n,l[i]? =some n:=⟨l[i],by simp⟩
    have hin:=asb (o:=o) h hn (hk n (UK hn));simp only[yJ,M.Jr,M.Ej,jd,hin,ah,dV,aAn,Jj];rw[zdt ak,aH,bI ak,aH,bI ak,aH,aJ ak ak,axH];simp[encI])
   (by simp only[yJ,M.Jr,M.Ej,jd];rw[xK ak,bC]) 0 (Nat.zero_le _)
  have KJ:M.NP (dQ o l) (0,[])=_:=hloop;rw[zaU,bC,KJ,ah,aJ ak ak,show(l.length:Int) - 1=((l.length - 1:Nat):Int) by omega,if_pos rfl];simp only[cO,ztn,zO,asa l (show l.length - 1<l.length by omega),MI,ah,YV];rw[show l.length - 1+1=l.length by omega]
def ZW(l:List Nd)(i:Nat):Nd:=match l[i]? with|some n=>n|none=>⟨0,0,[],[],[]⟩
def akR(n:Nd)(rows:au):Row:=[.int .i64 n.kind,.int .i64 n.op,.str n.text,.str n.other,.sl true 5 rows]
def JL(l:List Nd):Nat->Nat->au
 |0,_=>[]
 |f+1,i=>(akP l i).map λk=>akR (ZW l k.toNat) (JL l f k.toNat)
def anM(h:Val l r)(hk:∀n,n∈l->n.kids.length<=400):∀(f i:Nat) (n:Nd),i<f->l[i]? =some n->M.qR f (dQ o l) (i:Int)=some (n.kind,n.op,n.text,n.other,JL l f i)
 |0,i,n,hf,_=>absurd hf (Nat.not_lt_zero _)
 |f+1,i,n,hf,hn=>by
  have hkn:=hk n (UK hn);have hil:=(QV.1 hn).1;have hkl:=h.kids hn;simp only[yJ,M.qR,M.NC,cO,qW,hn,MI,ah,XK,YF,YG,YH,VN,dV];have hrec:∀(j:Nat) k,n.kids[j]? =some k->M.qR f (dQ o l) k=some ((ZW l k.toNat).kind,(ZW l k.toNat).op,(ZW l k.toNat).text,(ZW l k.toNat).other,JL l f k.toNat):=by
   intro j k hj;have hkr:=hkl k (UK hj);obtain⟨q,hq⟩:∃q:Nat,k=q:=⟨k.toNat,ak⟩
   subst hq;obtain⟨m,hm⟩:∃m,l[q]? =some m:=⟨l[q]'ak,by simp⟩
   have:=anM h hk f q m ak hm;rw[this,ztn,ZW,hm]
  have hloop:=uJ (b:=M.BI (M.qR f))
   (t:=if n.kids=[] then .inl (dQ o l,encI n.kids,(n.kids.length:Int),0,0,0,[],[],n.kind,n.op,n.text,n.other) else .inr (dQ o l,encI n.kids,(n.kids.length:Int),(n.kids.length:Int),0,0,[],[],n.kind,n.op,n.text,n.other,JL l (f+1) i))
   (λj=>if j=0 then .inl (dQ o l,encI n.kids,(n.kids.length:Int),0,0,0,[],[],n.kind,n.op,n.text,n.other) else .inr (dQ o l,encI n.kids,(n.kids.length:Int),(j:Int),0,0,[],[],n.kind,n.op,n.text,n.other,(n.kids.take j).map λk=>akR (ZW l k.toNat) (JL l f k.toNat))) n.kids.length
   (by
    intro j hj;obtain⟨k,hkj⟩:∃k,n.kids[j]? =some k:=⟨n.kids[j],by simp⟩
    have hr:=hrec j k hkj;have htk:(n.kids.take (j+1)).map (λk=>akR (ZW l k.toNat) (JL l f k.toNat))=(n.kids.take j).map (λk=>akR (ZW l k.toNat) (JL l f k.toNat))++[akR (ZW l k.toNat) (JL l f k.toNat)]:=by rw[List.take_add_one,hkj,Option.toList_some,List.map_append];rfl
    rw[if_neg (show¬j+1=0 by omega),htk]
    by_cases h0:j=0
    ·subst h0;rw[if_pos rfl];have a00:idx (encI n.kids) 0=some [D.int .i64 k]:=by have:=cO (encI n.kids) 0;rw[ND] at this;rw[this,zO,hkj];rfl
     simp only[yJ,M.BI,M.yw,a00,ah,YV,hr];rw[zdt ak,aH];rfl
    ·rw[if_neg h0];simp only[yJ,M.BI,M.yw,cO,zO,hkj,MI,ah,YV,hr,zaW,zlt,Jj];rw[zdt ak,aH,bI ak,aH,bI ak,aH,aJ ak ak];rfl)
   (by
    by_cases h0:n.kids.length=0
    ·have he:n.kids=[]:=List.length_eq_zero_iff.1 h0;rw[if_pos h0,if_pos he];simp only[yJ,M.BI,M.yw];rw[xK ak,bC]
    ·have he:¬n.kids=[]:=λe=>h0 (by rw[e];rfl)
     rw[if_neg h0,if_neg he,List.take_length];simp only[yJ,M.BI,M.yw];rw[xK ak,bC,JL,O7 hn]) 0 (Nat.zero_le _)
  rw[if_pos rfl] at hloop;rw[M.QK,hloop,ah]
  by_cases he:n.kids=[]
  ·rw[if_pos he,JL,O7 hn,he];rfl
  ·rw[if_neg he];rfl
def Zb:∀rows:au,aB rows=rows.map AY
 |[]=>rfl
 |x::rows=>by rw[aB,Zb rows,zmc]
def asc(h:Val l r)(hk:∀n,n∈l->n.kids.length<=400):∀(f i:Nat) (n:Nd) (a b:Int) (c d:aC),i<f->f<=1000->l[i]? =some n->M.iU f a b c d (aB (JL l f i))=some (dep l f i)
 |0,i,n,a,b,c,d,hf,_,_=>absurd hf (Nat.not_lt_zero _)
 |f+1,i,n,a,b,c,d,hf,hf2,hn=>by
  have hkn:=hk n (UK hn);have hil:=(QV.1 hn).1;have hkl:=h.kids hn;have hdr:=ahd l (f+1) i;have hlen:(aB (JL l (f+1) i)).length=n.kids.length:=by rw[Zb,JL,O7 hn];simp
  simp only[M.iU,M.zA,hlen];have hloop:=uJ (b:=M.qK (M.iU f) (aB (JL l (f+1) i)) (n.kids.length:Int)) (t:=(mx 0 (n.kids.map λk=>dep l f k.toNat),(n.kids.length:Int)))
   (λj=>(mx 0 ((n.kids.take j).map λk=>dep l f k.toNat),(j:Int))) n.kids.length
   (by
    intro j hj;obtain⟨k,hkj⟩:∃k,n.kids[j]? =some k:=⟨n.kids[j],by simp⟩
    have hkr:=hkl k (UK hkj);obtain⟨q,hq⟩:∃q:Nat,k=q:=⟨k.toNat,ak⟩
    subst hq;obtain⟨m,hm⟩:∃m,l[q]? =some m:=⟨l[q]'ak,by simp⟩
    have hrow:(aB (JL l (f+1) i))[j]? =some (AY (akR m (JL l f q))):=by rw[Zb,JL,O7 hn,List.getElem?_map,List.getElem?_map,hkj];simp only[MI,ztn,ZW,hm]
    have hrec:=asc h hk f q m m.kind m.op m.text m.other ak ak hm;have k0:jD .i64 (AY (akR m (JL l f q))) 0=some m.kind:=rfl;have k1:jD .i64 (AY (akR m (JL l f q))) 1=some m.op:=rfl;have k2:cStr (AY (akR m (JL l f q))) 2=some m.text:=rfl;have k3:cStr (AY (akR m (JL l f q))) 3=some m.other:=rfl;have k4:cSl 5 (AY (akR m (JL l f q))) 4=some (aB (JL l f q)):=rfl;simp only[yJ,M.qK,M.qJ,cO,hrow,ah,k0,k1,k2,k3,k4,hrec];rw[zdt ak,aH,aJ ak ak,List.take_add_one,hkj,Option.toList_some,List.map_append,zmc,List.map_nil,ai4,ztn];rfl)
   (by simp only[yJ,M.qK,M.qJ];rw[xK ak,bC,List.take_length]) 0 (Nat.zero_le _)
  have KJ:M.CX (M.iU f) (aB (JL l (f+1) i)) (n.kids.length:Int) (0,0)=_:=hloop;rw[KJ,ah];rw[dep,O7 hn] at hdr|-;rw[aJ ak ak]
end
end Go.Proofs.YtflhkdjglihbmaaGreatDoor
