import Derived.Test.YtbpldgeajbfgnaaGreatDoorPForms
set_option linter.defProp false
namespace Go.Proofs.YtbpldgeajbfgnaaGreatDoor
open Go Go.Vm
open Go.IntKind (i64)
set_option linter.unusedVariables false
set_option linter.unusedSimpArgs false
noncomputable section
def M.kN:Nat->(au->Bool->Int->Int->Bool->Bool->Bool->Bool->Option (au))×(au->Bool->au->Option (au))×(au->Bool->Int->aC->Int->au->Int->Option (au))×(au->Bool->Int->Option (au))×(au->Bool->Int->Int->aC->aC->au->Int->Bool->Bool->Bool->Bool->Option (au))×(au->Bool->Int->Int->Bool->Bool->Bool->Bool->Option (au)):=
 Nat.rec (λ_ _ _ _ _ _ _ _=>none,λ_ _ _=>none,λ_ _ _ _ _ _ _=>none,λ_ _ _=>none,λ_ _ _ _ _ _ _ _ _ _ _ _=>none,λ_ _ _ _ _ _ _ _=>none) λ_ qz=>(λw w1 i p p1 p2 p3 p4=>M.D6 qz.2.2.2.2.2 w w1 i p p1 p2 p3 p4 some,λw w1 kids=>M.yX qz.1 w w1 kids some,λw w1 t' jr kH kids open'=>M.wB qz.2.1 w w1 t' jr kH kids open' some,λw w1 i=>M.uP qz.2.2.2.2.2 w w1 i some,λw w1 n' gV iU iJ jV p p1 p2 p3 p4=>M.qp qz.1 w w1 n' gV iU iJ jV p p1 p2 p3 p4 some,λw w1 i p p1 p2 p3 p4=>M.fV qz.2.2.1 qz.2.2.2.1 qz.1 qz.2.1 qz.2.2.2.2.1 w w1 i p p1 p2 p3 p4 some)
def M.ru(n:Nat):au->Bool->Int->Int->Bool->Bool->Bool->Bool->Option (au):=(M.kN n).1
def M.yY(n:Nat):au->Bool->au->Option (au):=(M.kN n).2.1
def M.AU(n:Nat):au->Bool->Int->aC->Int->au->Int->Option (au):=(M.kN n).2.2.1
def M.yZ(n:Nat):au->Bool->Int->Option (au):=(M.kN n).2.2.2.1
def M.AV(n:Nat):au->Bool->Int->Int->aC->aC->au->Int->Bool->Bool->Bool->Bool->Option (au):=(M.kN n).2.2.2.2.1
def M.y5(n:Nat):au->Bool->Int->Int->Bool->Bool->Bool->Bool->Option (au):=(M.kN n).2.2.2.2.2
def M.aeL(n:Nat):M.ru (n+1)=λw w1 i p p1 p2 p3 p4=>M.D6 (M.y5 n) w w1 i p p1 p2 p3 p4 some:=rfl
def M.aa0(n:Nat):M.yY (n+1)=λw w1 kids=>M.yX (M.ru n) w w1 kids some:=rfl
def M.Y0(n:Nat):M.AU (n+1)=λw w1 t' jr kH kids open'=>M.wB (M.yY n) w w1 t' jr kH kids open' some:=rfl
def M.Xr(n:Nat):M.yZ (n+1)=λw w1 i=>M.uP (M.y5 n) w w1 i some:=rfl
def M.Y1(n:Nat):M.AV (n+1)=λw w1 n' gV iU iJ jV p p1 p2 p3 p4=>M.qp (M.ru n) w w1 n' gV iU iJ jV p p1 p2 p3 p4 some:=rfl
def M.aa1(n:Nat):M.y5 (n+1)=λw w1 i p p1 p2 p3 p4=>M.fV (M.AU n) (M.yZ n) (M.ru n) (M.yY n) (M.AV n) w w1 i p p1 p2 p3 p4 some:=rfl
def M.oL(w:au)(w1:Bool)(i p:Int)(p1 p2 p3 p4:Bool):Option (au):=lim λn=>M.ru n w w1 i p p1 p2 p3 p4
def M.wP(w:au)(w1:Bool)(kids:au):Option (au):=lim λn=>M.yY n w w1 kids
def M.yj(w:au)(w1:Bool)(t':Int)(jr:aC)(kH:Int)(kids:au)(open':Int):Option (au):=lim λn=>M.AU n w w1 t' jr kH kids open'
def M.uU(w:au)(w1:Bool)(i:Int):Option (au):=lim λn=>M.yZ n w w1 i
def M.yt(w:au)(w1:Bool)(n' gV:Int)(iU iJ:aC)(jV:au)(p:Int)(p1 p2 p3 p4:Bool):Option (au):=lim λn=>M.AV n w w1 n' gV iU iJ jV p p1 p2 p3 p4
def M.wQ(w:au)(w1:Bool)(i p:Int)(p1 p2 p3 p4:Bool):Option (au):=lim λn=>M.y5 n w w1 i p p1 p2 p3 p4
def C.kN:∀n,(S.oL.ok X0 λx=>M.ru n x.1.1.1 x.1.1.2.1 x.1.2.1 x.1.2.2.1.1 x.1.2.2.1.2.1 x.1.2.2.1.2.2.1 x.1.2.2.1.2.2.2.1 x.1.2.2.1.2.2.2.2.1)∧(S.wP.ok X0 λx=>M.yY n x.1.1.1 x.1.1.2.1 x.1.2.1)∧(S.yj.ok X0 λx=>M.AU n x.1.1.1 x.1.1.2.1 x.1.2.1.1 x.1.2.1.2.1 x.1.2.1.2.2.1 x.1.2.2.1 x.1.2.2.2.1)∧(S.uU.ok X0 λx=>M.yZ n x.1.1.1 x.1.1.2.1 x.1.2.1)∧(S.yt.ok X0 λx=>M.AV n x.1.1.1 x.1.1.2.1 x.1.2.1.1 x.1.2.1.2.1 x.1.2.1.2.2.1 x.1.2.1.2.2.2.1 x.1.2.1.2.2.2.2.1 x.1.2.2.1.1 x.1.2.2.1.2.1 x.1.2.2.1.2.2.1 x.1.2.2.1.2.2.2.1 x.1.2.2.1.2.2.2.2.1)∧(S.wQ.ok X0 λx=>M.y5 n x.1.1.1 x.1.1.2.1 x.1.2.1 x.1.2.2.1.1 x.1.2.2.1.2.1 x.1.2.2.1.2.2.1 x.1.2.2.1.2.2.2.1 x.1.2.2.1.2.2.2.2.1)
 |0=>⟨gq.zero,gq.zero,gq.zero,gq.zero,gq.zero,gq.zero⟩
 |n+1=>have h:=C.kN n;⟨C.acy h.2.2.2.2.2,C.YV h.1,C.Xo h.2.1,C.VH h.2.2.2.2.2,C.Xp h.1,C.YW h.2.2.1 h.2.2.2.1 h.1 h.2.1 h.2.2.2.2.1⟩
def C.oL:S.oL.ok X0 λx=>M.oL x.1.1.1 x.1.1.2.1 x.1.2.1 x.1.2.2.1.1 x.1.2.2.1.2.1 x.1.2.2.1.2.2.1 x.1.2.2.1.2.2.2.1 x.1.2.2.1.2.2.2.2.1:=gq.lim λn=>(C.kN n).1
def M.acz{n:Nat}{w:au}{w1:Bool}{i p:Int}{p1 p2 p3 p4:Bool}{r:au}(h:M.ru n w w1 i p p1 p2 p3 p4=some r):M.oL w w1 i p p1 p2 p3 p4=some r:=
 gq.Hl (λn=>(C.kN n).1) (by intro a b h;simp[S.oL,sg] at h;first|exact h|simp[Prod.ext_iff,h]) (x:=(((w,w1,()),i,(p,p1,p2,p3,p4,()),()),())) h
def C.wP:S.wP.ok X0 λx=>M.wP x.1.1.1 x.1.1.2.1 x.1.2.1:=gq.lim λn=>(C.kN n).2.1
def C.yj:S.yj.ok X0 λx=>M.yj x.1.1.1 x.1.1.2.1 x.1.2.1.1 x.1.2.1.2.1 x.1.2.1.2.2.1 x.1.2.2.1 x.1.2.2.2.1:=gq.lim λn=>(C.kN n).2.2.1
def C.uU:S.uU.ok X0 λx=>M.uU x.1.1.1 x.1.1.2.1 x.1.2.1:=gq.lim λn=>(C.kN n).2.2.2.1
def C.yt:S.yt.ok X0 λx=>M.yt x.1.1.1 x.1.1.2.1 x.1.2.1.1 x.1.2.1.2.1 x.1.2.1.2.2.1 x.1.2.1.2.2.2.1 x.1.2.1.2.2.2.2.1 x.1.2.2.1.1 x.1.2.2.1.2.1 x.1.2.2.1.2.2.1 x.1.2.2.1.2.2.2.1 x.1.2.2.1.2.2.2.2.1:=gq.lim λn=>(C.kN n).2.2.2.2.1
def C.wQ:S.wQ.ok X0 λx=>M.wQ x.1.1.1 x.1.1.2.1 x.1.2.1 x.1.2.2.1.1 x.1.2.2.1.2.1 x.1.2.2.1.2.2.1 x.1.2.2.1.2.2.2.1 x.1.2.2.1.2.2.2.2.1:=gq.lim λn=>(C.kN n).2.2.2.2.2
def M.Dc{R:Type}(s':aC)(at':Int)(x':au)(s:Int×Int×Int)(kn:Int×Int×Int->Option R)(ke:Int×Int×Int->Option R):Option R:=match s with
 |(kind,size,i)=>
 bif decide (i<(↑x'.length:Int)) then
 ((idx x' i).bind λaOx=>
 (x'[i.toNat]?.bind λauB=>
 ((cStr auB 0).bind λaqv=>
 (bif decide (at'>=0) then
 (bif decide (at'<=(↑s'.length:Int)) then
 (bif decide ((↑aqv.length:Int)<=i64.wrap ((↑s'.length:Int) - at')) then
 ((cut s' at' (i64.wrap (at'+(↑aqv.length:Int)))).bind λaOy=>
 ((idx x' i).bind λaOz=>
 (x'[i.toNat]?.bind λauC=>
 ((cStr auC 0).bind λaOA=>
 (bif aOy==aOA then
 (bif decide ((↑aqv.length:Int)>size) then(kn ((i64.wrap (30+i),(↑aqv.length:Int),i64.wrap (i+1)))) else(kn ((kind,size,i64.wrap (i+1))))) else(kn ((kind,size,i64.wrap (i+1))))))))) else(kn ((kind,size,i64.wrap (i+1))))) else(kn ((kind,size,i64.wrap (i+1))))) else(kn ((kind,size,i64.wrap (i+1)))))))) else(ke ((kind,size,i)))
def M.Nj(s':aC)(at':Int)(x':au)(s:Int×Int×Int):=M.Dc s' at' x' s (λs=>some (Sum.inl s)) λt=>some (Sum.inr t)
def M.LV(s':aC)(at':Int)(x':au)(s:Int×Int×Int):Option (Int×Int×Int):=fF (M.Nj s' at' x') s
def F.LV:LE X0 197:=le 5 (Gz [eP 0 pS,eP 1 pI,eP 6 pI,eP 7 pI,eP 8 (pO 300000 0),eP 9 pI] [eP 300000 (cA false true 0 1)]) (λx=>(x.1.2.2.1,x.1.2.2.2.1,x.1.2.2.2.2.2.1)) (λx s=>((x.1.1,x.1.2.1,s.1,s.2.1,(),s.2.2,()),(x.2.1,()))) (λx=> .leaf (Int×Int×Int) (λt=>(Ex.exit 0,{tm:=[(0,V.d (D.str x.1.1)),(1,V.d (D.int .i64 x.1.2.1)),(6,V.d (D.int .i64 t.1)),(7,V.d (D.int .i64 t.2.1)),(8,V.own 300000 0),(9,V.d (D.int .i64 t.2.2)),(15,V.d (D.bool false))],mem:=[(300000,Cell.arr false true 0 1 x.2.1)]}))) (λx=>M.Dc x.1.1 x.1.2.1 x.2.1) [] [] (by rintro _ _ ⟨_,_,_⟩ _ _<;>simp only[M.Dc,nb]<;>rfl)
def M.NS{R:Type}(s':aC)(at':Int)(k:Int×Int->Option R):Option R:=
 M.um.bind λaOB=>
 ((M.LV s' at' aOB ((0,0,0))).bind λaz7=>(k ((az7.1,az7.2.1))))
def M.qF(s':aC)(at':Int):Option (Int×Int):=M.NS s' at' some
def C.qF:S.qF.ok X0 λx=>M.qF x.1.1 x.1.2.1:=fnS (λx=>M.NS x.1.1 x.1.2.1) [fe C.um] [F.LV] (by intros;simp only[M.NS,nb]<;>rfl)
def M.FB{R:Type}(a:Int)(a1:aC)(a2 b:Int)(b1:aC)(b2:Int)(k:Bool->Option R):Option R:=
 bif a1==[] then(k false) else
 (bif b1==[] then(k false) else
 (bif a==2 then(k false) else
 (bif a==1 then(k false) else
 (bif b==1 then(k false) else
 ((idx b1 0).bind λanJ=>
 ((idx a1 (i64.wrap ((↑a1.length:Int) - 1))).bind λaOC=>
 ((M.jD (i64.wrap (↑aOC.toNat:Int))).bind λaOD=>
 (bif aOD then
 ((M.jD (i64.wrap (↑anJ.toNat:Int))).bind λaOE=>
 (bif aOE then(k true) else
 (bif a==3 then
 ((M.jD (i64.wrap (↑anJ.toNat:Int))).bind λaOF=>
 (bif aOF then(k true) else
 (bif i64.wrap (↑anJ.toNat:Int)==46 then(k true) else
 (bif a==6 then
 (bif b==32 then(k true) else
 (bif(a1.length+b1.length).ble 9223372036854775807 then
 ((M.qF (a1++b1) 0).bind λaOG=>
 ((M.dh a 30 68).bind λaOH=>(bif aOH then(k (decide (aOG.2>(↑a1.length:Int)))) else(k false)))) else none)) else
 (bif(a1.length+b1.length).ble 9223372036854775807 then
 ((M.qF (a1++b1) 0).bind λaOI=>
 ((M.dh a 30 68).bind λaOJ=>(bif aOJ then(k (decide (aOI.2>(↑a1.length:Int)))) else(k false)))) else none))))) else
 (bif a==6 then
 (bif b==32 then(k true) else
 (bif(a1.length+b1.length).ble 9223372036854775807 then
 ((M.qF (a1++b1) 0).bind λaOK=>
 ((M.dh a 30 68).bind λaOL=>(bif aOL then(k (decide (aOK.2>(↑a1.length:Int)))) else(k false)))) else none)) else
 (bif(a1.length+b1.length).ble 9223372036854775807 then
 ((M.qF (a1++b1) 0).bind λaOM=>
 ((M.dh a 30 68).bind λaON=>(bif aON then(k (decide (aOM.2>(↑a1.length:Int)))) else(k false)))) else none))))) else
 (bif a==3 then
 ((M.jD (i64.wrap (↑anJ.toNat:Int))).bind λaOO=>
 (bif aOO then(k true) else
 (bif i64.wrap (↑anJ.toNat:Int)==46 then(k true) else
 (bif a==6 then
 (bif b==32 then(k true) else
 (bif(a1.length+b1.length).ble 9223372036854775807 then
 ((M.qF (a1++b1) 0).bind λaOP=>
 ((M.dh a 30 68).bind λaOQ=>(bif aOQ then(k (decide (aOP.2>(↑a1.length:Int)))) else(k false)))) else none)) else
 (bif(a1.length+b1.length).ble 9223372036854775807 then
 ((M.qF (a1++b1) 0).bind λaOR=>
 ((M.dh a 30 68).bind λaOS=>(bif aOS then(k (decide (aOR.2>(↑a1.length:Int)))) else(k false)))) else none))))) else
 (bif a==6 then
 (bif b==32 then(k true) else
 (bif(a1.length+b1.length).ble 9223372036854775807 then
 ((M.qF (a1++b1) 0).bind λaOT=>
 ((M.dh a 30 68).bind λaOU=>(bif aOU then(k (decide (aOT.2>(↑a1.length:Int)))) else(k false)))) else none)) else
 (bif(a1.length+b1.length).ble 9223372036854775807 then
 ((M.qF (a1++b1) 0).bind λaOV=>
 ((M.dh a 30 68).bind λaOW=>(bif aOW then(k (decide (aOV.2>(↑a1.length:Int)))) else(k false)))) else none)))))))))))
def M.qW(a:Int)(a1:aC)(a2 b:Int)(b1:aC)(b2:Int):Option (Bool):=M.FB a a1 a2 b b1 b2 some
def C.qW:S.qW.ok X0 λx=>M.qW x.1.1.1 x.1.1.2.1 x.1.1.2.2.1 x.1.2.1.1 x.1.2.1.2.1 x.1.2.1.2.2.1:=fnS (λx=>M.FB x.1.1.1 x.1.1.2.1 x.1.1.2.2.1 x.1.2.1.1 x.1.2.1.2.1 x.1.2.1.2.2.1) [fe C.jD,fe C.qF,fe C.dh] [] (by intros;unfold M.FB;repeat' first|with_reducible apply ig|with_reducible apply Ho|with_reducible apply Hq|with_reducible apply Hr|with_reducible apply Ht|(intro _)|apply ig|rfl)
def M.rC{R:Type}(dA:au->Bool->Int->Int->Bool->Bool->Bool->Bool->Option (au))(w:au)(w1:Bool)(n' gV:Int)(iU iJ:aC)(jV:au)(p:Int)(p1 p2 p3 p4:Bool)(k:au->Option R):Option R:=
 (idx jV 0).bind λauD=>
 ((eu .i64 auD 0).bind λaOX=>
 ((M.fD n' gV iU iJ jV 0 p p1 p2 p3 p4).bind λanK=>
 ((dA w w1 aOX anK.1 anK.2.1 anK.2.2.1 anK.2.2.2.1 anK.2.2.2.2).bind λaqw=>
 ((idx jV 1).bind λauE=>
 ((eu .i64 auE 0).bind λaOY=>
 ((M.fD n' gV iU iJ jV 1 p p1 p2 p3 p4).bind λanL=>
 ((dA w w1 aOY anL.1 anL.2.1 anL.2.2.1 anL.2.2.2.1 anL.2.2.2.2).bind λaqx=>
 (bif gV==99 then
 ((M.eX [32]).bind λaOZ=>
 ((M.dR 6 0 (dI [[D.sl true 4 aqw],[D.sl true 4 aOZ],[D.sl true 4 aqx]])).bind λaz8=>(bif[[D.sl true 4 az8]].all jk then(k az8) else none))) else
 (bif gV==45 then
 ((M.iZ gV).bind λaz9=>
 (bif(1+az9.length).ble 9223372036854775807 then
 ((M.eX ([32]++az9)).bind λaO0=>
 (M.oK.bind λaO1=>
 ((M.dR 6 0 (dI [[D.sl true 4 aqw],[D.sl true 4 aO0],[D.sl true 4 aO1],[D.sl true 4 aqx]])).bind λaAa=>
 (bif[[D.sl true 4 aAa]].all jk then
 ((M.dR 4 4 (dI [[D.sl true 4 aAa]])).bind λaAb=>
 (bif[[D.sl true 4 aAb]].all jk then
 ((M.dR 5 0 (dI [[D.sl true 4 aAb]])).bind λaAc=>(bif[[D.sl true 4 aAc]].all jk then(k aAc) else none)) else none)) else none)))) else none)) else
 (bif gV==44 then
 ((M.iZ gV).bind λaAd=>
 (bif(1+aAd.length).ble 9223372036854775807 then
 ((M.eX ([32]++aAd)).bind λaO2=>
 (M.oK.bind λaO3=>
 ((M.dR 6 0 (dI [[D.sl true 4 aqw],[D.sl true 4 aO2],[D.sl true 4 aO3],[D.sl true 4 aqx]])).bind λaAe=>
 (bif[[D.sl true 4 aAe]].all jk then
 ((M.dR 4 4 (dI [[D.sl true 4 aAe]])).bind λaAf=>
 (bif[[D.sl true 4 aAf]].all jk then
 ((M.dR 5 0 (dI [[D.sl true 4 aAf]])).bind λaAg=>(bif[[D.sl true 4 aAg]].all jk then(k aAg) else none)) else none)) else none)))) else none)) else
 ((M.iZ gV).bind λauF=>
 (bif(1+auF.length).ble 9223372036854775807 then
 (bif(([32]++auF).length+1).ble 9223372036854775807 then
 ((M.eX ([32]++auF++[32])).bind λaO4=>
 ((M.dR 6 0 (dI [[D.sl true 4 aqw],[D.sl true 4 aO4],[D.sl true 4 aqx]])).bind λaAh=>(bif[[D.sl true 4 aAh]].all jk then(k aAh) else none))) else none) else none))))))))))))
def C.aa2{dA:au->Bool->Int->Int->Bool->Bool->Bool->Bool->Option (au)}(Ai:S.l9.ok X0 λx=>dA x.1.1.1 x.1.1.2.1 x.1.2.1 x.1.2.2.1.1 x.1.2.2.1.2.1 x.1.2.2.1.2.2.1 x.1.2.2.1.2.2.2.1 x.1.2.2.1.2.2.2.2.1):S.CX.ok X0 λx=>M.rC dA x.1.1.1 x.1.1.2.1 x.1.2.1.1 x.1.2.1.2.1 x.1.2.1.2.2.1 x.1.2.1.2.2.2.1 x.1.2.1.2.2.2.2.1 x.1.2.2.1.1 x.1.2.2.1.2.1 x.1.2.2.1.2.2.1 x.1.2.2.1.2.2.2.1 x.1.2.2.1.2.2.2.2.1 some:=fnS (λx=>M.rC dA x.1.1.1 x.1.1.2.1 x.1.2.1.1 x.1.2.1.2.1 x.1.2.1.2.2.1 x.1.2.1.2.2.2.1 x.1.2.1.2.2.2.2.1 x.1.2.2.1.1 x.1.2.2.1.2.1 x.1.2.2.1.2.2.1 x.1.2.2.1.2.2.2.1 x.1.2.2.1.2.2.2.2.1) [fe C.fD,fe Ai,fe C.eX,fe C.dR,fe C.iZ,fe C.oK] [] (by intros;unfold M.rC;repeat' first|with_reducible apply ig|with_reducible apply Ho|with_reducible apply Hq|with_reducible apply Hr|with_reducible apply Ht|(intro _)|apply ig|rfl)
def M.fZ{R:Type}(oP:au->Bool->Int->Int->aC->aC->au->aC->aC->Option (au))(nI:au->Bool->Int->Option (au))(dA:au->Bool->Int->Int->Bool->Bool->Bool->Bool->Option (au))(jW:au->Bool->au->Int->Bool->Bool->Bool->Bool->Option (au))(AX:au->Bool->Int->Int->aC->aC->au->Int->Bool->Bool->Bool->Bool->Option (au))(w:au)(w1:Bool)(i p:Int)(p1 p2 p3 p4:Bool)(k:au->Option R):Option R:=
 (idx w i).bind λauG=>
 (rJ 1 auG λn324 n325 Qs VI lH=>
 ((M.dL n324 n325 Qs VI lH).bind λaAi=>
 (bif aAi.1 !=0 then((M.eX aAi.2.1).bind λaO5=>(k aO5)) else
 (bif n324==5 then((oP w w1 n324 n325 Qs VI lH [91] [93]).bind λaO6=>(k aO6)) else
 (bif n324==7 then((oP w w1 n324 n325 Qs VI lH [40] [41]).bind λaO7=>(k aO7)) else
 (bif n324==8 then((oP w w1 n324 n325 Qs VI lH [40] [41]).bind λaO8=>(k aO8)) else
 (bif n324==9 then
 ((M.iZ n325).bind λaO9=>
 ((M.eX aO9).bind λaPa=>
 ((idx lH 0).bind λauH=>
 ((eu .i64 auH 0).bind λaPb=>
 ((nI w w1 aPb).bind λaPc=>
 ((M.dR 6 0 (dI [[D.sl true 4 aPa],[D.sl true 4 aPc]])).bind λaAj=>(bif[[D.sl true 4 aAj]].all jk then(k aAj) else none))))))) else
 (bif n324==10 then
 ((idx lH 0).bind λauI=>
 ((eu .i64 auI 0).bind λaPd=>
 ((nI w w1 aPd).bind λaPe=>
 ((M.iZ n325).bind λaPf=>
 ((M.eX aPf).bind λaPg=>
 ((M.dR 6 0 (dI [[D.sl true 4 aPe],[D.sl true 4 aPg]])).bind λaAk=>(bif[[D.sl true 4 aAk]].all jk then(k aAk) else none))))))) else
 (bif n324==6 then
 ((M.eX [36]).bind λaPh=>
 ((idx lH 0).bind λauJ=>
 ((eu .i64 auJ 0).bind λaPi=>
 ((M.fD n324 n325 Qs VI lH 0 p p1 p2 p3 p4).bind λr400=>
 ((dA w w1 aPi r400.1 r400.2.1 r400.2.2.1 r400.2.2.2.1 r400.2.2.2.2).bind λaPj=>
 ((M.dR 6 0 (dI [[D.sl true 4 aPh],[D.sl true 4 aPj]])).bind λaAl=>(bif[[D.sl true 4 aAl]].all jk then(k aAl) else none))))))) else
 (bif n324==15 then
 ((idx lH 0).bind λauK=>
 ((eu .i64 auK 0).bind λaPk=>
 ((nI w w1 aPk).bind λaPl=>
 ((M.iZ n325).bind λauL=>
 (bif(1+auL.length).ble 9223372036854775807 then
 (bif(([32]++auL).length+1).ble 9223372036854775807 then
 ((M.eX ([32]++auL++[32])).bind λaPm=>
 ((idx lH 1).bind λauM=>
 ((eu .i64 auM 0).bind λaPn=>
 ((M.fD n324 n325 Qs VI lH 1 p p1 p2 p3 p4).bind λanM=>
 ((dA w w1 aPn anM.1 anM.2.1 anM.2.2.1 anM.2.2.2.1 anM.2.2.2.2).bind λaPo=>
 ((M.dR 6 0 (dI [[D.sl true 4 aPl],[D.sl true 4 aPm],[D.sl true 4 aPo]])).bind λaAm=>(bif[[D.sl true 4 aAm]].all jk then(k aAm) else none))))))) else none) else none))))) else
 (bif n324==11 then
 ((M.iZ n325).bind λr413=>
 ((M.dV n325).bind λauN=>
 ((idx lH 0).bind λauO=>
 ((eu .i64 auO 0).bind λaPp=>
 ((M.fD n324 n325 Qs VI lH 0 p p1 p2 p3 p4).bind λanN=>
 ((M.oL w w1 aPp anN.1 anN.2.1 anN.2.2.1 anN.2.2.2.1 anN.2.2.2.2).bind λaAn=>
 ((idx aAn 0).bind λaPq=>
 (aAn[0]?.bind λajr=>
 ((eu .i64 ajr 0).bind λaPr=>
 ((cStr ajr 1).bind λaPs=>
 ((eu .i64 ajr 2).bind λaPt=>
 ((M.qW auN.1 auN.2.1 auN.2.2 aPr aPs aPt).bind λaPu=>
 (bif aPu then
 (bif(r413.length+1).ble 9223372036854775807 then
 ((M.eX (r413++[32])).bind λaPv=>
 ((idx lH 0).bind λauP=>
 ((eu .i64 auP 0).bind λaPw=>
 ((M.fD n324 n325 Qs VI lH 0 p p1 p2 p3 p4).bind λanO=>
 ((dA w w1 aPw anO.1 anO.2.1 anO.2.2.1 anO.2.2.2.1 anO.2.2.2.2).bind λaPx=>
 ((M.dR 6 0 (dI [[D.sl true 4 aPv],[D.sl true 4 aPx]])).bind λaAo=>(bif[[D.sl true 4 aAo]].all jk then(k aAo) else none))))))) else none) else
 ((M.eX r413).bind λaPy=>
 ((idx lH 0).bind λauQ=>
 ((eu .i64 auQ 0).bind λaPz=>
 ((M.fD n324 n325 Qs VI lH 0 p p1 p2 p3 p4).bind λanP=>
 ((dA w w1 aPz anP.1 anP.2.1 anP.2.2.1 anP.2.2.2.1 anP.2.2.2.2).bind λaPA=>
 ((M.dR 6 0 (dI [[D.sl true 4 aPy],[D.sl true 4 aPA]])).bind λaAp=>(bif[[D.sl true 4 aAp]].all jk then(k aAp) else none)))))))))))))))))))) else
 (bif n324==14 then
 ((idx lH 0).bind λauR=>
 ((eu .i64 auR 0).bind λaPB=>
 ((M.fD n324 n325 Qs VI lH 0 p p1 p2 p3 p4).bind λanQ=>
 ((dA w w1 aPB anQ.1 anQ.2.1 anQ.2.2.1 anQ.2.2.2.1 anQ.2.2.2.2).bind λaPC=>
 ((M.eX [32,63,32]).bind λaPD=>
 ((idx lH 1).bind λauS=>
 ((eu .i64 auS 0).bind λaPE=>
 ((M.fD n324 n325 Qs VI lH 1 p p1 p2 p3 p4).bind λanR=>
 ((dA w w1 aPE anR.1 anR.2.1 anR.2.2.1 anR.2.2.2.1 anR.2.2.2.2).bind λaPF=>
 ((M.eX [32,58,32]).bind λaPG=>
 ((idx lH 2).bind λauT=>
 ((eu .i64 auT 0).bind λaPH=>
 ((M.fD n324 n325 Qs VI lH 2 p p1 p2 p3 p4).bind λanS=>
 ((dA w w1 aPH anS.1 anS.2.1 anS.2.2.1 anS.2.2.2.1 anS.2.2.2.2).bind λaPI=>
 ((M.dR 6 0 (dI [[D.sl true 4 aPC],[D.sl true 4 aPD],[D.sl true 4 aPF],[D.sl true 4 aPG],[D.sl true 4 aPI]])).bind λaAq=>(bif[[D.sl true 4 aAq]].all jk then(k aAq) else none)))))))))))))))) else
 (bif n324==13 then
 (bif(↑lH.length:Int)==1 then
 ((idx lH 0).bind λauU=>
 ((eu .i64 auU 0).bind λaPJ=>
 ((M.fD n324 n325 Qs VI lH 0 p p1 p2 p3 p4).bind λanT=>
 ((dA w w1 aPJ anT.1 anT.2.1 anT.2.2.1 anT.2.2.2.1 anT.2.2.2.2).bind λaPK=>
 (bif(4+Qs.length).ble 9223372036854775807 then
 ((M.eX ([32,105,110,32]++Qs)).bind λaPL=>
 ((M.dR 6 0 (dI [[D.sl true 4 aPK],[D.sl true 4 aPL]])).bind λaAr=>(bif[[D.sl true 4 aAr]].all jk then(k aAr) else none))) else none))))) else
 ((M.eX [40]).bind λaPM=>
 (M.jL.bind λanU=>
 ((jW w w1 lH anU.1 anU.2.1 anU.2.2.1 anU.2.2.2.1 anU.2.2.2.2).bind λaPN=>
 (bif(5+Qs.length).ble 9223372036854775807 then
 ((M.eX ([41,32,105,110,32]++Qs)).bind λaPO=>
 ((M.dR 6 0 (dI [[D.sl true 4 aPM],[D.sl true 4 aPN],[D.sl true 4 aPO]])).bind λaAs=>(bif[[D.sl true 4 aAs]].all jk then(k aAs) else none))) else none))))) else
 ((AX w w1 n324 n325 Qs VI lH p p1 p2 p3 p4).bind λaPP=>(k aPP)))))))))))))))
def C.Y2{oP:au->Bool->Int->Int->aC->aC->au->aC->aC->Option (au)}{nI:au->Bool->Int->Option (au)}{dA:au->Bool->Int->Int->Bool->Bool->Bool->Bool->Option (au)}{jW:au->Bool->au->Int->Bool->Bool->Bool->Bool->Option (au)}{AX:au->Bool->Int->Int->aC->aC->au->Int->Bool->Bool->Bool->Bool->Option (au)}(Y3:S.yh.ok X0 λx=>oP x.1.1.1 x.1.1.2.1 x.1.2.1.1 x.1.2.1.2.1 x.1.2.1.2.2.1 x.1.2.1.2.2.2.1 x.1.2.1.2.2.2.2.1 x.1.2.2.1 x.1.2.2.2.1)(Xt:S.uT.ok X0 λx=>nI x.1.1.1 x.1.1.2.1 x.1.2.1)(Ai:S.l9.ok X0 λx=>dA x.1.1.1 x.1.1.2.1 x.1.2.1 x.1.2.2.1.1 x.1.2.2.1.2.1 x.1.2.2.1.2.2.1 x.1.2.2.1.2.2.2.1 x.1.2.2.1.2.2.2.2.1)(MW:S.wO.ok X0 λx=>jW x.1.1.1 x.1.1.2.1 x.1.2.1 x.1.2.2.1.1 x.1.2.2.1.2.1 x.1.2.2.1.2.2.1 x.1.2.2.1.2.2.2.1 x.1.2.2.1.2.2.2.2.1)(acA:S.CX.ok X0 λx=>AX x.1.1.1 x.1.1.2.1 x.1.2.1.1 x.1.2.1.2.1 x.1.2.1.2.2.1 x.1.2.1.2.2.2.1 x.1.2.1.2.2.2.2.1 x.1.2.2.1.1 x.1.2.2.1.2.1 x.1.2.2.1.2.2.1 x.1.2.2.1.2.2.2.1 x.1.2.2.1.2.2.2.2.1):S.wR.ok X0 λx=>M.fZ oP nI dA jW AX x.1.1.1 x.1.1.2.1 x.1.2.1 x.1.2.2.1.1 x.1.2.2.1.2.1 x.1.2.2.1.2.2.1 x.1.2.2.1.2.2.2.1 x.1.2.2.1.2.2.2.2.1 some:=fnS (λx=>M.fZ oP nI dA jW AX x.1.1.1 x.1.1.2.1 x.1.2.1 x.1.2.2.1.1 x.1.2.2.1.2.1 x.1.2.2.1.2.2.1 x.1.2.2.1.2.2.2.1 x.1.2.2.1.2.2.2.2.1) [fe C.dL,fe C.eX,fe Y3,fe C.iZ,fe Xt,fe C.dR,fe C.fD,fe Ai,fe C.dV,fe C.oL,fe C.qW,fe C.jL,fe MW,fe acA] [] (by intros;simp only[M.fZ,rJ];repeat' first|with_reducible apply ig|with_reducible apply Ho|with_reducible apply Hq|with_reducible apply Hr|with_reducible apply Ht|(intro _)|apply ig|rfl)
def M.D7{R:Type}(jF:au->Bool->Int->Int->Bool->Bool->Bool->Bool->Option (au))(w:au)(w1:Bool)(i p:Int)(p1 p2 p3 p4:Bool)(k:au->Option R):Option R:=
 (idx w i).bind λauV=>
 (rJ 1 auV λn289 n290 aPQ aPR aqy=>
 ((M.Bj n289 n290 aPQ aPR aqy p p1 p2 p3 p4).bind λaPS=>
 (bif aPS then((jF w w1 i p p1 p2 p3 p4).bind λaPT=>(k aPT)) else
 ((M.eX [40]).bind λaPU=>
 (M.jL.bind λanV=>
 ((jF w w1 i anV.1 anV.2.1 anV.2.2.1 anV.2.2.2.1 anV.2.2.2.2).bind λaPV=>
 ((M.eX [41]).bind λaPW=>
 ((M.dR 6 0 (dI [[D.sl true 4 aPU],[D.sl true 4 aPV],[D.sl true 4 aPW]])).bind λaAt=>(bif[[D.sl true 4 aAt]].all jk then(k aAt) else none)))))))))
def C.acB{jF:au->Bool->Int->Int->Bool->Bool->Bool->Bool->Option (au)}(MX:S.wR.ok X0 λx=>jF x.1.1.1 x.1.1.2.1 x.1.2.1 x.1.2.2.1.1 x.1.2.2.1.2.1 x.1.2.2.1.2.2.1 x.1.2.2.1.2.2.2.1 x.1.2.2.1.2.2.2.2.1):S.l9.ok X0 λx=>M.D7 jF x.1.1.1 x.1.1.2.1 x.1.2.1 x.1.2.2.1.1 x.1.2.2.1.2.1 x.1.2.2.1.2.2.1 x.1.2.2.1.2.2.2.1 x.1.2.2.1.2.2.2.2.1 some:=fnS (λx=>M.D7 jF x.1.1.1 x.1.1.2.1 x.1.2.1 x.1.2.2.1.1 x.1.2.2.1.2.1 x.1.2.2.1.2.2.1 x.1.2.2.1.2.2.2.1 x.1.2.2.1.2.2.2.2.1) [fe C.Bj,fe MX,fe C.eX,fe C.jL,fe C.dR] [] (by intros;simp only[M.D7,rJ];repeat' first|with_reducible apply ig|with_reducible apply Ho|with_reducible apply Hq|with_reducible apply Hr|with_reducible apply Ht|(intro _)|apply ig|rfl)
def M.kP:Nat->(au->Bool->Int->Int->Bool->Bool->Bool->Bool->Option (au))×(au->Bool->au->Int->Bool->Bool->Bool->Bool->Option (au))×(au->Bool->Int->Int->aC->aC->au->aC->aC->Option (au))×(au->Bool->Int->Option (au))×(au->Bool->Int->Int->aC->aC->au->Int->Bool->Bool->Bool->Bool->Option (au))×(au->Bool->Int->Int->Bool->Bool->Bool->Bool->Option (au)):=
 Nat.rec (λ_ _ _ _ _ _ _ _=>none,λ_ _ _ _ _ _ _ _=>none,λ_ _ _ _ _ _ _ _ _=>none,λ_ _ _=>none,λ_ _ _ _ _ _ _ _ _ _ _ _=>none,λ_ _ _ _ _ _ _ _=>none) λ_ qz=>(λw w1 i p p1 p2 p3 p4=>M.D7 qz.2.2.2.2.2 w w1 i p p1 p2 p3 p4 some,λw w1 kids p p1 p2 p3 p4=>M.yV qz.1 w w1 kids p p1 p2 p3 p4 some,λw w1 n' gV iU iJ jV open' end'=>M.wz qz.2.1 w w1 n' gV iU iJ jV open' end' some,λw w1 i=>M.uO qz.2.2.2.2.2 w w1 i some,λw w1 n' gV iU iJ jV p p1 p2 p3 p4=>M.rC qz.1 w w1 n' gV iU iJ jV p p1 p2 p3 p4 some,λw w1 i p p1 p2 p3 p4=>M.fZ qz.2.2.1 qz.2.2.2.1 qz.1 qz.2.1 qz.2.2.2.2.1 w w1 i p p1 p2 p3 p4 some)
def M.oQ(n:Nat):au->Bool->Int->Int->Bool->Bool->Bool->Bool->Option (au):=(M.kP n).1
def M.y7(n:Nat):au->Bool->au->Int->Bool->Bool->Bool->Bool->Option (au):=(M.kP n).2.1
def M.AY(n:Nat):au->Bool->Int->Int->aC->aC->au->aC->aC->Option (au):=(M.kP n).2.2.1
def M.y8(n:Nat):au->Bool->Int->Option (au):=(M.kP n).2.2.2.1
def M.ET(n:Nat):au->Bool->Int->Int->aC->aC->au->Int->Bool->Bool->Bool->Bool->Option (au):=(M.kP n).2.2.2.2.1
def M.y9(n:Nat):au->Bool->Int->Int->Bool->Bool->Bool->Bool->Option (au):=(M.kP n).2.2.2.2.2
def M.aeM(n:Nat):M.oQ (n+1)=λw w1 i p p1 p2 p3 p4=>M.D7 (M.y9 n) w w1 i p p1 p2 p3 p4 some:=rfl
def M.aa3(n:Nat):M.y7 (n+1)=λw w1 kids p p1 p2 p3 p4=>M.yV (M.oQ n) w w1 kids p p1 p2 p3 p4 some:=rfl
def M.Y4(n:Nat):M.AY (n+1)=λw w1 n' gV iU iJ jV open' end'=>M.wz (M.y7 n) w w1 n' gV iU iJ jV open' end' some:=rfl
def M.Xu(n:Nat):M.y8 (n+1)=λw w1 i=>M.uO (M.y9 n) w w1 i some:=rfl
def M.acC(n:Nat):M.ET (n+1)=λw w1 n' gV iU iJ jV p p1 p2 p3 p4=>M.rC (M.oQ n) w w1 n' gV iU iJ jV p p1 p2 p3 p4 some:=rfl
def M.aa4(n:Nat):M.y9 (n+1)=λw w1 i p p1 p2 p3 p4=>M.fZ (M.AY n) (M.y8 n) (M.oQ n) (M.y7 n) (M.ET n) w w1 i p p1 p2 p3 p4 some:=rfl
def M.l9(w:au)(w1:Bool)(i p:Int)(p1 p2 p3 p4:Bool):Option (au):=lim λn=>M.oQ n w w1 i p p1 p2 p3 p4
def M.wO(w:au)(w1:Bool)(kids:au)(p:Int)(p1 p2 p3 p4:Bool):Option (au):=lim λn=>M.y7 n w w1 kids p p1 p2 p3 p4
def M.yh(w:au)(w1:Bool)(n' gV:Int)(iU iJ:aC)(jV:au)(open' end':aC):Option (au):=lim λn=>M.AY n w w1 n' gV iU iJ jV open' end'
def M.uT(w:au)(w1:Bool)(i:Int):Option (au):=lim λn=>M.y8 n w w1 i
def M.CX(w:au)(w1:Bool)(n' gV:Int)(iU iJ:aC)(jV:au)(p:Int)(p1 p2 p3 p4:Bool):Option (au):=lim λn=>M.ET n w w1 n' gV iU iJ jV p p1 p2 p3 p4
def M.wR(w:au)(w1:Bool)(i p:Int)(p1 p2 p3 p4:Bool):Option (au):=lim λn=>M.y9 n w w1 i p p1 p2 p3 p4
def C.kP:∀n,(S.l9.ok X0 λx=>M.oQ n x.1.1.1 x.1.1.2.1 x.1.2.1 x.1.2.2.1.1 x.1.2.2.1.2.1 x.1.2.2.1.2.2.1 x.1.2.2.1.2.2.2.1 x.1.2.2.1.2.2.2.2.1)∧(S.wO.ok X0 λx=>M.y7 n x.1.1.1 x.1.1.2.1 x.1.2.1 x.1.2.2.1.1 x.1.2.2.1.2.1 x.1.2.2.1.2.2.1 x.1.2.2.1.2.2.2.1 x.1.2.2.1.2.2.2.2.1)∧(S.yh.ok X0 λx=>M.AY n x.1.1.1 x.1.1.2.1 x.1.2.1.1 x.1.2.1.2.1 x.1.2.1.2.2.1 x.1.2.1.2.2.2.1 x.1.2.1.2.2.2.2.1 x.1.2.2.1 x.1.2.2.2.1)∧(S.uT.ok X0 λx=>M.y8 n x.1.1.1 x.1.1.2.1 x.1.2.1)∧(S.CX.ok X0 λx=>M.ET n x.1.1.1 x.1.1.2.1 x.1.2.1.1 x.1.2.1.2.1 x.1.2.1.2.2.1 x.1.2.1.2.2.2.1 x.1.2.1.2.2.2.2.1 x.1.2.2.1.1 x.1.2.2.1.2.1 x.1.2.2.1.2.2.1 x.1.2.2.1.2.2.2.1 x.1.2.2.1.2.2.2.2.1)∧(S.wR.ok X0 λx=>M.y9 n x.1.1.1 x.1.1.2.1 x.1.2.1 x.1.2.2.1.1 x.1.2.2.1.2.1 x.1.2.2.1.2.2.1 x.1.2.2.1.2.2.2.1 x.1.2.2.1.2.2.2.2.1)
 |0=>⟨gq.zero,gq.zero,gq.zero,gq.zero,gq.zero,gq.zero⟩
 |n+1=>have h:=C.kP n;⟨C.acB h.2.2.2.2.2,C.YU h.1,C.Xn h.2.1,C.VG h.2.2.2.2.2,C.aa2 h.1,C.Y2 h.2.2.1 h.2.2.2.1 h.1 h.2.1 h.2.2.2.2.1⟩
def C.l9:S.l9.ok X0 λx=>M.l9 x.1.1.1 x.1.1.2.1 x.1.2.1 x.1.2.2.1.1 x.1.2.2.1.2.1 x.1.2.2.1.2.2.1 x.1.2.2.1.2.2.2.1 x.1.2.2.1.2.2.2.2.1:=gq.lim λn=>(C.kP n).1
def M.acD{n:Nat}{w:au}{w1:Bool}{i p:Int}{p1 p2 p3 p4:Bool}{r:au}(h:M.oQ n w w1 i p p1 p2 p3 p4=some r):M.l9 w w1 i p p1 p2 p3 p4=some r:=
 gq.Hl (λn=>(C.kP n).1) (by intro a b h;simp[S.l9,sg] at h;first|exact h|simp[Prod.ext_iff,h]) (x:=(((w,w1,()),i,(p,p1,p2,p3,p4,()),()),())) h
def C.wO:S.wO.ok X0 λx=>M.wO x.1.1.1 x.1.1.2.1 x.1.2.1 x.1.2.2.1.1 x.1.2.2.1.2.1 x.1.2.2.1.2.2.1 x.1.2.2.1.2.2.2.1 x.1.2.2.1.2.2.2.2.1:=gq.lim λn=>(C.kP n).2.1
def C.yh:S.yh.ok X0 λx=>M.yh x.1.1.1 x.1.1.2.1 x.1.2.1.1 x.1.2.1.2.1 x.1.2.1.2.2.1 x.1.2.1.2.2.2.1 x.1.2.1.2.2.2.2.1 x.1.2.2.1 x.1.2.2.2.1:=gq.lim λn=>(C.kP n).2.2.1
def C.uT:S.uT.ok X0 λx=>M.uT x.1.1.1 x.1.1.2.1 x.1.2.1:=gq.lim λn=>(C.kP n).2.2.2.1
def C.CX:S.CX.ok X0 λx=>M.CX x.1.1.1 x.1.1.2.1 x.1.2.1.1 x.1.2.1.2.1 x.1.2.1.2.2.1 x.1.2.1.2.2.2.1 x.1.2.1.2.2.2.2.1 x.1.2.2.1.1 x.1.2.2.1.2.1 x.1.2.2.1.2.2.1 x.1.2.2.1.2.2.2.1 x.1.2.2.1.2.2.2.2.1:=gq.lim λn=>(C.kP n).2.2.2.2.1
def C.wR:S.wR.ok X0 λx=>M.wR x.1.1.1 x.1.1.2.1 x.1.2.1 x.1.2.2.1.1 x.1.2.2.1.2.1 x.1.2.2.1.2.2.1 x.1.2.2.1.2.2.2.1 x.1.2.2.1.2.2.2.2.1:=gq.lim λn=>(C.kP n).2.2.2.2.2
def C.jB:S.jB.ok X0 λx=>M.jB x.1.1:=gq.Qu (p:=Prim.jB)
def M.Ip{R:Type}(l:au)(k:Bool->Option R):Option R:=
 (M.jB l).bind λaPX=>(k aPX.2)
def M.wS(l:au):Option (Bool):=M.Ip l some
def C.wS:S.wS.ok X0 λx=>M.wS x.1.1:=fnS (λx=>M.Ip x.1.1) [fe C.jB] [] (by intros;simp only[M.Ip,nb]<;>rfl)
def M.uJ{R:Type}(n' low high:Int)(k:Bool->Option R):Option R:=
 bif decide (n'>=low) then(k (decide (n'<=high))) else(k false)
def M.cO(n' low high:Int):Option (Bool):=M.uJ n' low high some
def C.cO:S.cO.ok X0 λx=>M.cO x.1.1 x.1.2.1 x.1.2.2.1:=fnS (λx=>M.uJ x.1.1 x.1.2.1 x.1.2.2.1) [] [] (by intros;simp only[M.uJ,nb]<;>rfl)
def M.bQ{R:Type}(kind:Int)(k:Bool->Option R):Option R:=
 (M.cO kind 1 15).bind λaPY=>(k aPY)
def M.bG(kind:Int):Option (Bool):=M.bQ kind some
def C.bG:S.bG.ok X0 λx=>M.bG x.1.1:=fnS (λx=>M.bQ x.1.1) [fe C.cO] [] (by intros;simp only[M.bQ,nb]<;>rfl)
def M.FC{R:Type}(b:Int)(k:Bool->Option R):Option R:=
 bif decide (b>=97) then
 (bif decide (b<=122) then(k true) else
 (bif decide (b>=65) then(bif decide (b<=90) then(k true) else(k (b==95))) else(k (b==95)))) else
 (bif decide (b>=65) then(bif decide (b<=90) then(k true) else(k (b==95))) else(k (b==95)))
def M.oz(b:Int):Option (Bool):=M.FC b some
def C.oz:S.oz.ok X0 λx=>M.oz x.1.1:=fnS (λx=>M.FC x.1.1) [] [] (by intros;simp only[M.FC,nb]<;>rfl)
def M.Iq{R:Type}(b:Int)(k:Bool->Option R):Option R:=
 bif decide (b>=48) then(k (decide (b<=57))) else(k false)
def M.qX(b:Int):Option (Bool):=M.Iq b some
def C.qX:S.qX.ok X0 λx=>M.qX x.1.1:=fnS (λx=>M.Iq x.1.1) [] [] (by intros;simp only[M.Iq,nb]<;>rfl)
def M.BR{R:Type}(b:Int)(k:Bool->Option R):Option R:=
 (M.oz b).bind λaPZ=>(bif aPZ then(k true) else((M.qX b).bind λaP0=>(k aP0)))
def M.jE(b:Int):Option (Bool):=M.BR b some
def C.jE:S.jE.ok X0 λx=>M.jE x.1.1:=fnS (λx=>M.BR x.1.1) [fe C.oz,fe C.qX] [] (by intros;simp only[M.BR,nb]<;>rfl)
def M.tN{R:Type}(s':aC)(v5 s:Int)(kn:Int->Option R)(ke:(Unit)⊕(Int)->Option R):Option R:=match s with
 |v6=>
 bif decide (v6<v5) then
 ((idx s' v6).bind λaP1=>
 ((M.jE (i64.wrap (↑aP1.toNat:Int))).bind λaP2=>(bif !aP2 then(ke (.inl ())) else(kn (i64.wrap (v6+1)))))) else(ke (.inr v6))
def M.yG(s':aC)(v5 s:Int):=M.tN s' v5 s (λs=>some (Sum.inl s)) λt=>some (Sum.inr t)
def M.BU(s':aC)(v5 s:Int):Option ((Unit)⊕(Int)):=fF (M.yG s' v5) s
def F.BU:LE X0 200:=le 2 (Gz [eP 0 pS,eP 5 pI,eP 6 pI] []) (λx=>x.1.2.2.1) (λx s=>((x.1.1,x.1.2.1,s,()),())) (λx=> .sum (.leaf (Unit) (λt=>(Ex.ret,{tm:=[(2,V.d (D.bool false))],mem:=[]}))) (.leaf (Int) (λt=>(Ex.exit 0,{tm:=[(0,V.d (D.str x.1.1)),(5,V.d (D.int .i64 x.1.2.1)),(6,V.d (D.int .i64 t)),(7,V.d (D.bool false))],mem:=[]})))) (λx=>M.tN x.1.1 x.1.2.1) [fe C.jE] [] (by rintro _ _ _ _ _<;>simp only[M.tN,nb]<;>rfl)
def M.D8{R:Type}(s':aC)(k:Bool->Option R):Option R:=
 (M.BU s' ((↑s'.length:Int)) 0).bind λaP3=>
 nX aP3 (λaRN=>(k false)) λaP4=>
 letE aP4 λaRO=>
 ((M.cO ((↑s'.length:Int)) 1 12).bind λaP5=>
 (bif aP5 then
 ((idx s' 0).bind λaP6=>((M.oz (i64.wrap (↑aP6.toNat:Int))).bind λaP7=>(k aP7))) else(k false)))
def M.rP(s':aC):Option (Bool):=M.D8 s' some
def C.rP:S.rP.ok X0 λx=>M.rP x.1.1:=fnS (λx=>M.D8 x.1.1) [fe C.cO,fe C.oz] [F.BU] (by intros;simp only[M.D8,nb]<;>rfl)
def M.xC{R:Type}(s':au)(v:aC)(v7 s:Int)(kn:Int->Option R)(ke:(Int)⊕(Int)->Option R):Option R:=match s with
 |v8=>
 bif decide (v8<v7) then
 ((idx s' v8).bind λauW=>
 ((cStr auW 0).bind λaP8=>(bif v==aP8 then(ke (.inl v8)) else(kn (i64.wrap (v8+1)))))) else(ke (.inr v8))
def M.BX(s':au)(v:aC)(v7 s:Int):=M.xC s' v v7 s (λs=>some (Sum.inl s)) λt=>some (Sum.inr t)
def M.FD(s':au)(v:aC)(v7 s:Int):Option ((Int)⊕(Int)):=fF (M.BX s' v v7) s
def F.FD:LE X0 206:=le 2 (Gz [eP 0 (pL false 1),eP 1 pS,eP 7 pI,eP 8 pI] []) (λx=>x.1.2.2.2.1) (λx s=>((x.1.1,x.1.2.1,x.1.2.2.1,s,()),())) (λx=> .sum (.leaf (Int) (λt=>(Ex.ret,{tm:=[(4,V.d (D.int .i64 t))],mem:=[]}))) (.leaf (Int) (λt=>(Ex.exit 0,{tm:=[(0,V.d (D.sl false 1 x.1.1)),(1,V.d (D.str x.1.2.1)),(7,V.d (D.int .i64 x.1.2.2.1)),(8,V.d (D.int .i64 t)),(9,V.d (D.bool false))],mem:=[]})))) (λx=>M.xC x.1.1 x.1.2.1 x.1.2.2.1) [] [] (by rintro _ _ _ _ _<;>simp only[M.xC,nb]<;>rfl)
def M.Ir{R:Type}(s':au)(v:aC)(k:Int->Option R):Option R:=
 (M.FD s' v ((↑s'.length:Int)) 0).bind λaP9=>
 nX aP9 (λaQa=>(k aQa)) λaQb=>
 letE aQb λaRP=>(k (-1))
def M.slices_Index(s':au)(v:aC):Option (Int):=M.Ir s' v some
def C.slices_Index:S.slices_Index.ok X0 λx=>M.slices_Index x.1.1 x.1.2.1:=fnS (λx=>M.Ir x.1.1 x.1.2.1) [] [F.FD] (by intros;simp only[M.Ir,nb]<;>rfl)
def M.D9{R:Type}(s':aC)(k:Int->Option R):Option R:=
 (M.slices_Index (List.map (λx=>[x]) zD) s').bind λaAu=>(bif decide (aAu<0) then(k 0) else(k (i64.wrap (10+aAu))))
def M.rQ(s':aC):Option (Int):=M.D9 s' some
def C.rQ:S.rQ.ok X0 λx=>M.rQ x.1.1:=fnS (λx=>M.D9 x.1.1) [fe C.slices_Index] [] (by intros;simp only[M.D9,nb]<;>rfl)
def M.xE{R:Type}(s':au)(v:aC)(k:Bool->Option R):Option R:=
 (M.slices_Index s' v).bind λaQc=>(k (decide (aQc>=0)))
def M.slices_Contains(s':au)(v:aC):Option (Bool):=M.xE s' v some
def C.slices_Contains:S.slices_Contains.ok X0 λx=>M.slices_Contains x.1.1 x.1.2.1:=fnS (λx=>M.xE x.1.1 x.1.2.1) [fe C.slices_Index] [] (by intros;simp only[M.xE,nb]<;>rfl)
def M.Ea{R:Type}(s':aC)(k:Bool->Option R):Option R:=
 (M.slices_Contains (List.map (λx=>[x]) GI) s').bind λaQd=>(k aQd)
def M.kU(s':aC):Option (Bool):=M.Ea s' some
def C.kU:S.kU.ok X0 λx=>M.kU x.1.1:=fnS (λx=>M.Ea x.1.1) [fe C.slices_Contains] [] (by intros;simp only[M.Ea,nb]<;>rfl)
def M.J8{R:Type}(s':aC)(k:Bool->Option R):Option R:=
 (M.rP s').bind λaQe=>
 (bif aQe then
 ((M.rQ s').bind λaQf=>(bif aQf==0 then((M.kU s').bind λaQg=>(k !aQg)) else(k false))) else(k false))
def M.jo(s':aC):Option (Bool):=M.J8 s' some
def C.jo:S.jo.ok X0 λx=>M.jo x.1.1:=fnS (λx=>M.J8 x.1.1) [fe C.rP,fe C.rQ,fe C.kU] [] (by intros;simp only[M.J8,nb]<;>rfl)
def C.strings_Contains:S.strings_Contains.ok X0 λx=>M.strings_Contains x.1.1 x.1.2.1:=gq.Qu (p:=Prim.strings_Contains)
def M.J9{R:Type}(s':aC)(at':Int)(k:Int->Option R):Option R:=
 (M.cO at' 0 (i64.wrap ((↑s'.length:Int) - 1))).bind λaQh=>
 (bif !aQh then(k (-1)) else((idx s' at').bind λaQi=>(k (i64.wrap (↑aQi.toNat:Int)))))
def M.jq(s':aC)(at':Int):Option (Int):=M.J9 s' at' some
def C.jq:S.jq.ok X0 λx=>M.jq x.1.1 x.1.2.1:=fnS (λx=>M.J9 x.1.1 x.1.2.1) [fe C.cO] [] (by intros;simp only[M.J9,nb]<;>rfl)
def M.yH{R:Type}(s':aC)(s:Int)(kn:Int->Option R)(ke:Int->Option R):Option R:=match s with
 |at'=>
 (M.jq s' at').bind λaQj=>
 ((M.qX aQj).bind λaQk=>(bif aQk then(kn (i64.wrap (at'+1))) else(ke at')))
def M.Lr(s':aC)(s:Int):=M.yH s' s (λs=>some (Sum.inl s)) λt=>some (Sum.inr t)
def M.BZ(s':aC)(s:Int):Option (Int):=fF (M.Lr s') s
def F.BZ:LE X0 233:=le 1 (Gz [eP 0 pS,eP 1 pI] []) (λx=>x.1.2.1) (λx s=>((x.1.1,s,()),())) (λx=> .leaf (Int) (λt=>(Ex.exit 0,{tm:=[(0,V.d (D.str x.1.1)),(1,V.d (D.int .i64 t)),(8,V.d (D.bool false))],mem:=[]}))) (λx=>M.yH x.1.1) [fe C.jq,fe C.qX] [] (by rintro _ _ _ _ _<;>simp only[M.yH,nb]<;>rfl)
def M.Eb{R:Type}(s':aC)(at':Int)(k:Int->Option R):Option R:=
 (M.BZ s' at').bind λaQl=>(k aQl)
def M.eU(s':aC)(at':Int):Option (Int):=M.Eb s' at' some
def C.eU:S.eU.ok X0 λx=>M.eU x.1.1 x.1.2.1:=fnS (λx=>M.Eb x.1.1 x.1.2.1) [] [F.BZ] (by intros;simp only[M.Eb,nb]<;>rfl)
def M.Ko{R:Type}(s':aC)(at':Int)(k:Int->Option R):Option R:=
 (M.cO at' 0 (i64.wrap ((↑s'.length:Int) - 1))).bind λaQm=>
 (bif !aQm then(k (-1)) else
 ((M.eU s' at').bind λJA=>
 ((M.jq s' JA).bind λaQn=>
 (bif aQn==46 then
 ((M.eU s' (i64.wrap (JA+1))).bind λNl=>
 (bif i64.wrap (i64.wrap (JA - at')+i64.wrap (i64.wrap (Nl - JA) - 1))==0 then(k (-1)) else
 ((M.jq s' Nl).bind λaAv=>
 (bif aAv==101 then
 ((M.jq s' (i64.wrap (Nl+1))).bind λaAw=>
 (bif aAw==43 then
 ((M.eU s' (i64.wrap (i64.wrap (Nl+1)+1))).bind λaAx=>
 (bif decide (aAx>i64.wrap (i64.wrap (Nl+1)+1)) then(k aAx) else(k Nl))) else
 (bif aAw==45 then
 ((M.eU s' (i64.wrap (i64.wrap (Nl+1)+1))).bind λaAy=>
 (bif decide (aAy>i64.wrap (i64.wrap (Nl+1)+1)) then(k aAy) else(k Nl))) else
 ((M.eU s' (i64.wrap (Nl+1))).bind λaAz=>(bif decide (aAz>i64.wrap (Nl+1)) then(k aAz) else(k Nl)))))) else
 (bif aAv==69 then
 ((M.jq s' (i64.wrap (Nl+1))).bind λaAA=>
 (bif aAA==43 then
 ((M.eU s' (i64.wrap (i64.wrap (Nl+1)+1))).bind λaAB=>
 (bif decide (aAB>i64.wrap (i64.wrap (Nl+1)+1)) then(k aAB) else(k Nl))) else
 (bif aAA==45 then
 ((M.eU s' (i64.wrap (i64.wrap (Nl+1)+1))).bind λaAC=>
 (bif decide (aAC>i64.wrap (i64.wrap (Nl+1)+1)) then(k aAC) else(k Nl))) else
 ((M.eU s' (i64.wrap (Nl+1))).bind λaAD=>(bif decide (aAD>i64.wrap (Nl+1)) then(k aAD) else(k Nl)))))) else(k Nl)))))) else
 (bif i64.wrap (JA - at')==0 then(k (-1)) else
 ((M.jq s' JA).bind λaAE=>
 (bif aAE==101 then
 ((M.jq s' (i64.wrap (JA+1))).bind λaAF=>
 (bif aAF==43 then
 ((M.eU s' (i64.wrap (i64.wrap (JA+1)+1))).bind λaAG=>
 (bif decide (aAG>i64.wrap (i64.wrap (JA+1)+1)) then(k aAG) else(k JA))) else
 (bif aAF==45 then
 ((M.eU s' (i64.wrap (i64.wrap (JA+1)+1))).bind λaAH=>
 (bif decide (aAH>i64.wrap (i64.wrap (JA+1)+1)) then(k aAH) else(k JA))) else
 ((M.eU s' (i64.wrap (JA+1))).bind λaAI=>(bif decide (aAI>i64.wrap (JA+1)) then(k aAI) else(k JA)))))) else
 (bif aAE==69 then
 ((M.jq s' (i64.wrap (JA+1))).bind λaAJ=>
 (bif aAJ==43 then
 ((M.eU s' (i64.wrap (i64.wrap (JA+1)+1))).bind λaAK=>
 (bif decide (aAK>i64.wrap (i64.wrap (JA+1)+1)) then(k aAK) else(k JA))) else
 (bif aAJ==45 then
 ((M.eU s' (i64.wrap (i64.wrap (JA+1)+1))).bind λaAL=>
 (bif decide (aAL>i64.wrap (i64.wrap (JA+1)+1)) then(k aAL) else(k JA))) else
 ((M.eU s' (i64.wrap (JA+1))).bind λaAM=>(bif decide (aAM>i64.wrap (JA+1)) then(k aAM) else(k JA)))))) else(k JA)))))))))
def M.zO(s':aC)(at':Int):Option (Int):=M.Ko s' at' some
def C.zO:S.zO.ok X0 λx=>M.zO x.1.1 x.1.2.1:=fnS (λx=>M.Ko x.1.1 x.1.2.1) [fe C.cO,fe C.eU,fe C.jq] [] (by intros;unfold M.Ko;repeat' first|with_reducible apply ig|with_reducible apply Ho|with_reducible apply Hq|with_reducible apply Hr|with_reducible apply Ht|(intro _)|apply ig|rfl)
def M.pG{R:Type}(s':aC)(quote s:Int)(kn:Int->Option R)(ke:(Int)⊕(Int)->Option R):Option R:=match s with
 |i=>
 bif decide (i<(↑s'.length:Int)) then
 ((idx s' i).bind λaQo=>
 (bif(↑aQo.toNat:Int) !=10 then
 ((idx s' i).bind λaQp=>
 (bif i64.wrap (↑aQp.toNat:Int)==quote then(ke (.inl (i64.wrap (i+1)))) else
 ((idx s' i).bind λaQq=>
 (bif(↑aQq.toNat:Int)==92 then
 ((M.jq s' (i64.wrap (i+1))).bind λaQr=>
 (bif aQr !=10 then(kn (i64.wrap (i64.wrap (i+1)+1))) else(kn (i64.wrap (i+1))))) else(kn (i64.wrap (i+1))))))) else(ke (.inr i)))) else(ke (.inr i))
def M.tV(s':aC)(quote s:Int):=M.pG s' quote s (λs=>some (Sum.inl s)) λt=>some (Sum.inr t)
def M.oU(s':aC)(quote s:Int):Option ((Int)⊕(Int)):=fF (M.tV s' quote) s
def F.oU:LE X0 235:=le 4 (Gz [eP 0 pS,eP 2 pI,eP 7 pI] []) (λx=>x.1.2.2.1) (λx s=>((x.1.1,x.1.2.1,s,()),())) (λx=> .sum (.leaf (Int) (λt=>(Ex.ret,{tm:=[(6,V.d (D.int .i64 t))],mem:=[]}))) (.leaf (Int) (λt=>(Ex.exit 0,{tm:=[(0,V.d (D.str x.1.1)),(2,V.d (D.int .i64 x.1.2.1)),(7,V.d (D.int .i64 t)),(24,V.d (D.bool false))],mem:=[]})))) (λx=>M.pG x.1.1 x.1.2.1) [fe C.jq] [] (by rintro _ _ _ _ _<;>simp only[M.pG,nb]<;>rfl)
def M.Ec{R:Type}(s':aC)(at' quote:Int)(k:Int->Option R):Option R:=
 (M.jq s' at').bind λaQs=>
 (bif aQs !=quote then(k (-1)) else
 ((M.oU s' quote (i64.wrap (at'+1))).bind λaAN=>
 nX aAN (λaQt=>(k aQt)) λaAO=>
 letE aAO λaRQ=>(k (-1))))
def M.mV(s':aC)(at' quote:Int):Option (Int):=M.Ec s' at' quote some
def C.mV:S.mV.ok X0 λx=>M.mV x.1.1 x.1.2.1 x.1.2.2.1:=fnS (λx=>M.Ec x.1.1 x.1.2.1 x.1.2.2.1) [fe C.jq] [F.oU] (by intros;simp only[M.Ec,nb]<;>rfl)
def M.Kq{R:Type}(s':aC)(at':Int)(k:Int->Option R):Option R:=
 (M.mV s' at' 34).bind λaAP=>(k aAP)
def M.zQ(s':aC)(at':Int):Option (Int):=M.Kq s' at' some
def C.zQ:S.zQ.ok X0 λx=>M.zQ x.1.1 x.1.2.1:=fnS (λx=>M.Kq x.1.1 x.1.2.1) [fe C.mV] [] (by intros;simp only[M.Kq,nb]<;>rfl)
def M.Kr{R:Type}(s':aC)(at':Int)(k:Int->Option R):Option R:=
 (M.mV s' at' 47).bind λarI=>(bif arI==i64.wrap (at'+2) then(k (-1)) else(k arI))
def M.zS(s':aC)(at':Int):Option (Int):=M.Kr s' at' some
def C.zS:S.zS.ok X0 λx=>M.zS x.1.1 x.1.2.1:=fnS (λx=>M.Kr x.1.1 x.1.2.1) [fe C.mV] [] (by intros;simp only[M.Kr,nb]<;>rfl)
def M.xG{R:Type}(kind:Int)(k:Bool->Option R):Option R:=
 (M.cO kind 10 26).bind λaAQ=>(k aAQ)
def M.nG(kind:Int):Option (Bool):=M.xG kind some
def C.nG:S.nG.ok X0 λx=>M.nG x.1.1:=fnS (λx=>M.xG x.1.1) [fe C.cO] [] (by intros;simp only[M.xG,nb]<;>rfl)
def M.xH{R:Type}(kind:Int)(k:Bool->Option R):Option R:=
 (M.cO kind 30 68).bind λaAR=>(k aAR)
def M.iy(kind:Int):Option (Bool):=M.xH kind some
def C.iy:S.iy.ok X0 λx=>M.iy x.1.1:=fnS (λx=>M.xH x.1.1) [fe C.cO] [] (by intros;simp only[M.xH,nb]<;>rfl)
def M.Iu{R:Type}(kind:Int)(k:aC->Option R):Option R:=
 bif kind==1 then(k [10]) else
 ((M.nG kind).bind λaAS=>
 (bif aAS then
 (bif decide (0<=i64.wrap (kind - 10)) && decide (i64.wrap (kind - 10)<17) then
 ((cStr zD (0+(i64.wrap (kind - 10)).toNat * 1)).bind λaAT=>(k aAT)) else none) else
 ((M.iy kind).bind λaAU=>
 (bif aAU then
 (bif decide (0<=i64.wrap (kind - 30)) && decide (i64.wrap (kind - 30)<39) then
 ((cStr MQ (0+(i64.wrap (kind - 30)).toNat * 1)).bind λaAV=>(k aAV)) else none) else(k [])))))
def M.gZ(kind:Int):Option (aC):=M.Iu kind some
def C.gZ:S.gZ.ok X0 λx=>M.gZ x.1.1:=fnS (λx=>M.Iu x.1.1) [fe C.nG,fe C.iy] [] (by intros;simp only[M.Iu,nb]<;>rfl)
def M.Iw{R:Type}(t':Int)(jr:aC)(kH:Int)(k:Bool->Option R):Option R:=
 bif jr==[] then(k false) else
 (bif t'==2 then
 ((idx jr 0).bind λaQu=>
 (bif(↑aQu.toNat:Int)==35 then((M.strings_Contains jr [10]).bind λaQv=>(k !aQv)) else(k false))) else
 (bif t'==3 then((M.zO jr 0).bind λaQw=>(k (aQw==(↑jr.length:Int)))) else
 (bif t'==4 then((M.zQ jr 0).bind λaAW=>(k (aAW==(↑jr.length:Int)))) else
 (bif t'==5 then((M.zS jr 0).bind λaAX=>(k (aAX==(↑jr.length:Int)))) else
 (bif t'==6 then((M.jo jr).bind λaAY=>(k aAY)) else
 (bif t'==7 then((M.jo jr).bind λaAZ=>(k aAZ)) else
 (bif t'==8 then((M.kU jr).bind λaA0=>(k aA0)) else((M.gZ t').bind λaA1=>(k (jr==aA1))))))))))
def M.ng(t':Int)(jr:aC)(kH:Int):Option (Bool):=M.Iw t' jr kH some
def C.ng:S.ng.ok X0 λx=>M.ng x.1.1.1 x.1.1.2.1 x.1.1.2.2.1:=fnS (λx=>M.Iw x.1.1.1 x.1.1.2.1 x.1.1.2.2.1) [fe C.strings_Contains,fe C.zO,fe C.zQ,fe C.zS,fe C.jo,fe C.kU,fe C.gZ] [] (by intros;simp only[M.Iw,nb]<;>rfl)
def M.bV{R:Type}(kind:Int)(k:Bool->Option R):Option R:=
 bif kind==51 then(k true) else(k (kind==52))
def M.cZ(kind:Int):Option (Bool):=M.bV kind some
def C.cZ:S.cZ.ok X0 λx=>M.cZ x.1.1:=fnS (λx=>M.bV x.1.1) [] [] (by intros;simp only[M.bV,nb]<;>rfl)
def M.Df{R:Type}(op':Int)(k:Int->Option R):Option R:=
 bif op'==44 then(k 3) else
 (bif op'==45 then(k 4) else
 (bif op'==67 then(k 6) else
 (bif op'==46 then(k 6) else
 (bif op'==63 then(k 7) else
 (bif op'==48 then(k 7) else
 (bif op'==47 then(k 7) else
 (bif op'==50 then(k 7) else
 (bif op'==62 then(k 7) else
 (bif op'==49 then(k 7) else
 (bif op'==99 then(k 8) else
 (bif op'==55 then(k 9) else
 (bif op'==56 then(k 9) else
 (bif op'==57 then(k 10) else
 (bif op'==58 then(k 10) else(bif op'==59 then(k 10) else(bif op'==60 then(k 12) else(k 0)))))))))))))))))
def M.lC(op':Int):Option (Int):=M.Df op' some
def C.lC:S.lC.ok X0 λx=>M.lC x.1.1:=fnS (λx=>M.Df x.1.1) [] [] (by intros;unfold M.Df;repeat' first|with_reducible apply ig|with_reducible apply Ho|with_reducible apply Hq|with_reducible apply Hr|with_reducible apply Ht|(intro _)|apply ig|rfl)
def M.FH{R:Type}(kind:Int)(k:Bool->Option R):Option R:=
 bif kind==54 then(k true) else((M.cO kind 38 43).bind λaA2=>(k aA2))
def M.uF(kind:Int):Option (Bool):=M.FH kind some
def C.uF:S.uF.ok X0 λx=>M.uF x.1.1:=fnS (λx=>M.FH x.1.1) [fe C.cO] [] (by intros;simp only[M.FH,nb]<;>rfl)
def M.bC{R:Type}(n' gV:Int)(iU iJ:aC)(jV:au)(k:Bool×Bool×Bool×Int×Int->Option R):Option R:=
 bif n'==1 then((M.jo iU).bind λaQx=>(k ((gV==0,aQx,false,0,0)))) else
 (bif n'==2 then
 (bif decide (0<=i64.wrap (n' - 2)) && decide (i64.wrap (n' - 2)<3) then
 ((eu .i64 [D.int .i64 3,D.int .i64 4,D.int .i64 5] (i64.wrap (n' - 2)).toNat).bind λaQy=>((M.ng aQy iU 0).bind λaA3=>(k ((gV==0,aA3,false,0,0))))) else none) else
 (bif n'==3 then
 (bif decide (0<=i64.wrap (n' - 2)) && decide (i64.wrap (n' - 2)<3) then
 ((eu .i64 [D.int .i64 3,D.int .i64 4,D.int .i64 5] (i64.wrap (n' - 2)).toNat).bind λaA4=>((M.ng aA4 iU 0).bind λaA5=>(k ((gV==0,aA5,false,0,0))))) else none) else
 (bif n'==4 then
 (bif decide (0<=i64.wrap (n' - 2)) && decide (i64.wrap (n' - 2)<3) then
 ((eu .i64 [D.int .i64 3,D.int .i64 4,D.int .i64 5] (i64.wrap (n' - 2)).toNat).bind λaA6=>((M.ng aA6 iU 0).bind λaA7=>(k ((gV==0,aA7,false,0,0))))) else none) else
 (bif n'==5 then((M.jo iU).bind λaA8=>(k ((gV==0,aA8,false,1,6)))) else
 (bif n'==13 then((M.jo iU).bind λaA9=>(k ((gV==0,aA9,false,1,6)))) else
 (bif n'==6 then(k ((gV==0,iU==[],false,1,1))) else
 (bif n'==7 then((M.jo iU).bind λaBa=>(k ((gV==0,aBa,false,0,6)))) else
 (bif n'==8 then((M.kU iU).bind λaBb=>(k ((gV==0,aBb,false,0,6)))) else
 (bif n'==9 then((M.cZ gV).bind λaBd=>(k ((aBd,iU==[],false,1,1)))) else
 (bif n'==10 then((M.cZ gV).bind λaBe=>(k ((aBe,iU==[],false,1,1)))) else
 (bif n'==11 then
 (bif gV==55 then(k ((true,iU==[],false,1,1))) else
 (bif gV==56 then(k ((true,iU==[],false,1,1))) else(k ((gV==61,iU==[],false,1,1))))) else
 (bif n'==12 then((M.lC gV).bind λaBf=>(k ((aBf !=0,iU==[],false,2,2)))) else
 (bif n'==14 then(k ((gV==0,iU==[],false,3,3))) else((M.uF gV).bind λaBg=>(k ((aBg,iU==[],false,2,2)))))))))))))))))
def M.bJ(n' gV:Int)(iU iJ:aC)(jV:au):Option (Bool×Bool×Bool×Int×Int):=M.bC n' gV iU iJ jV some
def C.bJ:S.bJ.ok X0 λx=>M.bJ x.1.1.1 x.1.1.2.1 x.1.1.2.2.1 x.1.1.2.2.2.1 x.1.1.2.2.2.2.1:=fnS (λx=>M.bC x.1.1.1 x.1.1.2.1 x.1.1.2.2.1 x.1.1.2.2.2.1 x.1.1.2.2.2.2.1) [fe C.jo,fe C.ng,fe C.kU,fe C.cZ,fe C.lC,fe C.uF] [] (by intros;unfold M.bC;repeat' first|with_reducible apply ig|with_reducible apply Ho|with_reducible apply Hq|with_reducible apply Hr|with_reducible apply Ht|(intro _)|apply ig|rfl)
def M.bT{R:Type}(kind:Int)(k:Bool->Option R):Option R:=
 (M.cO kind 20 34).bind λaBh=>(k aBh)
def M.bY(kind:Int):Option (Bool):=M.bT kind some
def C.bY:S.bY.ok X0 λx=>M.bY x.1.1:=fnS (λx=>M.bT x.1.1) [fe C.cO] [] (by intros;simp only[M.bT,nb]<;>rfl)
def M.bD{R:Type}(n' gV:Int)(iU iJ:aC)(jV:au)(k:Bool×Bool×Bool×Int×Int->Option R):Option R:=
 bif n'==20 then(k ((gV==0,iU==[],iJ==[],1,1))) else
 (bif n'==21 then
 (bif gV==0 then
 ((M.slices_Contains ([[D.str []],[D.str [62]],[D.str [62,62]],[D.str [124]]]) iJ).bind λarJ=>
 (bif !iJ==[] then(k ((true,iU==[],arJ,i64.wrap (gV+1),7))) else(k ((true,iU==[],arJ,gV,6))))) else
 ((M.slices_Contains ([[D.str []],[D.str [62]],[D.str [62,62]],[D.str [124]]]) iJ).bind λarK=>
 (bif !iJ==[] then(k ((gV==1,iU==[],arK,i64.wrap (gV+1),7))) else(k ((gV==1,iU==[],arK,gV,6)))))) else
 (bif n'==23 then(k ((gV==0,iU==[],iJ==[],0,1))) else
 (bif n'==24 then(k ((gV==0,iU==[],iJ==[],0,1))) else
 (bif n'==27 then((M.jo iU).bind λaBi=>(k ((gV==0,aBi,iJ==[],0,6)))) else
 (bif n'==28 then(k ((gV==0,iU==[],iJ==[],2,3))) else
 (bif n'==29 then(k ((gV==0,iU==[],iJ==[],2,2))) else
 (bif n'==30 then(k ((gV==0,iU==[],iJ==[],2,2))) else
 (bif n'==31 then(k ((gV==0,iU==[],iJ==[],4,4))) else
 (bif n'==32 then
 ((M.jo iU).bind λaBj=>((M.jo iJ).bind λaBk=>(k ((gV==0,aBj,aBk,1,1))))) else
 (bif n'==33 then(k ((gV==0,iU==[],iJ==[],0,400))) else
 (bif n'==34 then((M.ng 2 iU 0).bind λaBl=>(k ((gV==0,aBl,iJ==[],0,0)))) else(k ((gV==0,iU==[],iJ==[],0,0))))))))))))))
def M.bK(n' gV:Int)(iU iJ:aC)(jV:au):Option (Bool×Bool×Bool×Int×Int):=M.bD n' gV iU iJ jV some
def C.bK:S.bK.ok X0 λx=>M.bK x.1.1.1 x.1.1.2.1 x.1.1.2.2.1 x.1.1.2.2.2.1 x.1.1.2.2.2.2.1:=fnS (λx=>M.bD x.1.1.1 x.1.1.2.1 x.1.1.2.2.1 x.1.1.2.2.2.1 x.1.1.2.2.2.2.1) [fe C.slices_Contains,fe C.jo,fe C.ng] [] (by intros;unfold M.bD;repeat' first|with_reducible apply ig|with_reducible apply Ho|with_reducible apply Hq|with_reducible apply Hr|with_reducible apply Ht|(intro _)|apply ig|rfl)
def M.bF{R:Type}(n' gV:Int)(iU iJ:aC)(jV:au)(k:Bool×Bool×Bool×Int×Int->Option R):Option R:=
 bif n'==40 then(k ((gV==0,iU==[],iJ==[],1,1))) else
 (bif n'==41 then(k ((gV==0,iU==[],iJ==[],1,1))) else
 (bif n'==42 then
 ((M.cO gV 1 3).bind λarL=>
 (bif gV==3 then(k ((arL,iU==[],iJ==[],2,2))) else(k ((arL,iU==[],iJ==[],1,1))))) else
 (bif n'==43 then
 (bif gV==1 then
 (bif gV==3 then(k ((true,iU==[],iJ==[],3,3))) else(k ((true,iU==[],iJ==[],2,2)))) else
 (bif gV==3 then(k ((gV==3,iU==[],iJ==[],3,3))) else(k ((gV==3,iU==[],iJ==[],2,2))))) else
 (bif n'==44 then((M.jo iU).bind λaBm=>(k ((gV==0,aBm,iJ==[],1,7)))) else(k ((gV==0,iU==[],iJ==[],0,400)))))))
def M.bM(n' gV:Int)(iU iJ:aC)(jV:au):Option (Bool×Bool×Bool×Int×Int):=M.bF n' gV iU iJ jV some
def C.bM:S.bM.ok X0 λx=>M.bM x.1.1.1 x.1.1.2.1 x.1.1.2.2.1 x.1.1.2.2.2.1 x.1.1.2.2.2.2.1:=fnS (λx=>M.bF x.1.1.1 x.1.1.2.1 x.1.1.2.2.1 x.1.1.2.2.2.1 x.1.1.2.2.2.2.1) [fe C.cO,fe C.jo] [] (by intros;simp only[M.bF,nb]<;>rfl)
def M.aY{R:Type}(n' gV:Int)(iU iJ:aC)(jV:au)(k:Bool->Option R):Option R:=
 (M.bG n').bind λaQz=>
 (bif aQz then
 ((M.bJ n' gV iU iJ jV).bind λakk=>
 (bif akk.1 then
 (bif akk.2.1 then
 (bif iJ==[] then
 ((M.cO ((↑jV.length:Int)) akk.2.2.2.1 akk.2.2.2.2).bind λaBn=>(k aBn)) else(k false)) else(k false)) else(k false))) else
 (bif n'==16 then
 (bif gV==0 then
 (bif iU==[] then
 (bif iJ==[] then((M.cO ((↑jV.length:Int)) 0 0).bind λaBo=>(k aBo)) else(k false)) else(k false)) else(k false)) else
 ((M.bY n').bind λaBp=>
 (bif aBp then
 ((M.bK n' gV iU iJ jV).bind λafQ=>
 (bif afQ.1 then
 (bif afQ.2.1 then
 (bif afQ.2.2.1 then
 ((M.cO ((↑jV.length:Int)) afQ.2.2.2.1 afQ.2.2.2.2).bind λaBq=>(k aBq)) else(k false)) else(k false)) else(k false))) else
 ((M.cO n' 40 45).bind λaBr=>
 (bif aBr then
 ((M.bM n' gV iU iJ jV).bind λafR=>
 (bif afR.1 then
 (bif afR.2.1 then
 (bif afR.2.2.1 then
 ((M.cO ((↑jV.length:Int)) afR.2.2.2.1 afR.2.2.2.2).bind λaBs=>(k aBs)) else(k false)) else(k false)) else(k false))) else(k false)))))))
def M.bH(n' gV:Int)(iU iJ:aC)(jV:au):Option (Bool):=M.aY n' gV iU iJ jV some
def C.bH:S.bH.ok X0 λx=>M.bH x.1.1.1 x.1.1.2.1 x.1.1.2.2.1 x.1.1.2.2.2.1 x.1.1.2.2.2.2.1:=fnS (λx=>M.aY x.1.1.1 x.1.1.2.1 x.1.1.2.2.1 x.1.1.2.2.2.1 x.1.1.2.2.2.2.1) [fe C.bG,fe C.bJ,fe C.cO,fe C.bY,fe C.bK,fe C.bM] [] (by intros;unfold M.aY;repeat' first|with_reducible apply ig|with_reducible apply Ho|with_reducible apply Hq|with_reducible apply Hr|with_reducible apply Ht|(intro _)|apply ig|rfl)
def M.FI{R:Type}(kind:Int)(k:Bool->Option R):Option R:=
 bif kind==1 then(k true) else(bif kind==5 then(k true) else(k (kind==6)))
def M.oC(kind:Int):Option (Bool):=M.FI kind some
def C.oC:S.oC.ok X0 λx=>M.oC x.1.1:=fnS (λx=>M.FI x.1.1) [] [] (by intros;simp only[M.FI,nb]<;>rfl)
def M.Kt{R:Type}(kind:Int)(k:Bool->Option R):Option R:=
 (M.cO kind 40 44).bind λaBt=>(k aBt)
def M.zT(kind:Int):Option (Bool):=M.Kt kind some
def C.zT:S.zT.ok X0 λx=>M.zT x.1.1:=fnS (λx=>M.Kt x.1.1) [fe C.cO] [] (by intros;simp only[M.Kt,nb]<;>rfl)
def M.bP{R:Type}(n' gV:Int)(iU iJ:aC)(jV:au)(k' kid:Int)(k:Bool->Option R):Option R:=
 bif n'==9 then((M.oC kid).bind λaBu=>(k aBu)) else
 (bif n'==10 then((M.oC kid).bind λaBv=>(k aBv)) else
 (bif n'==15 then
 (bif k'==0 then
 ((M.oC kid).bind λaBw=>
 (bif aBw then(k true) else(bif decide (k'>0) then((M.bG kid).bind λaBx=>(k aBx)) else(k false)))) else(bif decide (k'>0) then((M.bG kid).bind λaBy=>(k aBy)) else(k false))) else
 (bif n'==28 then
 (bif decide (k'>0) then(k (kid==33)) else((M.bG kid).bind λaBz=>(k aBz))) else
 (bif n'==29 then
 (bif decide (k'>0) then(k (kid==33)) else((M.bG kid).bind λaBA=>(k aBA))) else
 (bif n'==31 then
 (bif decide (k'<3) then
 (bif kid==16 then(k true) else
 (bif k'==i64.wrap ((↑jV.length:Int) - 1) then(k (kid==33)) else((M.bG kid).bind λaBB=>(k aBB)))) else
 (bif k'==i64.wrap ((↑jV.length:Int) - 1) then(k (kid==33)) else((M.bG kid).bind λaBC=>(k aBC)))) else
 (bif n'==30 then(bif k'==0 then(k (kid==33)) else((M.bG kid).bind λaBD=>(k aBD))) else
 (bif n'==32 then(k (kid==33)) else
 (bif n'==40 then(k (kid==33)) else
 (bif n'==41 then(k (kid==33)) else
 (bif n'==33 then((M.bY kid).bind λaBE=>(k aBE)) else
 (bif n'==42 then
 (bif k'==i64.wrap ((↑jV.length:Int) - 1) then
 (bif decide (gV>=2) then(k (kid==33)) else((M.bG kid).bind λaBF=>(k aBF))) else((M.bG kid).bind λaBG=>(k aBG))) else
 (bif n'==43 then
 (bif k'==i64.wrap ((↑jV.length:Int) - 1) then(bif gV==3 then(k (kid==33)) else((M.bG kid).bind λaBH=>(k aBH))) else((M.bG kid).bind λaBI=>(k aBI))) else
 (bif n'==44 then
 (bif !k'==i64.wrap ((↑jV.length:Int) - 1) then(k (kid==1)) else(k (kid==33))) else
 (bif n'==45 then((M.zT kid).bind λaBJ=>(bif aBJ then(k true) else(k (kid==34)))) else((M.bG kid).bind λaBK=>(k aBK))))))))))))))))
def M.cu(n' gV:Int)(iU iJ:aC)(jV:au)(k' kid:Int):Option (Bool):=M.bP n' gV iU iJ jV k' kid some
def C.cu:S.cu.ok X0 λx=>M.cu x.1.1.1 x.1.1.2.1 x.1.1.2.2.1 x.1.1.2.2.2.1 x.1.1.2.2.2.2.1 x.1.2.1 x.1.2.2.1:=fnS (λx=>M.bP x.1.1.1 x.1.1.2.1 x.1.1.2.2.1 x.1.1.2.2.2.1 x.1.1.2.2.2.2.1 x.1.2.1 x.1.2.2.1) [fe C.oC,fe C.bG,fe C.bY,fe C.zT] [] (by intros;unfold M.bP;repeat' first|with_reducible apply ig|with_reducible apply Ho|with_reducible apply Hq|with_reducible apply Hr|with_reducible apply Ht|(intro _)|apply ig|rfl)
def M.jY{R:Type}(iY:au->Int->Option (Int×Int×aC×aC×au))(s:(au×au×Int×Int×Int×Int×aC×aC×Int×Int×aC×aC)⊕(au×au×Int×Int×Int×Int×aC×aC×Int×Int×aC×aC×au))(kn:(au×au×Int×Int×Int×Int×aC×aC×Int×Int×aC×aC)⊕(au×au×Int×Int×Int×Int×aC×aC×Int×Int×aC×aC×au)->Option R)(ke:(au×au×Int×Int×Int×Int×aC×aC×Int×Int×aC×aC)⊕(au×au×Int×Int×Int×Int×aC×aC×Int×Int×aC×aC×au)->Option R):Option R:=match s with
 | .inl ((l,v23,v24,v25,x',mM,nY,zy,BO,Ou,Sv,WM))=>
 bif decide (v25<v24) then
 ((idx v23 v25).bind λaqz=>
 ((eu .i64 aqz 0).bind λaBL=>
 ((iY l aBL).bind λafS=>
 (kn (.inr ((l,v23,v24,i64.wrap (v25+1),x',mM,nY,zy,BO,Ou,Sv,WM,[[D.int .i64 afS.1,D.int .i64 afS.2.1,D.str afS.2.2.1,D.str afS.2.2.2.1,D.sl true 5 afS.2.2.2.2]]))))))) else(ke (.inl ((l,v23,v24,v25,x',mM,nY,zy,BO,Ou,Sv,WM))))
 | .inr ((l,v23,v24,v25,x',mM,nY,zy,BO,Ou,Sv,WM,x'8))=>
 bif decide (v25<v24) then
 ((idx v23 v25).bind λaqA=>
 ((eu .i64 aqA 0).bind λaBM=>
 ((iY l aBM).bind λafT=>
 (jA x'8 [[D.int .i64 afT.1,D.int .i64 afT.2.1,D.str afT.2.2.1,D.str afT.2.2.2.1,D.sl true 5 afT.2.2.2.2]] 72 λza=>(kn (.inr ((l,v23,v24,i64.wrap (v25+1),x',mM,nY,zy,BO,Ou,Sv,WM,za)))))))) else(ke (.inr ((l,v23,v24,v25,x',mM,nY,zy,BO,Ou,Sv,WM,x'8))))
def M.jZ(iY:au->Int->Option (Int×Int×aC×aC×au))(s:(au×au×Int×Int×Int×Int×aC×aC×Int×Int×aC×aC)⊕(au×au×Int×Int×Int×Int×aC×aC×Int×Int×aC×aC×au)):=M.jY iY s (λs=>some (Sum.inl s)) λt=>some (Sum.inr t)
def M.Dh(iY:au->Int->Option (Int×Int×aC×aC×au))(s:(au×au×Int×Int×Int×Int×aC×aC×Int×Int×aC×aC)⊕(au×au×Int×Int×Int×Int×aC×aC×Int×Int×aC×aC×au)):Option ((au×au×Int×Int×Int×Int×aC×aC×Int×Int×aC×aC)⊕(au×au×Int×Int×Int×Int×aC×aC×Int×Int×aC×aC×au)):=fF (M.jZ iY) s
def F.Dh{iY:au->Int->Option (Int×Int×aC×aC×au)}(Oh:S.nM.ok X0 λx=>iY x.1.1 x.1.2.1):LE X0 88:=le 4 (pOr (Gz [eP 0 (pL false 5),eP 4 (pP 300000 0),eP 6 (pP 300001 0),eP 23 (pL false 1),eP 24 pI,eP 25 pI] [eP 300000 (cB 53 [pI,pI,pS,pS,YT 5]),eP 300001 (cB 53 [pI,pI,pS,pS,YT 5])]) (Gz [eP 0 (pL false 5),eP 4 (pP 300000 0),eP 6 (pP 300001 0),eP 23 (pL false 1),eP 24 pI,eP 25 pI] [eP 300000 (cB 53 [pI,pI,pS,pS,YT 5]),eP 300001 (cB 53 [pI,pI,pS,pS,pO 300002 0]),eP 300002 (cA false false 0 5)])) (σ:=(au×au×Int×Int×Int×Int×aC×aC×Int×Int×aC×aC)⊕(au×au×Int×Int×Int×Int×aC×aC×Int×Int×aC×aC×au)) (λx=>(match x with| .inl x=> .inl ((x.1.1,x.1.2.2.2.1,x.1.2.2.2.2.1,x.1.2.2.2.2.2.1,x.2.1.1,x.2.1.2.1,x.2.1.2.2.1,x.2.1.2.2.2.1,x.2.2.1.1,x.2.2.1.2.1,x.2.2.1.2.2.1,x.2.2.1.2.2.2.1))| .inr x=> .inr ((x.1.1,x.1.2.2.2.1,x.1.2.2.2.2.1,x.1.2.2.2.2.2.1,x.2.1.1,x.2.1.2.1,x.2.1.2.2.1,x.2.1.2.2.2.1,x.2.2.1.1,x.2.2.1.2.1,x.2.2.1.2.2.1,x.2.2.1.2.2.2.1,x.2.2.2.1)))) (λx s=>(match s with| .inl s=> .inl (((s.1,(),(),s.2.1,s.2.2.1,s.2.2.2.1,()),((s.2.2.2.2.1,s.2.2.2.2.2.1,s.2.2.2.2.2.2.1,s.2.2.2.2.2.2.2.1,(),()),(s.2.2.2.2.2.2.2.2.1,s.2.2.2.2.2.2.2.2.2.1,s.2.2.2.2.2.2.2.2.2.2.1,s.2.2.2.2.2.2.2.2.2.2.2,(),()),())))| .inr s=> .inr (((s.1,(),(),s.2.1,s.2.2.1,s.2.2.2.1,()),((s.2.2.2.2.1,s.2.2.2.2.2.1,s.2.2.2.2.2.2.1,s.2.2.2.2.2.2.2.1,(),()),(s.2.2.2.2.2.2.2.2.1,s.2.2.2.2.2.2.2.2.2.1,s.2.2.2.2.2.2.2.2.2.2.1,s.2.2.2.2.2.2.2.2.2.2.2.1,(),()),s.2.2.2.2.2.2.2.2.2.2.2.2,()))))) (λx=> .sum (.leaf (au×au×Int×Int×Int×Int×aC×aC×Int×Int×aC×aC) (λt=>(Ex.exit 0,{tm:=[(0,V.d (D.sl false 5 t.1)),(4,V.ptr 300000 0),(6,V.ptr 300001 0),(23,V.d (D.sl false 1 t.2.1)),(24,V.d (D.int .i64 t.2.2.1)),(25,V.d (D.int .i64 t.2.2.2.1)),(26,V.d (D.bool false))],mem:=[(300000,Cell.box 53 [V.d (D.int .i64 t.2.2.2.2.1),V.d (D.int .i64 t.2.2.2.2.2.1),V.d (D.str t.2.2.2.2.2.2.1),V.d (D.str t.2.2.2.2.2.2.2.1),V.nil 5]),(300001,Cell.box 53 [V.d (D.int .i64 t.2.2.2.2.2.2.2.2.1),V.d (D.int .i64 t.2.2.2.2.2.2.2.2.2.1),V.d (D.str t.2.2.2.2.2.2.2.2.2.2.1),V.d (D.str t.2.2.2.2.2.2.2.2.2.2.2),V.nil 5])]}))) (.leaf (au×au×Int×Int×Int×Int×aC×aC×Int×Int×aC×aC×au) (λt=>(Ex.exit 0,{tm:=[(0,V.d (D.sl false 5 t.1)),(4,V.ptr 300000 0),(6,V.ptr 300001 0),(23,V.d (D.sl false 1 t.2.1)),(24,V.d (D.int .i64 t.2.2.1)),(25,V.d (D.int .i64 t.2.2.2.1)),(26,V.d (D.bool false))],mem:=[(300000,Cell.box 53 [V.d (D.int .i64 t.2.2.2.2.1),V.d (D.int .i64 t.2.2.2.2.2.1),V.d (D.str t.2.2.2.2.2.2.1),V.d (D.str t.2.2.2.2.2.2.2.1),V.nil 5]),(300001,Cell.box 53 [V.d (D.int .i64 t.2.2.2.2.2.2.2.2.1),V.d (D.int .i64 t.2.2.2.2.2.2.2.2.2.1),V.d (D.str t.2.2.2.2.2.2.2.2.2.2.1),V.d (D.str t.2.2.2.2.2.2.2.2.2.2.2.1),V.own 300002 0]),(300002,Cell.arr false false 0 5 t.2.2.2.2.2.2.2.2.2.2.2.2)]})))) (λx=>M.jY iY) [fe Oh] [] (by rintro _ _ (⟨_,_,_,_,_,_,_,_,_,_,_,_⟩|⟨_,_,_,_,_,_,_,_,_,_,_,_,_⟩) _ _<;>simp only[jA,M.jY,nb]<;>rfl) (hE:=by intro _ _ s _;rcases s with s|s<;>kernel_rfl)
def M.Bo{R:Type}(iY:au->Int->Option (Int×Int×aC×aC×au))(l:au)(i:Int)(k:Int×Int×aC×aC×au->Option R):Option R:=
 (idx l i).bind λaqB=>
 (rJ 1 aqB λaBN aBO aBP aBQ afU=>
 ((M.Dh iY (.inl ((l,afU,(↑afU.length:Int),0,0,0,[],[],aBN,aBO,aBP,aBQ)))).bind λaBR=>
 nX aBR (λakl=>
 (k ((akl.2.2.2.2.2.2.2.2.1,akl.2.2.2.2.2.2.2.2.2.1,akl.2.2.2.2.2.2.2.2.2.2.1,akl.2.2.2.2.2.2.2.2.2.2.2,[])))) λaBS=>
 letE aBS λafV=>
 (k ((afV.2.2.2.2.2.2.2.2.1,afV.2.2.2.2.2.2.2.2.2.1,afV.2.2.2.2.2.2.2.2.2.2.1,afV.2.2.2.2.2.2.2.2.2.2.2.1,afV.2.2.2.2.2.2.2.2.2.2.2.2)))))
def M.jd:Nat->au->Int->Option (Int×Int×aC×aC×au)
 |0=>λ_ _=>none
 |n+1=>λl i=>M.Bo (M.jd n) l i some
def M.nM(l:au)(i:Int):Option (Int×Int×aC×aC×au):=lim λn=>M.jd n l i
def C.aa5{iY:au->Int->Option (Int×Int×aC×aC×au)}(Oh:S.nM.ok X0 λx=>iY x.1.1 x.1.2.1):S.nM.ok X0 λx=>M.Bo iY x.1.1 x.1.2.1 some:=fnS (λx=>M.Bo iY x.1.1 x.1.2.1) [] [F.Dh Oh] (by intros;simp only[rJ,M.Bo,nb]<;>rfl)
def C.jd:∀n,S.nM.ok X0 λx=>M.jd n x.1.1 x.1.2.1
 |0=>gq.zero
 |n+1=>C.aa5 (C.jd n)
def C.nM:S.nM.ok X0 λx=>M.nM x.1.1 x.1.2.1:=gq.lim C.jd
def M.QX{n:Nat}{l:au}{i:Int}{r:Int×Int×aC×aC×au}(h:M.jd n l i=some r):M.nM l i=some r:=
 gq.Hl C.jd (by intro a b h;simp[S.nM,sg] at h;first|exact h|simp[Prod.ext_iff,h]) (x:=((l,i,()),())) h
def M.EU{R:Type}(l:au)(k:Int×Int×aC×aC×au->Option R):Option R:=
 (M.nM l (i64.wrap ((↑l.length:Int) - 1))).bind λafW=>
 (k ((afW.1,afW.2.1,afW.2.2.1,afW.2.2.2.1,afW.2.2.2.2)))
def M.rU(l:au):Option (Int×Int×aC×aC×au):=M.EU l some
def C.rU:S.rU.ok X0 λx=>M.rU x.1.1:=fnS (λx=>M.EU x.1.1) [fe C.nM] [] (by intros;simp only[M.EU,nb]<;>rfl)
def M.rV{R:Type}(gu:Int->Int->aC->aC->au->Option (Int))(v7:au)(v8:Int)(s:Int×Int)(kn:Int×Int->Option R)(ke:Int×Int->Option R):Option R:=match s with
 |(most,v9)=>
 bif decide (v9<v8) then
 ((idx v7 v9).bind λaqC=>
 (rJ 5 aqC λaBT aBU aBV aBW anW=>
 ((gu aBT aBU aBV aBW anW).bind λarM=>(kn ((bif decide (most<arM) then arM else most,i64.wrap (v9+1))))))) else(ke ((most,v9)))
def M.xI(gu:Int->Int->aC->aC->au->Option (Int))(v7:au)(v8:Int)(s:Int×Int):=M.rV gu v7 v8 s (λs=>some (Sum.inl s)) λt=>some (Sum.inr t)
def M.Ak(gu:Int->Int->aC->aC->au->Option (Int))(v7:au)(v8:Int)(s:Int×Int):Option (Int×Int):=fF (M.xI gu v7 v8) s
def F.Ak{gu:Int->Int->aC->aC->au->Option (Int)}(Iy:S.jQ.ok X0 λx=>gu x.1.1.1 x.1.1.2.1 x.1.1.2.2.1 x.1.1.2.2.2.1 x.1.1.2.2.2.2.1):LE X0 78:=le 3 (Gz [eP 3 pI,eP 7 (pL false 5),eP 8 pI,eP 9 pI] []) (λx=>(x.1.1,x.1.2.2.2.1)) (λx s=>((s.1,x.1.2.1,x.1.2.2.1,s.2,()),())) (λx=> .leaf (Int×Int) (λt=>(Ex.exit 0,{tm:=[(3,V.d (D.int .i64 t.1)),(7,V.d (D.sl false 5 x.1.2.1)),(8,V.d (D.int .i64 x.1.2.2.1)),(9,V.d (D.int .i64 t.2)),(10,V.d (D.bool false))],mem:=[]}))) (λx=>M.rV gu x.1.2.1 x.1.2.2.1) [fe Iy] [] (by rintro _ _ ⟨_,_⟩ _ _<;>simp only[rJ,M.rV,nb]<;>rfl)
def M.xJ{R:Type}(gu:Int->Int->aC->aC->au->Option (Int))(t' jr:Int)(kH nV:aC)(lZ:au)(k:Int->Option R):Option R:=
 (M.Ak gu lZ ((↑lZ.length:Int)) ((0,0))).bind λaBX=>(k (i64.wrap (aBX.1+1)))
def M.jg:Nat->Int->Int->aC->aC->au->Option (Int)
 |0=>λ_ _ _ _ _=>none
 |n+1=>λt' jr kH nV lZ=>M.xJ (M.jg n) t' jr kH nV lZ some
def M.jQ(t' jr:Int)(kH nV:aC)(lZ:au):Option (Int):=lim λn=>M.jg n t' jr kH nV lZ
def C.UJ{gu:Int->Int->aC->aC->au->Option (Int)}(Iy:S.jQ.ok X0 λx=>gu x.1.1.1 x.1.1.2.1 x.1.1.2.2.1 x.1.1.2.2.2.1 x.1.1.2.2.2.2.1):S.jQ.ok X0 λx=>M.xJ gu x.1.1.1 x.1.1.2.1 x.1.1.2.2.1 x.1.1.2.2.2.1 x.1.1.2.2.2.2.1 some:=fnS (λx=>M.xJ gu x.1.1.1 x.1.1.2.1 x.1.1.2.2.1 x.1.1.2.2.2.1 x.1.1.2.2.2.2.1) [] [F.Ak Iy] (by intros;simp only[M.xJ,nb]<;>rfl)
def C.jg:∀n,S.jQ.ok X0 λx=>M.jg n x.1.1.1 x.1.1.2.1 x.1.1.2.2.1 x.1.1.2.2.2.1 x.1.1.2.2.2.2.1
 |0=>gq.zero
 |n+1=>C.UJ (C.jg n)
def C.jQ:S.jQ.ok X0 λx=>M.jQ x.1.1.1 x.1.1.2.1 x.1.1.2.2.1 x.1.1.2.2.2.1 x.1.1.2.2.2.2.1:=gq.lim C.jg
def M.UK{n:Nat}{t' jr:Int}{kH nV:aC}{lZ:au}{r:Int}(h:M.jg n t' jr kH nV lZ=some r):M.jQ t' jr kH nV lZ=some r:=
 gq.Hl C.jg (by intro a b h;simp[S.jQ,sg] at h;first|exact h|simp[Prod.ext_iff,h]) (x:=(((t',jr,kH,nV,lZ,()),()),())) h
def M.zf{R:Type}(l v10:au)(v11 v12:Int)(v20:au)(v21 x' mM:Int)(nY zy:aC)(BO:au)(s:Int)(kn:Int->Option R)(ke:(Unit)⊕(Int)->Option R):Option R:=match s with
 |v22=>
 bif decide (v22<v21) then
 ((idx v20 v22).bind λaqD=>
 ((eu .i64 aqD 0).bind λaBY=>
 ((idx l aBY).bind λaqE=>
 ((eu .i64 aqE 0).bind λaBZ=>
 ((M.cu x' mM nY zy BO v22 aBZ).bind λaB0=>(bif !aB0 then(ke (.inl ())) else(kn (i64.wrap (v22+1))))))))) else(ke (.inr v22))
def M.JB(l v10:au)(v11 v12:Int)(v20:au)(v21 x' mM:Int)(nY zy:aC)(BO:au)(s:Int):=M.zf l v10 v11 v12 v20 v21 x' mM nY zy BO s (λs=>some (Sum.inl s)) λt=>some (Sum.inr t)
def M.Di(l v10:au)(v11 v12:Int)(v20:au)(v21 x' mM:Int)(nY zy:aC)(BO:au)(s:Int):Option ((Unit)⊕(Int)):=fF (M.JB l v10 v11 v12 v20 v21 x' mM nY zy BO) s
def F.Di:LE X0 33:=le 9 (Gz [eP 0 (pL false 5),eP 4 (pP 300000 0),eP 10 (pL false 5),eP 11 pI,eP 12 pI,eP 20 (pL false 1),eP 21 pI,eP 22 pI] [eP 300000 (cB 42 [pI,pI,pS,pS,pL false 1])]) (λx=>x.1.2.2.2.2.2.2.2.1) (λx s=>((x.1.1,(),x.1.2.2.1,x.1.2.2.2.1,x.1.2.2.2.2.1,x.1.2.2.2.2.2.1,x.1.2.2.2.2.2.2.1,s,()),((x.2.1.1,x.2.1.2.1,x.2.1.2.2.1,x.2.1.2.2.2.1,x.2.1.2.2.2.2.1,()),()))) (λx=> .sum (.leaf (Unit) (λt=>(Ex.ret,{tm:=[(2,V.d (D.bool false))],mem:=[]}))) (.leaf (Int) (λt=>(Ex.exit 2,{tm:=[(0,V.d (D.sl false 5 x.1.1)),(4,V.ptr 300000 0),(10,V.d (D.sl false 5 x.1.2.2.1)),(11,V.d (D.int .i64 x.1.2.2.2.1)),(12,V.d (D.int .i64 x.1.2.2.2.2.1)),(20,V.d (D.sl false 1 x.1.2.2.2.2.2.1)),(21,V.d (D.int .i64 x.1.2.2.2.2.2.2.1)),(22,V.d (D.int .i64 t)),(23,V.d (D.bool false))],mem:=[(300000,Cell.box 42 [V.d (D.int .i64 x.2.1.1),V.d (D.int .i64 x.2.1.2.1),V.d (D.str x.2.1.2.2.1),V.d (D.str x.2.1.2.2.2.1),V.d (D.sl false 1 x.2.1.2.2.2.2.1)])]})))) (λx=>M.zf x.1.1 x.1.2.2.1 x.1.2.2.2.1 x.1.2.2.2.2.1 x.1.2.2.2.2.2.1 x.1.2.2.2.2.2.2.1 x.2.1.1 x.2.1.2.1 x.2.1.2.2.1 x.2.1.2.2.2.1 x.2.1.2.2.2.2.1) [fe C.cu] [] (by rintro _ _ _ _ _<;>simp only[M.zf,nb]<;>rfl)
def M.zh{R:Type}(l v10:au)(v11 s:Int)(kn:Int->Option R)(ke:(Unit)⊕(Int)->Option R):Option R:=match s with
 |v12=>
 bif decide (v12<v11) then
 ((idx v10 v12).bind λauX=>
 (rJ 1 auX λaB1 aB2 aB3 aB4 Zx=>
 ((M.bH aB1 aB2 aB3 aB4 Zx).bind λaB5=>
 (bif !aB5 then(ke (.inl ())) else
 ((M.Di l v10 v11 v12 Zx ((↑Zx.length:Int)) aB1 aB2 aB3 aB4 Zx 0).bind λaB6=>
 nX aB6 (λaRe=>(ke (.inl ()))) λaB7=>
 letE aB7 λaRf=>(kn (i64.wrap (v12+1)))))))) else(ke (.inr v12))
def M.JC(l v10:au)(v11 s:Int):=M.zh l v10 v11 s (λs=>some (Sum.inl s)) λt=>some (Sum.inr t)
def M.Dj(l v10:au)(v11 s:Int):Option ((Unit)⊕(Int)):=fF (M.JC l v10 v11) s
def F.Dj:LE X0 33:=le 4 (Gz [eP 0 (pL false 5),eP 10 (pL false 5),eP 11 pI,eP 12 pI] []) (λx=>x.1.2.2.2.1) (λx s=>((x.1.1,x.1.2.1,x.1.2.2.1,s,()),())) (λx=> .sum (.leaf (Unit) (λt=>(Ex.ret,{tm:=[(2,V.d (D.bool false))],mem:=[]}))) (.leaf (Int) (λt=>(Ex.exit 0,{tm:=[(0,V.d (D.sl false 5 x.1.1)),(10,V.d (D.sl false 5 x.1.2.1)),(11,V.d (D.int .i64 x.1.2.2.1)),(12,V.d (D.int .i64 t)),(13,V.d (D.bool false))],mem:=[]})))) (λx=>M.zh x.1.1 x.1.2.1 x.1.2.2.1) [fe C.bH] [F.Di] (by rintro _ _ _ _ _<;>simp only[rJ,M.zh,nb]<;>rfl)
def M.Ku{R:Type}(l:au)(k:Bool->Option R):Option R:=
 (M.wS l).bind λaQA=>
 (bif !aQA then(k false) else
 ((M.Dj l l ((↑l.length:Int)) 0).bind λaB8=>
 nX aB8 (λaRg=>(k false)) λaB9=>
 letE aB9 λaRh=>
 ((M.rU l).bind λafX=>
 ((M.jQ afX.1 afX.2.1 afX.2.2.1 afX.2.2.2.1 (dI afX.2.2.2.2)).bind λaCa=>(k (decide (aCa<=40)))))))
def M.zU(l:au):Option (Bool):=M.Ku l some
def C.zU:S.zU.ok X0 λx=>M.zU x.1.1:=fnS (λx=>M.Ku x.1.1) [fe C.wS,fe C.rU,fe C.jQ] [F.Dj] (by intros;simp only[M.Ku,nb]<;>rfl)
def M.PX{R:Type}(k:Int×Bool×Bool×Bool×Bool->Option R):Option R:=
 k ((1,false,false,false,false))
def M.oM:Option (Int×Bool×Bool×Bool×Bool):=M.PX some
def C.oM:S.oM.ok X0 λx=>M.oM:=fnS (λx=>M.PX) [] [] (by intros;simp only[M.PX,nb]<;>rfl)
def M.mg{R:Type}(s:(Int×Int×Int×Int×aC×aC×Int×Int×aC×aC)⊕(Int×Int×Int×Int×aC×aC×Int×Int×aC×aC×au))(kn:(Int×Int×Int×Int×aC×aC×Int×Int×aC×aC)⊕(Int×Int×Int×Int×aC×aC×Int×Int×aC×aC×au)->Option R)(ke:(Int×Int×Int×Int×aC×aC×Int×Int×aC×aC)⊕(Int×Int×Int×Int×aC×aC×Int×Int×aC×aC×au)->Option R):Option R:=match s with
 | .inl ((v16,v17,x',mM,nY,zy,BO,Ou,Sv,WM))=>
 bif decide (v17<v16) then
 (kn (.inr ((v16,i64.wrap (v17+1),x',mM,nY,zy,BO,Ou,Sv,WM,[[D.int .i64 v17]])))) else(ke (.inl ((v16,v17,x',mM,nY,zy,BO,Ou,Sv,WM))))
 | .inr ((v16,v17,x',mM,nY,zy,BO,Ou,Sv,WM,x'8))=>
 bif decide (v17<v16) then
 (jA x'8 [[D.int .i64 v17]] 8 λza=>(kn (.inr ((v16,i64.wrap (v17+1),x',mM,nY,zy,BO,Ou,Sv,WM,za))))) else(ke (.inr ((v16,v17,x',mM,nY,zy,BO,Ou,Sv,WM,x'8))))
def M.pJ(s:(Int×Int×Int×Int×aC×aC×Int×Int×aC×aC)⊕(Int×Int×Int×Int×aC×aC×Int×Int×aC×aC×au)):=M.mg s (λs=>some (Sum.inl s)) λt=>some (Sum.inr t)
def M.Cb(s:(Int×Int×Int×Int×aC×aC×Int×Int×aC×aC)⊕(Int×Int×Int×Int×aC×aC×Int×Int×aC×aC×au)):Option ((Int×Int×Int×Int×aC×aC×Int×Int×aC×aC)⊕(Int×Int×Int×Int×aC×aC×Int×Int×aC×aC×au)):=fF (M.pJ) s
def F.Cb:LE X0 140:=le 3 (pOr (Gz [eP 2 (pP 300000 0),eP 3 (pP 300001 0),eP 16 pI,eP 17 pI] [eP 300000 (cB 42 [pI,pI,pS,pS,YT 1]),eP 300001 (cB 42 [pI,pI,pS,pS,YT 1])]) (Gz [eP 2 (pP 300000 0),eP 3 (pP 300001 0),eP 16 pI,eP 17 pI] [eP 300000 (cB 42 [pI,pI,pS,pS,YT 1]),eP 300001 (cB 42 [pI,pI,pS,pS,pO 300002 0]),eP 300002 (cA false true 0 1)])) (σ:=(Int×Int×Int×Int×aC×aC×Int×Int×aC×aC)⊕(Int×Int×Int×Int×aC×aC×Int×Int×aC×aC×au)) (λx=>(match x with| .inl x=> .inl ((x.1.2.2.1,x.1.2.2.2.1,x.2.1.1,x.2.1.2.1,x.2.1.2.2.1,x.2.1.2.2.2.1,x.2.2.1.1,x.2.2.1.2.1,x.2.2.1.2.2.1,x.2.2.1.2.2.2.1))| .inr x=> .inr ((x.1.2.2.1,x.1.2.2.2.1,x.2.1.1,x.2.1.2.1,x.2.1.2.2.1,x.2.1.2.2.2.1,x.2.2.1.1,x.2.2.1.2.1,x.2.2.1.2.2.1,x.2.2.1.2.2.2.1,x.2.2.2.1)))) (λx s=>(match s with| .inl s=> .inl ((((),(),s.1,s.2.1,()),((s.2.2.1,s.2.2.2.1,s.2.2.2.2.1,s.2.2.2.2.2.1,(),()),(s.2.2.2.2.2.2.1,s.2.2.2.2.2.2.2.1,s.2.2.2.2.2.2.2.2.1,s.2.2.2.2.2.2.2.2.2,(),()),())))| .inr s=> .inr ((((),(),s.1,s.2.1,()),((s.2.2.1,s.2.2.2.1,s.2.2.2.2.1,s.2.2.2.2.2.1,(),()),(s.2.2.2.2.2.2.1,s.2.2.2.2.2.2.2.1,s.2.2.2.2.2.2.2.2.1,s.2.2.2.2.2.2.2.2.2.1,(),()),s.2.2.2.2.2.2.2.2.2.2,()))))) (λx=> .sum (.leaf (Int×Int×Int×Int×aC×aC×Int×Int×aC×aC) (λt=>(Ex.exit 0,{tm:=[(2,V.ptr 300000 0),(3,V.ptr 300001 0),(16,V.d (D.int .i64 t.1)),(17,V.d (D.int .i64 t.2.1)),(18,V.d (D.bool false))],mem:=[(300000,Cell.box 42 [V.d (D.int .i64 t.2.2.1),V.d (D.int .i64 t.2.2.2.1),V.d (D.str t.2.2.2.2.1),V.d (D.str t.2.2.2.2.2.1),V.nil 1]),(300001,Cell.box 42 [V.d (D.int .i64 t.2.2.2.2.2.2.1),V.d (D.int .i64 t.2.2.2.2.2.2.2.1),V.d (D.str t.2.2.2.2.2.2.2.2.1),V.d (D.str t.2.2.2.2.2.2.2.2.2),V.nil 1])]}))) (.leaf (Int×Int×Int×Int×aC×aC×Int×Int×aC×aC×au) (λt=>(Ex.exit 0,{tm:=[(2,V.ptr 300000 0),(3,V.ptr 300001 0),(16,V.d (D.int .i64 t.1)),(17,V.d (D.int .i64 t.2.1)),(18,V.d (D.bool false))],mem:=[(300000,Cell.box 42 [V.d (D.int .i64 t.2.2.1),V.d (D.int .i64 t.2.2.2.1),V.d (D.str t.2.2.2.2.1),V.d (D.str t.2.2.2.2.2.1),V.nil 1]),(300001,Cell.box 42 [V.d (D.int .i64 t.2.2.2.2.2.2.1),V.d (D.int .i64 t.2.2.2.2.2.2.2.1),V.d (D.str t.2.2.2.2.2.2.2.2.1),V.d (D.str t.2.2.2.2.2.2.2.2.2.1),V.own 300002 0]),(300002,Cell.arr false true 0 1 t.2.2.2.2.2.2.2.2.2.2)]})))) (λx=>M.mg) [] [] (by rintro _ _ (⟨_,_,_,_,_,_,_,_,_,_⟩|⟨_,_,_,_,_,_,_,_,_,_,_⟩) _ _<;>simp only[jA,M.mg,nb]<;>rfl) (hE:=by intro _ _ s _;rcases s with s|s<;>kernel_rfl)
def M.Ed{R:Type}(t' jr:Int)(kH nV:aC)(lZ:au)(k:Int×Int×aC×aC×au->Option R):Option R:=
 (M.Cb (.inl (((↑lZ.length:Int),0,0,0,[],[],t',jr,kH,nV)))).bind λaCb=>
 nX aCb (λakm=>
 (k ((akm.2.2.2.2.2.2.1,akm.2.2.2.2.2.2.2.1,akm.2.2.2.2.2.2.2.2.1,akm.2.2.2.2.2.2.2.2.2,[])))) λaCc=>
 letE aCc λady=>
 (bif aA ady.2.2.2.2.2.2.2.2.2.2 then
 (k ((ady.2.2.2.2.2.2.1,ady.2.2.2.2.2.2.2.1,ady.2.2.2.2.2.2.2.2.1,ady.2.2.2.2.2.2.2.2.2.1,ady.2.2.2.2.2.2.2.2.2.2))) else none)
def M.jh(t' jr:Int)(kH nV:aC)(lZ:au):Option (Int×Int×aC×aC×au):=M.Ed t' jr kH nV lZ some
def C.jh:S.jh.ok X0 λx=>M.jh x.1.1.1 x.1.1.2.1 x.1.1.2.2.1 x.1.1.2.2.2.1 x.1.1.2.2.2.2.1:=fnS (λx=>M.Ed x.1.1.1 x.1.1.2.1 x.1.1.2.2.1 x.1.1.2.2.2.1 x.1.1.2.2.2.2.1) [] [F.Cb] (by intros;simp only[M.Ed,nb]<;>rfl)
def M.Iz{R:Type}(n' gV:Int)(iU iJ:aC)(jV:au)(k:Int->Option R):Option R:=
 bif n'==15 then(k 1) else
 (bif n'==14 then(k 2) else
 (bif n'==13 then(k 5) else
 (bif n'==12 then((M.lC gV).bind λaCd=>(k aCd)) else
 (bif n'==11 then(k 11) else
 (bif n'==9 then(k 13) else
 (bif n'==10 then(k 13) else
 (bif n'==6 then(k 14) else
 (bif n'==1 then(k 15) else
 (bif n'==2 then(k 15) else
 (bif n'==3 then(k 15) else
 (bif n'==4 then(k 15) else
 (bif n'==5 then(k 15) else(bif n'==7 then(k 15) else(bif n'==8 then(k 15) else(k 0)))))))))))))))
def M.lU(n' gV:Int)(iU iJ:aC)(jV:au):Option (Int):=M.Iz n' gV iU iJ jV some
def C.lU:S.lU.ok X0 λx=>M.lU x.1.1.1 x.1.1.2.1 x.1.1.2.2.1 x.1.1.2.2.2.1 x.1.1.2.2.2.2.1:=fnS (λx=>M.Iz x.1.1.1 x.1.1.2.1 x.1.1.2.2.1 x.1.1.2.2.2.1 x.1.1.2.2.2.2.1) [fe C.lC] [] (by intros;unfold M.Iz;repeat' first|with_reducible apply ig|with_reducible apply Ho|with_reducible apply Hq|with_reducible apply Hr|with_reducible apply Ht|(intro _)|apply ig|rfl)
def M.LW{R:Type}(p:Int)(p1 p2 p3 p4:Bool)(k:Bool->Option R):Option R:=
 (M.cO p 1 15).bind λaCe=>(bif aCe then(bif !p1 then(k true) else(k (p==14))) else(k false))
def M.qG(p:Int)(p1 p2 p3 p4:Bool):Option (Bool):=M.LW p p1 p2 p3 p4 some
def C.qG:S.qG.ok X0 λx=>M.qG x.1.1.1 x.1.1.2.1 x.1.1.2.2.1 x.1.1.2.2.2.1 x.1.1.2.2.2.2.1:=fnS (λx=>M.LW x.1.1.1 x.1.1.2.1 x.1.1.2.2.1 x.1.1.2.2.2.1 x.1.1.2.2.2.2.1) [fe C.cO] [] (by intros;unfold M.LW;repeat' first|with_reducible apply ig|with_reducible apply Ho|with_reducible apply Hq|with_reducible apply Hr|with_reducible apply Ht|(intro _)|apply ig|rfl)
def M.NT{R:Type}(n' gV:Int)(iU iJ:aC)(jV:au)(p:Int)(p1 p2 p3 p4:Bool)(k:Bool->Option R):Option R:=
 (M.lU n' gV iU iJ jV).bind λAZ=>
 ((M.qG p p1 p2 p3 p4).bind λaCf=>
 (bif !aCf then(k false) else
 (bif AZ==0 then(k false) else
 (bif p2 then
 (bif n'==13 then(k false) else
 (bif p3 then
 (bif n'==12 then
 (bif gV==62 then(k false) else
 (bif p4 then
 (bif n'==11 then(k false) else
 (bif n'==9 then(k false) else
 (bif n'==4 then(k false) else
 (bif p1 then(bif n'==9 then(k true) else(k (decide (AZ>=p)))) else(k (decide (AZ>=p))))))) else
 (bif p1 then(bif n'==9 then(k true) else(k (decide (AZ>=p)))) else(k (decide (AZ>=p)))))) else
 (bif p4 then
 (bif n'==11 then(k false) else
 (bif n'==9 then(k false) else
 (bif n'==4 then(k false) else
 (bif p1 then(bif n'==9 then(k true) else(k (decide (AZ>=p)))) else(k (decide (AZ>=p))))))) else
 (bif p1 then(bif n'==9 then(k true) else(k (decide (AZ>=p)))) else(k (decide (AZ>=p)))))) else
 (bif p4 then
 (bif n'==11 then(k false) else
 (bif n'==9 then(k false) else
 (bif n'==4 then(k false) else
 (bif p1 then(bif n'==9 then(k true) else(k (decide (AZ>=p)))) else(k (decide (AZ>=p))))))) else
 (bif p1 then(bif n'==9 then(k true) else(k (decide (AZ>=p)))) else(k (decide (AZ>=p))))))) else
 (bif p3 then
 (bif n'==12 then
 (bif gV==62 then(k false) else
 (bif p4 then
 (bif n'==11 then(k false) else
 (bif n'==9 then(k false) else
 (bif n'==4 then(k false) else
 (bif p1 then(bif n'==9 then(k true) else(k (decide (AZ>=p)))) else(k (decide (AZ>=p))))))) else
 (bif p1 then(bif n'==9 then(k true) else(k (decide (AZ>=p)))) else(k (decide (AZ>=p)))))) else
 (bif p4 then
 (bif n'==11 then(k false) else
 (bif n'==9 then(k false) else
 (bif n'==4 then(k false) else
 (bif p1 then(bif n'==9 then(k true) else(k (decide (AZ>=p)))) else(k (decide (AZ>=p))))))) else
 (bif p1 then(bif n'==9 then(k true) else(k (decide (AZ>=p)))) else(k (decide (AZ>=p)))))) else
 (bif p4 then
 (bif n'==11 then(k false) else
 (bif n'==9 then(k false) else
 (bif n'==4 then(k false) else
 (bif p1 then(bif n'==9 then(k true) else(k (decide (AZ>=p)))) else(k (decide (AZ>=p))))))) else
 (bif p1 then(bif n'==9 then(k true) else(k (decide (AZ>=p)))) else(k (decide (AZ>=p))))))))))
def M.Bl(n' gV:Int)(iU iJ:aC)(jV:au)(p:Int)(p1 p2 p3 p4:Bool):Option (Bool):=M.NT n' gV iU iJ jV p p1 p2 p3 p4 some
def C.Bl:S.Bl.ok X0 λx=>M.Bl x.1.1.1 x.1.1.2.1 x.1.1.2.2.1 x.1.1.2.2.2.1 x.1.1.2.2.2.2.1 x.1.2.1.1 x.1.2.1.2.1 x.1.2.1.2.2.1 x.1.2.1.2.2.2.1 x.1.2.1.2.2.2.2.1:=fnS (λx=>M.NT x.1.1.1 x.1.1.2.1 x.1.1.2.2.1 x.1.1.2.2.2.1 x.1.1.2.2.2.2.1 x.1.2.1.1 x.1.2.1.2.1 x.1.2.1.2.2.1 x.1.2.1.2.2.2.1 x.1.2.1.2.2.2.2.1) [fe C.lU,fe C.qG] [] (by intros;unfold M.NT;repeat' first|with_reducible apply ig|with_reducible apply Ho|with_reducible apply Hq|with_reducible apply Hr|with_reducible apply Ht|(intro _)|apply ig|rfl)
def M.QY{R:Type}(s':aC)(k:Int×Int×aC×au×Int->Option R):Option R:=
 k ((1,0,s',[],0))
def M.fE(s':aC):Option (Int×Int×aC×au×Int):=M.QY s' some
def C.fE:S.fE.ok X0 λx=>M.fE x.1.1:=fnS (λx=>M.QY x.1.1) [] [] (by intros;simp only[M.QY,nb]<;>rfl)
def M.QZ{R:Type}(k:Int×Int×aC×au×Int->Option R):Option R:=
 k ((2,0,[],[],0))
def M.wo:Option (Int×Int×aC×au×Int):=M.QZ some
def C.wo:S.wo.ok X0 λx=>M.wo:=fnS (λx=>M.QZ) [] [] (by intros;simp only[M.QZ,nb]<;>rfl)
def M.LX{R:Type}(v0:Int)(k:Int×Bool×Bool×Bool×Bool->Option R):Option R:=
 M.oM.bind λafY=>
 (k ((afY.1,afY.2.1,afY.2.2.1,afY.2.2.2.1,afY.2.2.2.2)))
def M.CY(v0:Int):Option (Int×Bool×Bool×Bool×Bool):=M.LX v0 some
def C.CY:S.CY.ok X0 λx=>M.CY x.1.1:=fnS (λx=>M.LX x.1.1) [fe C.oM] [] (by intros;simp only[M.LX,nb]<;>rfl)
def M.UL{R:Type}(list:au)(k:Int×Int×aC×au×Int->Option R):Option R:=
 k ((6,0,[],list,0))
def M.iR(list:au):Option (Int×Int×aC×au×Int):=M.UL list some
def C.iR:S.iR.ok X0 λx=>M.iR x.1.1:=fnS (λx=>M.UL x.1.1) [] [] (by intros;simp only[M.UL,nb]<;>rfl)
def M.Q5{R:Type}(d d1:Int)(d2:aC)(d3:au)(d4:Int)(k:Int×Int×aC×au×Int->Option R):Option R:=
 k ((4,4,[],[[D.int .i64 d,D.int .i64 d1,D.str d2,D.sl false 5 d3,D.int .i64 d4]],0))
def M.wu(d d1:Int)(d2:aC)(d3:au)(d4:Int):Option (Int×Int×aC×au×Int):=M.Q5 d d1 d2 d3 d4 some
def C.wu:S.wu.ok X0 λx=>M.wu x.1.1.1 x.1.1.2.1 x.1.1.2.2.1 x.1.1.2.2.2.1 x.1.1.2.2.2.2.1:=fnS (λx=>M.Q5 x.1.1.1 x.1.1.2.1 x.1.1.2.2.1 x.1.1.2.2.2.1 x.1.1.2.2.2.2.1) [] [] (by intros;simp only[M.Q5,nb]<;>rfl)
def M.PY{R:Type}(d d1:Int)(d2:aC)(d3:au)(d4:Int)(k:Int×Int×aC×au×Int->Option R):Option R:=
 k ((5,0,[],[[D.int .i64 d,D.int .i64 d1,D.str d2,D.sl false 5 d3,D.int .i64 d4]],0))
def M.sZ(d d1:Int)(d2:aC)(d3:au)(d4:Int):Option (Int×Int×aC×au×Int):=M.PY d d1 d2 d3 d4 some
def C.sZ:S.sZ.ok X0 λx=>M.sZ x.1.1.1 x.1.1.2.1 x.1.1.2.2.1 x.1.1.2.2.2.1 x.1.1.2.2.2.2.1:=fnS (λx=>M.PY x.1.1.1 x.1.1.2.1 x.1.1.2.2.1 x.1.1.2.2.2.1 x.1.1.2.2.2.2.1) [] [] (by intros;simp only[M.PY,nb]<;>rfl)
def M.xK{R:Type}(eY:Int->Int->aC->aC->au->Int->Bool->Bool->Bool->Bool->Option (Int×Int×aC×au×Int))(v9:au)(v10 x' mM:Int)(nY:aC)(zy:Int)(s:Int×au)(kn:Int×au->Option R)(ke:Int×au->Option R):Option R:=match s with
 |(v11,BO)=>
 bif decide (v11<v10) then
 ((idx v9 v11).bind λaqF=>
 (rJ 5 aqF λarN arO arP arQ afZ=>
 (bif decide (v11>0) then
 ((M.fE [44]).bind λaCg=>
 (M.wo.bind λaCh=>
 (jA BO [lG aCg,lG aCh] 64 λza=>((M.CY v11).bind λaf0=>
 ((eY arN arO arP arQ afZ af0.1 af0.2.1 af0.2.2.1 af0.2.2.2.1 af0.2.2.2.2).bind λaCi=>
 (jA za [lG aCi] 64 λzb=>(kn ((i64.wrap (v11+1),zb))))))))) else
 ((M.CY v11).bind λaf4=>
 ((eY arN arO arP arQ afZ af4.1 af4.2.1 af4.2.2.1 af4.2.2.2.1 af4.2.2.2.2).bind λaCj=>
 (jA BO [lG aCj] 64 λza=>(kn ((i64.wrap (v11+1),za))))))))) else(ke ((v11,BO)))
def M.IB(eY:Int->Int->aC->aC->au->Int->Bool->Bool->Bool->Bool->Option (Int×Int×aC×au×Int))(v9:au)(v10 x' mM:Int)(nY:aC)(zy:Int)(s:Int×au):=M.xK eY v9 v10 x' mM nY zy s (λs=>some (Sum.inl s)) λt=>some (Sum.inr t)
def M.FK(eY:Int->Int->aC->aC->au->Int->Bool->Bool->Bool->Bool->Option (Int×Int×aC×au×Int))(v9:au)(v10 x' mM:Int)(nY:aC)(zy:Int)(s:Int×au):Option (Int×au):=fF (M.IB eY v9 v10 x' mM nY zy) s
def F.FK{eY:Int->Int->aC->aC->au->Int->Bool->Bool->Bool->Bool->Option (Int×Int×aC×au×Int)}(Dk:S.kM.ok X0 λx=>eY x.1.1.1 x.1.1.2.1 x.1.1.2.2.1 x.1.1.2.2.2.1 x.1.1.2.2.2.2.1 x.1.2.1.1 x.1.2.1.2.1 x.1.2.1.2.2.1 x.1.2.1.2.2.2.1 x.1.2.1.2.2.2.2.1):LE X0 83:=le 3 (Gz [eP 1 (aqc 84 [] []),eP 4 (pP 300000 0),eP 5 (pO 300001 0),eP 9 (pL false 5),eP 10 pI,eP 11 pI] [eP 300000 (cB 49 [pI,pI,pS,YT 5,pI]),eP 300001 (cA false false 0 5)]) (λx=>(x.1.2.2.2.2.2.1,x.2.2.1)) (λx s=>((((),()),(),(),x.1.2.2.2.1,x.1.2.2.2.2.1,s.1,()),((x.2.1.1,x.2.1.2.1,x.2.1.2.2.1,(),x.2.1.2.2.2.2.1,()),s.2,()))) (λx=> .leaf (Int×au) (λt=>(Ex.exit 0,{tm:=[(1,V.clo 84 [] []),(4,V.ptr 300000 0),(5,V.own 300001 0),(9,V.d (D.sl false 5 x.1.2.2.2.1)),(10,V.d (D.int .i64 x.1.2.2.2.2.1)),(11,V.d (D.int .i64 t.1)),(12,V.d (D.bool false))],mem:=[(300000,Cell.box 49 [V.d (D.int .i64 x.2.1.1),V.d (D.int .i64 x.2.1.2.1),V.d (D.str x.2.1.2.2.1),V.nil 5,V.d (D.int .i64 x.2.1.2.2.2.2.1)]),(300001,Cell.arr false false 0 5 t.2)]}))) (λx=>M.xK eY x.1.2.2.2.1 x.1.2.2.2.2.1 x.2.1.1 x.2.1.2.1 x.2.1.2.2.1 x.2.1.2.2.2.2.1) [fe C.fE,fe C.wo,fe C.CY,fe Dk] [] (by rintro _ _ ⟨_,_⟩ _ _<;>simp only[jA,lG,rJ,M.xK,nb]<;>rfl)
def M.zi{R:Type}(eY:Int->Int->aC->aC->au->Int->Bool->Bool->Bool->Bool->Option (Int×Int×aC×au×Int))(kids:au)(k:Int×Int×aC×au×Int->Option R):Option R:=
 (M.FK eY kids ((↑kids.length:Int)) 0 0 [] 0 ((0,[]))).bind λaCk=>
 ((M.iR aCk.2).bind λaf5=>
 ((M.wu af5.1 af5.2.1 af5.2.2.1 (dI af5.2.2.2.1) af5.2.2.2.2).bind λaf6=>
 ((M.sZ af6.1 af6.2.1 af6.2.2.1 (dI af6.2.2.2.1) af6.2.2.2.2).bind λaCl=>
 (k ((CJ aCl))))))
def C.Y5{eY:Int->Int->aC->aC->au->Int->Bool->Bool->Bool->Bool->Option (Int×Int×aC×au×Int)}(Dk:S.kM.ok X0 λx=>eY x.1.1.1 x.1.1.2.1 x.1.1.2.2.1 x.1.1.2.2.2.1 x.1.1.2.2.2.2.1 x.1.2.1.1 x.1.2.1.2.1 x.1.2.1.2.2.1 x.1.2.1.2.2.2.1 x.1.2.1.2.2.2.2.1):S.Ac.ok X0 λx=>M.zi eY x.1.1 some:=fnS (λx=>M.zi eY x.1.1) [fe C.iR,fe C.wu,fe C.sZ] [F.FK Dk] (by intros;simp only[CJ,M.zi,nb]<;>rfl)
def M.FM{R:Type}(op' k':Int)(k:Int->Option R):Option R:=
 (M.lC op').bind λaa6=>
 (bif aa6==3 then(bif k'==0 then(k 3) else(k 4)) else
 (bif aa6==4 then(bif k'==0 then(k 4) else(k 5)) else
 (bif aa6==6 then(bif k'==0 then(k 7) else(k 7)) else
 (bif aa6==7 then(bif k'==0 then(k 8) else(k 8)) else
 (bif aa6==8 then(bif k'==0 then(k 8) else(k 9)) else
 (bif aa6==9 then(bif k'==0 then(k 9) else(k 10)) else
 (bif aa6==10 then(bif k'==0 then(k 10) else(k 11)) else(bif k'==0 then(k 13) else(k 11)))))))))
def M.uG(op' k':Int):Option (Int):=M.FM op' k' some
def C.uG:S.uG.ok X0 λx=>M.uG x.1.1 x.1.2.1:=fnS (λx=>M.FM x.1.1 x.1.2.1) [fe C.lC] [] (by intros;unfold M.FM;repeat' first|with_reducible apply ig|with_reducible apply Ho|with_reducible apply Hq|with_reducible apply Hr|with_reducible apply Ht|(intro _)|apply ig|rfl)
def M.FN{R:Type}(n' gV:Int)(iU iJ:aC)(jV:au)(k':Int)(k:Int->Option R):Option R:=
 bif n'==15 then(bif decide (k'>0) then(k 1) else(k 14)) else
 (bif n'==14 then(bif decide (k'>0) then(k 2) else(k 3)) else
 (bif n'==13 then(k 5) else
 (bif n'==11 then(k 11) else(bif n'==12 then((M.uG gV k').bind λaCm=>(k aCm)) else(k 14)))))
def M.qY(n' gV:Int)(iU iJ:aC)(jV:au)(k':Int):Option (Int):=M.FN n' gV iU iJ jV k' some
def C.qY:S.qY.ok X0 λx=>M.qY x.1.1.1 x.1.1.2.1 x.1.1.2.2.1 x.1.1.2.2.2.1 x.1.1.2.2.2.2.1 x.1.2.1:=fnS (λx=>M.FN x.1.1.1 x.1.1.2.1 x.1.1.2.2.1 x.1.1.2.2.2.1 x.1.1.2.2.2.2.1 x.1.2.1) [fe C.uG] [] (by intros;simp only[M.FN,nb]<;>rfl)
def M.Kv{R:Type}(n' gV:Int)(iU iJ:aC)(jV:au)(k' p:Int)(p1 p2 p3 p4:Bool)(k:Int×Bool×Bool×Bool×Bool->Option R):Option R:=
 (M.qG p p1 p2 p3 p4).bind λaCn=>
 (bif !aCn then(k ((0,false,false,false,false))) else
 ((M.cO k' 0 (i64.wrap ((↑jV.length:Int) - 1))).bind λaCo=>
 (bif !aCo then(k ((0,false,false,false,false))) else
 ((M.lU n' gV iU iJ jV).bind λaCp=>
 (bif aCp==0 then(k ((0,false,false,false,false))) else
 ((M.lU n' gV iU iJ jV).bind λaCq=>
 (bif aCq==15 then
 (M.oM.bind λaf7=>
 (k ((af7.1,af7.2.1,af7.2.2.1,af7.2.2.2.1,af7.2.2.2.2)))) else
 (bif n'==13 then
 (bif decide ((↑jV.length:Int)>1) then
 (M.oM.bind λaf8=>
 (k ((af8.1,af8.2.1,af8.2.2.1,af8.2.2.2.1,af8.2.2.2.2)))) else
 ((M.qY n' gV iU iJ jV k').bind λQ7=>
 (bif n'==11 then(k ((Q7,n'==6,p2,p3,false))) else
 (bif n'==9 then(k ((Q7,n'==6,p2,p3,false))) else
 (bif n'==10 then(k ((Q7,n'==6,p2,p3,false))) else
 (bif n'==6 then(k ((Q7,n'==6,p2,p3,false))) else
 (bif k'==0 then
 (bif p4 then(k ((Q7,n'==6,p2,p3,true))) else
 (bif k'==1 then
 (bif n'==12 then(k ((Q7,n'==6,p2,p3,gV==99))) else(k ((Q7,n'==6,p2,p3,false)))) else(k ((Q7,n'==6,p2,p3,false))))) else
 (bif k'==1 then
 (bif n'==12 then(k ((Q7,n'==6,p2,p3,gV==99))) else(k ((Q7,n'==6,p2,p3,false)))) else(k ((Q7,n'==6,p2,p3,false))))))))))) else
 ((M.qY n' gV iU iJ jV k').bind λQ8=>
 (bif n'==11 then(k ((Q8,n'==6,p2,p3,false))) else
 (bif n'==9 then(k ((Q8,n'==6,p2,p3,false))) else
 (bif n'==10 then(k ((Q8,n'==6,p2,p3,false))) else
 (bif n'==6 then(k ((Q8,n'==6,p2,p3,false))) else
 (bif k'==0 then
 (bif p4 then(k ((Q8,n'==6,p2,p3,true))) else
 (bif k'==1 then
 (bif n'==12 then(k ((Q8,n'==6,p2,p3,gV==99))) else(k ((Q8,n'==6,p2,p3,false)))) else(k ((Q8,n'==6,p2,p3,false))))) else
 (bif k'==1 then
 (bif n'==12 then(k ((Q8,n'==6,p2,p3,gV==99))) else(k ((Q8,n'==6,p2,p3,false)))) else(k ((Q8,n'==6,p2,p3,false))))))))))))))))))
def M.uH(n' gV:Int)(iU iJ:aC)(jV:au)(k' p:Int)(p1 p2 p3 p4:Bool):Option (Int×Bool×Bool×Bool×Bool):=M.Kv n' gV iU iJ jV k' p p1 p2 p3 p4 some
def C.uH:S.uH.ok X0 λx=>M.uH x.1.1.1 x.1.1.2.1 x.1.1.2.2.1 x.1.1.2.2.2.1 x.1.1.2.2.2.2.1 x.1.2.1 x.1.2.2.1.1 x.1.2.2.1.2.1 x.1.2.2.1.2.2.1 x.1.2.2.1.2.2.2.1 x.1.2.2.1.2.2.2.2.1:=fnS (λx=>M.Kv x.1.1.1 x.1.1.2.1 x.1.1.2.2.1 x.1.1.2.2.2.1 x.1.1.2.2.2.2.1 x.1.2.1 x.1.2.2.1.1 x.1.2.2.1.2.1 x.1.2.2.1.2.2.1 x.1.2.2.1.2.2.2.1 x.1.2.2.1.2.2.2.2.1) [fe C.qG,fe C.cO,fe C.lU,fe C.oM,fe C.qY] [] (by intros;unfold M.Kv;repeat' first|with_reducible apply ig|with_reducible apply Ho|with_reducible apply Hq|with_reducible apply Hr|with_reducible apply Ht|(intro _)|apply ig|rfl)
def M.FP{R:Type}(n' gV:Int)(iU iJ:aC)(jV:au)(k':Int)(k:Bool->Option R):Option R:=
 bif k'==0 then(bif n'==9 then(k true) else(bif n'==10 then(k true) else(k (n'==15)))) else(k false)
def M.oD(n' gV:Int)(iU iJ:aC)(jV:au)(k':Int):Option (Bool):=M.FP n' gV iU iJ jV k' some
def C.oD:S.oD.ok X0 λx=>M.oD x.1.1.1 x.1.1.2.1 x.1.1.2.2.1 x.1.1.2.2.2.1 x.1.1.2.2.2.2.1 x.1.2.1:=fnS (λx=>M.FP x.1.1.1 x.1.1.2.1 x.1.1.2.2.1 x.1.1.2.2.2.1 x.1.1.2.2.2.2.1 x.1.2.1) [] [] (by intros;simp only[M.FP,nb]<;>rfl)
def M.Bq{R:Type}(jG:Int->Int->aC->aC->au->Int->Bool->Bool->Bool->Bool->Option (Int×Int×aC×au×Int))(eY:Int->Int->aC->aC->au->Int->Bool->Bool->Bool->Bool->Option (Int×Int×aC×au×Int))(t' jr:Int)(kH nV:aC)(lZ:au)(k' p:Int)(p1 p2 p3 p4:Bool)(k:Int×Int×aC×au×Int->Option R):Option R:=
 (M.jh t' jr kH nV lZ).bind λTz=>
 ((M.uH Tz.1 Tz.2.1 Tz.2.2.1 Tz.2.2.2.1 Tz.2.2.2.2 k' p p1 p2 p3 p4).bind λTA=>
 ((M.oD Tz.1 Tz.2.1 Tz.2.2.1 Tz.2.2.2.1 Tz.2.2.2.2 k').bind λaCr=>
 (bif aCr then
 ((idx lZ k').bind λaqG=>
 (rJ 5 aqG λaCs aCt aCu aCv anX=>
 ((jG aCs aCt aCu aCv anX TA.1 TA.2.1 TA.2.2.1 TA.2.2.2.1 TA.2.2.2.2).bind λaCw=>
 (k ((CJ aCw)))))) else
 ((idx lZ k').bind λaqH=>
 (rJ 5 aqH λaCx aCy aCz aCA anY=>
 ((eY aCx aCy aCz aCA anY TA.1 TA.2.1 TA.2.2.1 TA.2.2.2.1 TA.2.2.2.2).bind λaCB=>
 (k ((CJ aCB)))))))))
def C.aa7{jG:Int->Int->aC->aC->au->Int->Bool->Bool->Bool->Bool->Option (Int×Int×aC×au×Int)}{eY:Int->Int->aC->aC->au->Int->Bool->Bool->Bool->Bool->Option (Int×Int×aC×au×Int)}(Np:S.wU.ok X0 λx=>jG x.1.1.1 x.1.1.2.1 x.1.1.2.2.1 x.1.1.2.2.2.1 x.1.1.2.2.2.2.1 x.1.2.1.1 x.1.2.1.2.1 x.1.2.1.2.2.1 x.1.2.1.2.2.2.1 x.1.2.1.2.2.2.2.1)(Dk:S.kM.ok X0 λx=>eY x.1.1.1 x.1.1.2.1 x.1.1.2.2.1 x.1.1.2.2.2.1 x.1.1.2.2.2.2.1 x.1.2.1.1 x.1.2.1.2.1 x.1.2.1.2.2.1 x.1.2.1.2.2.2.1 x.1.2.1.2.2.2.2.1):S.zV.ok X0 λx=>M.Bq jG eY x.1.1.1 x.1.1.2.1 x.1.1.2.2.1 x.1.1.2.2.2.1 x.1.1.2.2.2.2.1 x.1.2.1 x.1.2.2.1.1 x.1.2.2.1.2.1 x.1.2.2.1.2.2.1 x.1.2.2.1.2.2.2.1 x.1.2.2.1.2.2.2.2.1 some:=fnS (λx=>M.Bq jG eY x.1.1.1 x.1.1.2.1 x.1.1.2.2.1 x.1.1.2.2.2.1 x.1.1.2.2.2.2.1 x.1.2.1 x.1.2.2.1.1 x.1.2.2.1.2.1 x.1.2.2.1.2.2.1 x.1.2.2.1.2.2.2.1 x.1.2.2.1.2.2.2.2.1) [fe C.jh,fe C.uH,fe C.oD,fe Np,fe Dk] [] (by intros;simp only[M.Bq,CJ,rJ];repeat' first|with_reducible apply ig|with_reducible apply Ho|with_reducible apply Hq|with_reducible apply Hr|with_reducible apply Ht|(intro _)|apply ig|rfl)
def M.Am{R:Type}(tokens c c1:au)(c2:Bool)(k:au×au×Bool->Option R):Option R:=
 bif((c.length+tokens.length) * 32).ble 140737488355328 then
 (bif(c.length+tokens.length).ble 140737488355328 then
 (bif aA (c++tokens) then(bif aA c1 then(k ((c++tokens,c1,c2))) else none) else none) else none) else none
def M.bU(tokens c c1:au)(c2:Bool):Option (au×au×Bool):=M.Am tokens c c1 c2 some
def C.bU:S.bU.ok X0 λx=>M.bU x.1.2.1 x.2.1.1 x.2.1.2.1 x.2.1.2.2.1:=fnS (λx=>M.Am x.1.2.1 x.2.1.1 x.2.1.2.1 x.2.1.2.2.1) [] [] (by intros;unfold M.Am;repeat' first|with_reducible apply ig|with_reducible apply Ho|with_reducible apply Hq|with_reducible apply Hr|with_reducible apply Ht|(intro _)|apply ig|rfl)
def M.NU{R:Type}(kind:Int)(k:Int×aC×Int->Option R):Option R:=
 (M.gZ kind).bind λaCC=>(k ((kind,aCC,0)))
def M.iO(kind:Int):Option (Int×aC×Int):=M.NU kind some
def C.iO:S.iO.ok X0 λx=>M.iO x.1.1:=fnS (λx=>M.NU x.1.1) [fe C.gZ] [] (by intros;simp only[M.NU,nb]<;>rfl)
def M.lV{R:Type}(bI:Int->Int->aC->aC->au->Int->Int->Bool->Bool->Bool->Bool->au->au->Bool->Option (au×au×Bool))(shut v18 x' mM:Int)(nY zy:aC)(BO:au)(Ou:Int)(Sv WM x'8 x'9:Bool)(s:Int×Bool×au×au)(kn:Int×Bool×au×au->Option R)(ke:Int×Bool×au×au->Option R):Option R:=match s with
 |(v19,v,anZ,an0)=>
 bif decide (v19<v18) then
 (bif decide (v19>0) then
 ((M.iO 36).bind λan1=>
 (bif aA anZ then
 (bif aA an0 then
 ((M.bU ([[D.int .i64 an1.1,D.str an1.2.1,D.int .i64 an1.2.2]]) anZ an0 v).bind λaf9=>
 (bif aA af9.1 then
 (bif aA af9.2.1 then
 ((bI x' mM nY zy BO v19 Ou Sv WM x'8 x'9 af9.1 af9.2.1 af9.2.2).bind λan2=>(kn ((i64.wrap (v19+1),an2.2.2,an2.1,an2.2.1)))) else none) else none)) else none) else none)) else
 (bif aA anZ then
 (bif aA an0 then
 ((bI x' mM nY zy BO v19 Ou Sv WM x'8 x'9 anZ an0 v).bind λan3=>(kn ((i64.wrap (v19+1),an3.2.2,an3.1,an3.2.1)))) else none) else none)) else(ke ((v19,v,anZ,an0)))
def M.lW(bI:Int->Int->aC->aC->au->Int->Int->Bool->Bool->Bool->Bool->au->au->Bool->Option (au×au×Bool))(shut v18 x' mM:Int)(nY zy:aC)(BO:au)(Ou:Int)(Sv WM x'8 x'9:Bool)(s:Int×Bool×au×au):=M.lV bI shut v18 x' mM nY zy BO Ou Sv WM x'8 x'9 s (λs=>some (Sum.inl s)) λt=>some (Sum.inr t)
def M.jM(bI:Int->Int->aC->aC->au->Int->Int->Bool->Bool->Bool->Bool->au->au->Bool->Option (au×au×Bool))(shut v18 x' mM:Int)(nY zy:aC)(BO:au)(Ou:Int)(Sv WM x'8 x'9:Bool)(s:Int×Bool×au×au):Option (Int×Bool×au×au):=fF (M.lW bI shut v18 x' mM nY zy BO Ou Sv WM x'8 x'9) s
def F.jM{bI:Int->Int->aC->aC->au->Int->Int->Bool->Bool->Bool->Bool->au->au->Bool->Option (au×au×Bool)}(vk:S.jf.ok X0 λx=>bI x.1.2.1.1 x.1.2.1.2.1 x.1.2.1.2.2.1 x.1.2.1.2.2.2.1 x.1.2.1.2.2.2.2.1 x.1.2.2.1 x.1.2.2.2.1.1 x.1.2.2.2.1.2.1 x.1.2.2.2.1.2.2.1 x.1.2.2.2.1.2.2.2.1 x.1.2.2.2.1.2.2.2.2.1 x.2.1.1 x.2.1.2.1 x.2.1.2.2.1):LE X0 256:=le 3 (Gz [eP 0 (pP 100000 0),eP 3 pI,eP 6 (pP 300000 0),eP 9 (pP 300001 0),eP 18 pI,eP 19 pI] [eP 100000 (cB 182 [pO 300002 0,pO 300003 0,pB]),eP 300000 (cB 53 [pI,pI,pS,pS,pL false 5]),eP 300001 (cB 65 [pI,pB,pB,pB,pB]),eP 300002 (cA false true 0 3),eP 300003 (cA false true 0 2)]) (λx=>(x.1.2.2.2.2.2.1,x.2.1.2.2.1,x.2.2.2.2.1,x.2.2.2.2.2.1)) (λx s=>(((),x.1.2.1,(),(),x.1.2.2.2.2.1,s.1,()),(((),(),s.2.1,()),(x.2.2.1.1,x.2.2.1.2.1,x.2.2.1.2.2.1,x.2.2.1.2.2.2.1,x.2.2.1.2.2.2.2.1,()),(x.2.2.2.1.1,x.2.2.2.1.2.1,x.2.2.2.1.2.2.1,x.2.2.2.1.2.2.2.1,x.2.2.2.1.2.2.2.2.1,()),s.2.2.1,s.2.2.2,()))) (λx=> .leaf (Int×Bool×au×au) (λt=>(Ex.exit 0,{tm:=[(0,V.ptr 100000 0),(3,V.d (D.int .i64 x.1.2.1)),(6,V.ptr 300000 0),(9,V.ptr 300001 0),(18,V.d (D.int .i64 x.1.2.2.2.2.1)),(19,V.d (D.int .i64 t.1)),(20,V.d (D.bool false))],mem:=[(100000,Cell.box 182 [V.own 300002 0,V.own 300003 0,V.d (D.bool t.2.1)]),(300000,Cell.box 53 [V.d (D.int .i64 x.2.2.1.1),V.d (D.int .i64 x.2.2.1.2.1),V.d (D.str x.2.2.1.2.2.1),V.d (D.str x.2.2.1.2.2.2.1),V.d (D.sl false 5 x.2.2.1.2.2.2.2.1)]),(300001,Cell.box 65 [V.d (D.int .i64 x.2.2.2.1.1),V.d (D.bool x.2.2.2.1.2.1),V.d (D.bool x.2.2.2.1.2.2.1),V.d (D.bool x.2.2.2.1.2.2.2.1),V.d (D.bool x.2.2.2.1.2.2.2.2.1)]),(300002,Cell.arr false true 0 3 t.2.2.1),(300003,Cell.arr false true 0 2 t.2.2.2)]}))) (λx=>M.lV bI x.1.2.1 x.1.2.2.2.2.1 x.2.2.1.1 x.2.2.1.2.1 x.2.2.1.2.2.1 x.2.2.1.2.2.2.1 x.2.2.1.2.2.2.2.1 x.2.2.2.1.1 x.2.2.2.1.2.1 x.2.2.2.1.2.2.1 x.2.2.2.1.2.2.2.1 x.2.2.2.1.2.2.2.2.1) [fe C.iO,fe C.bU,fe vk] [] (by rintro _ _ ⟨_,_,_,_⟩ _ _<;>unfold M.lV<;>repeat' first|with_reducible apply ig|with_reducible apply Ho|with_reducible apply Hq|with_reducible apply Hr|with_reducible apply Ht|(intro _)|apply ig|rfl)
def M.pU{R:Type}(bI:Int->Int->aC->aC->au->Int->Int->Bool->Bool->Bool->Bool->au->au->Bool->Option (au×au×Bool))(t' jr:Int)(kH nV:aC)(lZ:au)(open' shut p:Int)(p1 p2 p3 p4:Bool)(c c1:au)(c2:Bool)(k:au×au×Bool->Option R):Option R:=
 (M.iO open').bind λan4=>
 (bif aA c then
 (bif aA c1 then
 ((M.bU ([[D.int .i64 an4.1,D.str an4.2.1,D.int .i64 an4.2.2]]) c c1 c2).bind λan5=>
 ((M.jM bI shut ((↑lZ.length:Int)) t' jr kH nV lZ p p1 p2 p3 p4 ((0,an5.2.2,an5.1,an5.2.1))).bind λaga=>
 ((M.iO shut).bind λan6=>
 (bif aA aga.2.2.1 then
 (bif aA aga.2.2.2 then
 ((M.bU ([[D.int .i64 an6.1,D.str an6.2.1,D.int .i64 an6.2.2]]) aga.2.2.1 aga.2.2.2 aga.2.1).bind λagb=>
 (bif aA agb.1 then(bif aA agb.2.1 then(k ((agb.1,agb.2.1,agb.2.2))) else none) else none)) else none) else none)))) else none) else none)
def C.Q9{bI:Int->Int->aC->aC->au->Int->Int->Bool->Bool->Bool->Bool->au->au->Bool->Option (au×au×Bool)}(vk:S.jf.ok X0 λx=>bI x.1.2.1.1 x.1.2.1.2.1 x.1.2.1.2.2.1 x.1.2.1.2.2.2.1 x.1.2.1.2.2.2.2.1 x.1.2.2.1 x.1.2.2.2.1.1 x.1.2.2.2.1.2.1 x.1.2.2.2.1.2.2.1 x.1.2.2.2.1.2.2.2.1 x.1.2.2.2.1.2.2.2.2.1 x.2.1.1 x.2.1.2.1 x.2.1.2.2.1):S.mF.ok X0 λx=>M.pU bI x.1.2.1.1 x.1.2.1.2.1 x.1.2.1.2.2.1 x.1.2.1.2.2.2.1 x.1.2.1.2.2.2.2.1 x.1.2.2.1 x.1.2.2.2.1 x.1.2.2.2.2.1.1 x.1.2.2.2.2.1.2.1 x.1.2.2.2.2.1.2.2.1 x.1.2.2.2.2.1.2.2.2.1 x.1.2.2.2.2.1.2.2.2.2.1 x.2.1.1 x.2.1.2.1 x.2.1.2.2.1 some:=fnS (λx=>M.pU bI x.1.2.1.1 x.1.2.1.2.1 x.1.2.1.2.2.1 x.1.2.1.2.2.2.1 x.1.2.1.2.2.2.2.1 x.1.2.2.1 x.1.2.2.2.1 x.1.2.2.2.2.1.1 x.1.2.2.2.2.1.2.1 x.1.2.2.2.2.1.2.2.1 x.1.2.2.2.2.1.2.2.2.1 x.1.2.2.2.2.1.2.2.2.2.1 x.2.1.1 x.2.1.2.1 x.2.1.2.2.1) [fe C.iO,fe C.bU] [F.jM vk] (by intros;unfold M.pU;repeat' first|with_reducible apply ig|with_reducible apply Ho|with_reducible apply Hq|with_reducible apply Hr|with_reducible apply Ht|(intro _)|apply ig|rfl)
def M.dX{R:Type}(bI:Int->Int->aC->aC->au->Int->Int->Bool->Bool->Bool->Bool->au->au->Bool->Option (au×au×Bool))(fP:Int->Int->aC->aC->au->Int->Int->Int->Bool->Bool->Bool->Bool->au->au->Bool->Option (au×au×Bool))(t' jr:Int)(kH nV:aC)(lZ:au)(p:Int)(p1 p2 p3 p4:Bool)(c c1:au)(c2:Bool)(k:au×au×Bool->Option R):Option R:=
 bif t'==9 then
 ((M.iO jr).bind λan7=>
 (bif aA c then
 (bif aA c1 then
 ((M.bU ([[D.int .i64 an7.1,D.str an7.2.1,D.int .i64 an7.2.2]]) c c1 c2).bind λagc=>
 (bif aA agc.1 then
 (bif aA agc.2.1 then
 ((bI t' jr kH nV lZ 0 p p1 p2 p3 p4 agc.1 agc.2.1 agc.2.2).bind λagd=>
 (bif aA agd.1 then(bif aA agd.2.1 then(k ((agd.1,agd.2.1,agd.2.2))) else none) else none)) else none) else none)) else none) else none)) else
 (bif t'==11 then
 ((M.iO jr).bind λan8=>
 (bif aA c then
 (bif aA c1 then
 ((M.bU ([[D.int .i64 an8.1,D.str an8.2.1,D.int .i64 an8.2.2]]) c c1 c2).bind λagf=>
 (bif aA agf.1 then
 (bif aA agf.2.1 then
 ((bI t' jr kH nV lZ 0 p p1 p2 p3 p4 agf.1 agf.2.1 agf.2.2).bind λagh=>
 (bif aA agh.1 then(bif aA agh.2.1 then(k ((agh.1,agh.2.1,agh.2.2))) else none) else none)) else none) else none)) else none) else none)) else
 (bif t'==6 then
 ((M.iO 68).bind λan9=>
 (bif aA c then
 (bif aA c1 then
 ((M.bU ([[D.int .i64 an9.1,D.str an9.2.1,D.int .i64 an9.2.2]]) c c1 c2).bind λagi=>
 (bif aA agi.1 then
 (bif aA agi.2.1 then
 ((bI t' jr kH nV lZ 0 p p1 p2 p3 p4 agi.1 agi.2.1 agi.2.2).bind λagj=>
 (bif aA agj.1 then(bif aA agj.2.1 then(k ((agj.1,agj.2.1,agj.2.2))) else none) else none)) else none) else none)) else none) else none)) else
 (bif t'==10 then
 (bif aA c then
 (bif aA c1 then
 ((bI t' jr kH nV lZ 0 p p1 p2 p3 p4 c c1 c2).bind λagk=>
 ((M.iO jr).bind λaoa=>
 (bif aA agk.1 then
 (bif aA agk.2.1 then
 ((M.bU ([[D.int .i64 aoa.1,D.str aoa.2.1,D.int .i64 aoa.2.2]]) agk.1 agk.2.1 agk.2.2).bind λagl=>
 (bif aA agl.1 then(bif aA agl.2.1 then(k ((agl.1,agl.2.1,agl.2.2))) else none) else none)) else none) else none))) else none) else none) else
 (bif t'==13 then
 (bif decide ((↑lZ.length:Int)>1) then
 (bif aA c then
 (bif aA c1 then
 ((fP t' jr kH nV lZ 32 33 p p1 p2 p3 p4 c c1 c2).bind λagm=>
 ((M.iO 24).bind λaob=>
 (bif aA agm.1 then
 (bif aA agm.2.1 then
 ((M.bU ([[D.int .i64 aob.1,D.str aob.2.1,D.int .i64 aob.2.2],[D.int .i64 6,D.str kH,D.int .i64 0]]) agm.1 agm.2.1 agm.2.2).bind λagn=>
 (bif aA agn.1 then(bif aA agn.2.1 then(k ((agn.1,agn.2.1,agn.2.2))) else none) else none)) else none) else none))) else none) else none) else
 (bif aA c then
 (bif aA c1 then
 ((bI t' jr kH nV lZ 0 p p1 p2 p3 p4 c c1 c2).bind λagp=>
 ((M.iO 24).bind λaoc=>
 (bif aA agp.1 then
 (bif aA agp.2.1 then
 ((M.bU ([[D.int .i64 aoc.1,D.str aoc.2.1,D.int .i64 aoc.2.2],[D.int .i64 6,D.str kH,D.int .i64 0]]) agp.1 agp.2.1 agp.2.2).bind λagq=>
 (bif aA agq.1 then(bif aA agq.2.1 then(k ((agq.1,agq.2.1,agq.2.2))) else none) else none)) else none) else none))) else none) else none)) else
 (bif t'==14 then
 (bif aA c then
 (bif aA c1 then
 ((bI t' jr kH nV lZ 0 p p1 p2 p3 p4 c c1 c2).bind λagr=>
 ((M.iO 65).bind λaod=>
 (bif aA agr.1 then
 (bif aA agr.2.1 then
 ((M.bU ([[D.int .i64 aod.1,D.str aod.2.1,D.int .i64 aod.2.2]]) agr.1 agr.2.1 agr.2.2).bind λags=>
 (bif aA ags.1 then
 (bif aA ags.2.1 then
 ((bI t' jr kH nV lZ 1 p p1 p2 p3 p4 ags.1 ags.2.1 ags.2.2).bind λagt=>
 ((M.iO 66).bind λaoe=>
 (bif aA agt.1 then
 (bif aA agt.2.1 then
 ((M.bU ([[D.int .i64 aoe.1,D.str aoe.2.1,D.int .i64 aoe.2.2]]) agt.1 agt.2.1 agt.2.2).bind λagu=>
 (bif aA agu.1 then
 (bif aA agu.2.1 then
 ((bI t' jr kH nV lZ 2 p p1 p2 p3 p4 agu.1 agu.2.1 agu.2.2).bind λagv=>
 (bif aA agv.1 then(bif aA agv.2.1 then(k ((agv.1,agv.2.1,agv.2.2))) else none) else none)) else none) else none)) else none) else none))) else none) else none)) else none) else none))) else none) else none) else
 (bif aA c then
 (bif aA c1 then
 ((bI t' jr kH nV lZ 0 p p1 p2 p3 p4 c c1 c2).bind λTB=>
 (bif jr !=99 then
 ((M.iO jr).bind λaof=>
 (bif aA TB.1 then
 (bif aA TB.2.1 then
 ((M.bU ([[D.int .i64 aof.1,D.str aof.2.1,D.int .i64 aof.2.2]]) TB.1 TB.2.1 TB.2.2).bind λagw=>
 (bif aA agw.1 then
 (bif aA agw.2.1 then
 ((bI t' jr kH nV lZ 1 p p1 p2 p3 p4 agw.1 agw.2.1 agw.2.2).bind λagx=>
 (bif aA agx.1 then(bif aA agx.2.1 then(k ((agx.1,agx.2.1,agx.2.2))) else none) else none)) else none) else none)) else none) else none)) else
 (bif aA TB.1 then
 (bif aA TB.2.1 then
 ((bI t' jr kH nV lZ 1 p p1 p2 p3 p4 TB.1 TB.2.1 TB.2.2).bind λagy=>
 (bif aA agy.1 then(bif aA agy.2.1 then(k ((agy.1,agy.2.1,agy.2.2))) else none) else none)) else none) else none))) else none) else none))))))
def C.Oi{bI:Int->Int->aC->aC->au->Int->Int->Bool->Bool->Bool->Bool->au->au->Bool->Option (au×au×Bool)}{fP:Int->Int->aC->aC->au->Int->Int->Int->Bool->Bool->Bool->Bool->au->au->Bool->Option (au×au×Bool)}(vk:S.jf.ok X0 λx=>bI x.1.2.1.1 x.1.2.1.2.1 x.1.2.1.2.2.1 x.1.2.1.2.2.2.1 x.1.2.1.2.2.2.2.1 x.1.2.2.1 x.1.2.2.2.1.1 x.1.2.2.2.1.2.1 x.1.2.2.2.1.2.2.1 x.1.2.2.2.1.2.2.2.1 x.1.2.2.2.1.2.2.2.2.1 x.2.1.1 x.2.1.2.1 x.2.1.2.2.1)(EI:S.mF.ok X0 λx=>fP x.1.2.1.1 x.1.2.1.2.1 x.1.2.1.2.2.1 x.1.2.1.2.2.2.1 x.1.2.1.2.2.2.2.1 x.1.2.2.1 x.1.2.2.2.1 x.1.2.2.2.2.1.1 x.1.2.2.2.2.1.2.1 x.1.2.2.2.2.1.2.2.1 x.1.2.2.2.2.1.2.2.2.1 x.1.2.2.2.2.1.2.2.2.2.1 x.2.1.1 x.2.1.2.1 x.2.1.2.2.1):S.lq.ok X0 λx=>M.dX bI fP x.1.2.1.1 x.1.2.1.2.1 x.1.2.1.2.2.1 x.1.2.1.2.2.2.1 x.1.2.1.2.2.2.2.1 x.1.2.2.1.1 x.1.2.2.1.2.1 x.1.2.2.1.2.2.1 x.1.2.2.1.2.2.2.1 x.1.2.2.1.2.2.2.2.1 x.2.1.1 x.2.1.2.1 x.2.1.2.2.1 some:=fnS (λx=>M.dX bI fP x.1.2.1.1 x.1.2.1.2.1 x.1.2.1.2.2.1 x.1.2.1.2.2.2.1 x.1.2.1.2.2.2.2.1 x.1.2.2.1.1 x.1.2.2.1.2.1 x.1.2.2.1.2.2.1 x.1.2.2.1.2.2.2.1 x.1.2.2.1.2.2.2.2.1 x.2.1.1 x.2.1.2.1 x.2.1.2.2.1) [fe C.iO,fe C.bU,fe vk,fe EI] [] (by intros;unfold M.dX;repeat' first|with_reducible apply ig|with_reducible apply Ho|with_reducible apply Hq|with_reducible apply Hr|with_reducible apply Ht|(intro _)|apply ig|rfl)
end
end Go.Proofs.YtbpldgeajbfgnaaGreatDoor
