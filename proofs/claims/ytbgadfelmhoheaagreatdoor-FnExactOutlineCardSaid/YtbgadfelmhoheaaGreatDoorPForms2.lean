import Derived.Test.YtbgadfelmhoheaaGreatDoorPForms
set_option linter.defProp false
namespace Go.Proofs.YtbgadfelmhoheaaGreatDoor
open Go Go.Vm
open Go.IntKind (i64)
set_option linter.unusedVariables false
set_option linter.unusedSimpArgs false
noncomputable section
def M.Eo{R:Type}(dQ:au->Bool->Int->Int->Bool->Bool->Bool->Bool->Option (au))(w:au)(w1:Bool)(i p:Int)(p1 p2 p3 p4:Bool)(k:au->Option R):Option R:=
 (idx w i).bind λaur=>
 (kZ 1 aur λaLf aLg aLh aLi aqr=>
 ((M.Bl aLf aLg aLh aLi aqr p p1 p2 p3 p4).bind λaLj=>
 (bif aLj then
 (bif !w1 then
 ((dQ w w1 i p p1 p2 p3 p4).bind λaAL=>(bif ay aAL then(k aAL) else none)) else
 (bif w1 then
 ((idx w i).bind λaus=>
 (kZ 1 aus λaLk aLl aLm aLn aqs=>
 ((M.bV aLk aLl aLm aLn aqs).bind λaLo=>
 (bif aLo==15 then
 ((idx w i).bind λaut=>
 ((fQ .i64 aut 0).bind λaLp=>
 (bif aLp !=4 then
 ((dQ w w1 i p p1 p2 p3 p4).bind λaAM=>(bif ay aAM then(k aAM) else none)) else
 ((M.bY 32).bind λauu=>
 (M.jG.bind λanG=>
 ((dQ w w1 i anG.1 anG.2.1 anG.2.2.1 anG.2.2.2.1 anG.2.2.2.2).bind λaLq=>
 (iV [[D.int .i64 auu.1,D.str auu.2.1,D.int .i64 auu.2.2]] aLq 32 λza=>((M.bY 33).bind λauv=>
 (iV za [[D.int .i64 auv.1,D.str auv.2.1,D.int .i64 auv.2.2]] 32 λzb=>(bif ay zb then
 (k zb) else none)))))))))) else
 ((M.bY 32).bind λauw=>
 (M.jG.bind λanH=>
 ((dQ w w1 i anH.1 anH.2.1 anH.2.2.1 anH.2.2.2.1 anH.2.2.2.2).bind λaLr=>
 (iV [[D.int .i64 auw.1,D.str auw.2.1,D.int .i64 auw.2.2]] aLr 32 λza=>((M.bY 33).bind λauy=>
 (iV za [[D.int .i64 auy.1,D.str auy.2.1,D.int .i64 auy.2.2]] 32 λzb=>(bif ay zb then
 (k zb) else none))))))))))) else
 ((M.bY 32).bind λauz=>
 (M.jG.bind λanI=>
 ((dQ w w1 i anI.1 anI.2.1 anI.2.2.1 anI.2.2.2.1 anI.2.2.2.2).bind λaLs=>
 (iV [[D.int .i64 auz.1,D.str auz.2.1,D.int .i64 auz.2.2]] aLs 32 λza=>((M.bY 33).bind λauA=>
 (iV za [[D.int .i64 auA.1,D.str auA.2.1,D.int .i64 auA.2.2]] 32 λzb=>(bif ay zb then
 (k zb) else none))))))))) else
 (bif w1 then
 ((idx w i).bind λauB=>
 (kZ 1 auB λaLt aLu aLv aLw aqt=>
 ((M.bV aLt aLu aLv aLw aqt).bind λaLx=>
 (bif aLx==15 then
 ((idx w i).bind λauC=>
 ((fQ .i64 auC 0).bind λaLy=>
 (bif aLy !=4 then
 ((dQ w w1 i p p1 p2 p3 p4).bind λaAN=>(bif ay aAN then(k aAN) else none)) else
 ((M.bY 32).bind λauD=>
 (M.jG.bind λanJ=>
 ((dQ w w1 i anJ.1 anJ.2.1 anJ.2.2.1 anJ.2.2.2.1 anJ.2.2.2.2).bind λaLz=>
 (iV [[D.int .i64 auD.1,D.str auD.2.1,D.int .i64 auD.2.2]] aLz 32 λza=>((M.bY 33).bind λauE=>
 (iV za [[D.int .i64 auE.1,D.str auE.2.1,D.int .i64 auE.2.2]] 32 λzb=>(bif ay zb then
 (k zb) else none)))))))))) else
 ((M.bY 32).bind λauF=>
 (M.jG.bind λanK=>
 ((dQ w w1 i anK.1 anK.2.1 anK.2.2.1 anK.2.2.2.1 anK.2.2.2.2).bind λaLA=>
 (iV [[D.int .i64 auF.1,D.str auF.2.1,D.int .i64 auF.2.2]] aLA 32 λza=>((M.bY 33).bind λauG=>
 (iV za [[D.int .i64 auG.1,D.str auG.2.1,D.int .i64 auG.2.2]] 32 λzb=>(bif ay zb then
 (k zb) else none))))))))))) else
 ((M.bY 32).bind λauH=>
 (M.jG.bind λanL=>
 ((dQ w w1 i anL.1 anL.2.1 anL.2.2.1 anL.2.2.2.1 anL.2.2.2.2).bind λaLB=>
 (iV [[D.int .i64 auH.1,D.str auH.2.1,D.int .i64 auH.2.2]] aLB 32 λza=>((M.bY 33).bind λauI=>
 (iV za [[D.int .i64 auI.1,D.str auI.2.1,D.int .i64 auI.2.2]] 32 λzb=>(bif ay zb then
 (k zb) else none)))))))))))
def C.acB{dQ:au->Bool->Int->Int->Bool->Bool->Bool->Bool->Option (au)}(Nz:S.wu.ok X0 λx=>dQ x.1.1.1 x.1.1.2.1 x.1.2.1 x.1.2.2.1.1 x.1.2.2.1.2.1 x.1.2.2.1.2.2.1 x.1.2.2.1.2.2.2.1 x.1.2.2.1.2.2.2.2.1):S.ou.ok X0 λx=>M.Eo dQ x.1.1.1 x.1.1.2.1 x.1.2.1 x.1.2.2.1.1 x.1.2.2.1.2.1 x.1.2.2.1.2.2.1 x.1.2.2.1.2.2.2.1 x.1.2.2.1.2.2.2.2.1 some:=fnS (λx=>M.Eo dQ x.1.1.1 x.1.1.2.1 x.1.2.1 x.1.2.2.1.1 x.1.2.2.1.2.1 x.1.2.2.1.2.2.1 x.1.2.2.1.2.2.2.1 x.1.2.2.1.2.2.2.2.1) [fe C.Bl,fe Nz,fe C.bV,fe C.bY,fe C.jG] [] (by intros;simp only[M.Eo,iV,kZ];repeat' first|with_reducible apply iw|with_reducible apply Lh|with_reducible apply Lj|with_reducible apply Ll|with_reducible apply Lm|(intro _)|apply iw|rfl)
def M.kF:Nat->(au->Bool->Int->Int->Bool->Bool->Bool->Bool->Option (au))×(au->Bool->au->Option (au))×(au->Bool->Int->aA->Int->au->Int->Option (au))×(au->Bool->Int->Option (au))×(au->Bool->Int->Int->aA->aA->au->Int->Bool->Bool->Bool->Bool->Option (au))×(au->Bool->Int->Int->Bool->Bool->Bool->Bool->Option (au)):=
 Nat.rec (λ_ _ _ _ _ _ _ _=>none,λ_ _ _=>none,λ_ _ _ _ _ _ _=>none,λ_ _ _=>none,λ_ _ _ _ _ _ _ _ _ _ _ _=>none,λ_ _ _ _ _ _ _ _=>none) λ_ qz=>(λw w1 i p p1 p2 p3 p4=>M.Eo qz.2.2.2.2.2 w w1 i p p1 p2 p3 p4 some,λw w1 kids=>M.yR qz.1 w w1 kids some,λw w1 t' gX je kids open'=>M.vP qz.2.1 w w1 t' gX je kids open' some,λw w1 i=>M.uj qz.2.2.2.2.2 w w1 i some,λw w1 n' fH iJ iO jM p p1 p2 p3 p4=>M.o9 qz.1 w w1 n' fH iJ iO jM p p1 p2 p3 p4 some,λw w1 i p p1 p2 p3 p4=>M.dZ qz.2.2.1 qz.2.2.2.1 qz.1 qz.2.1 qz.2.2.2.2.1 w w1 i p p1 p2 p3 p4 some)
def M.qJ(n:Nat):au->Bool->Int->Int->Bool->Bool->Bool->Bool->Option (au):=(M.kF n).1
def M.yS(n:Nat):au->Bool->au->Option (au):=(M.kF n).2.1
def M.AQ(n:Nat):au->Bool->Int->aA->Int->au->Int->Option (au):=(M.kF n).2.2.1
def M.yT(n:Nat):au->Bool->Int->Option (au):=(M.kF n).2.2.2.1
def M.AU(n:Nat):au->Bool->Int->Int->aA->aA->au->Int->Bool->Bool->Bool->Bool->Option (au):=(M.kF n).2.2.2.2.1
def M.yU(n:Nat):au->Bool->Int->Int->Bool->Bool->Bool->Bool->Option (au):=(M.kF n).2.2.2.2.2
def M.aeD(n:Nat):M.qJ (n+1)=λw w1 i p p1 p2 p3 p4=>M.Eo (M.yU n) w w1 i p p1 p2 p3 p4 some:=rfl
def M.abb(n:Nat):M.yS (n+1)=λw w1 kids=>M.yR (M.qJ n) w w1 kids some:=rfl
def M.Zm(n:Nat):M.AQ (n+1)=λw w1 t' gX je kids open'=>M.vP (M.yS n) w w1 t' gX je kids open' some:=rfl
def M.XI(n:Nat):M.yT (n+1)=λw w1 i=>M.uj (M.yU n) w w1 i some:=rfl
def M.Zn(n:Nat):M.AU (n+1)=λw w1 n' fH iJ iO jM p p1 p2 p3 p4=>M.o9 (M.qJ n) w w1 n' fH iJ iO jM p p1 p2 p3 p4 some:=rfl
def M.abd(n:Nat):M.yU (n+1)=λw w1 i p p1 p2 p3 p4=>M.dZ (M.AQ n) (M.yT n) (M.qJ n) (M.yS n) (M.AU n) w w1 i p p1 p2 p3 p4 some:=rfl
def M.ou(w:au)(w1:Bool)(i p:Int)(p1 p2 p3 p4:Bool):Option (au):=lim λn=>M.qJ n w w1 i p p1 p2 p3 p4
def M.wo(w:au)(w1:Bool)(kids:au):Option (au):=lim λn=>M.yS n w w1 kids
def M.xR(w:au)(w1:Bool)(t':Int)(gX:aA)(je:Int)(kids:au)(open':Int):Option (au):=lim λn=>M.AQ n w w1 t' gX je kids open'
def M.uG(w:au)(w1:Bool)(i:Int):Option (au):=lim λn=>M.yT n w w1 i
def M.xU(w:au)(w1:Bool)(n' fH:Int)(iJ iO:aA)(jM:au)(p:Int)(p1 p2 p3 p4:Bool):Option (au):=lim λn=>M.AU n w w1 n' fH iJ iO jM p p1 p2 p3 p4
def M.wu(w:au)(w1:Bool)(i p:Int)(p1 p2 p3 p4:Bool):Option (au):=lim λn=>M.yU n w w1 i p p1 p2 p3 p4
def C.kF:∀n,(S.ou.ok X0 λx=>M.qJ n x.1.1.1 x.1.1.2.1 x.1.2.1 x.1.2.2.1.1 x.1.2.2.1.2.1 x.1.2.2.1.2.2.1 x.1.2.2.1.2.2.2.1 x.1.2.2.1.2.2.2.2.1)∧(S.wo.ok X0 λx=>M.yS n x.1.1.1 x.1.1.2.1 x.1.2.1)∧(S.xR.ok X0 λx=>M.AQ n x.1.1.1 x.1.1.2.1 x.1.2.1.1 x.1.2.1.2.1 x.1.2.1.2.2.1 x.1.2.2.1 x.1.2.2.2.1)∧(S.uG.ok X0 λx=>M.yT n x.1.1.1 x.1.1.2.1 x.1.2.1)∧(S.xU.ok X0 λx=>M.AU n x.1.1.1 x.1.1.2.1 x.1.2.1.1 x.1.2.1.2.1 x.1.2.1.2.2.1 x.1.2.1.2.2.2.1 x.1.2.1.2.2.2.2.1 x.1.2.2.1.1 x.1.2.2.1.2.1 x.1.2.2.1.2.2.1 x.1.2.2.1.2.2.2.1 x.1.2.2.1.2.2.2.2.1)∧(S.wu.ok X0 λx=>M.yU n x.1.1.1 x.1.1.2.1 x.1.2.1 x.1.2.2.1.1 x.1.2.2.1.2.1 x.1.2.2.1.2.2.1 x.1.2.2.1.2.2.2.1 x.1.2.2.1.2.2.2.2.1)
 |0=>⟨eP.zero,eP.zero,eP.zero,eP.zero,eP.zero,eP.zero⟩
 |n+1=>have h:=C.kF n;⟨C.acB h.2.2.2.2.2,C.Zi h.1,C.XF h.2.1,C.WA h.2.2.2.2.2,C.XG h.1,C.Zj h.2.2.1 h.2.2.2.1 h.1 h.2.1 h.2.2.2.2.1⟩
def C.ou:S.ou.ok X0 λx=>M.ou x.1.1.1 x.1.1.2.1 x.1.2.1 x.1.2.2.1.1 x.1.2.2.1.2.1 x.1.2.2.1.2.2.1 x.1.2.2.1.2.2.2.1 x.1.2.2.1.2.2.2.2.1:=eP.lim λn=>(C.kF n).1
def M.acC{n:Nat}{w:au}{w1:Bool}{i p:Int}{p1 p2 p3 p4:Bool}{r:au}(h:M.qJ n w w1 i p p1 p2 p3 p4=some r):M.ou w w1 i p p1 p2 p3 p4=some r:=
 eP.Jl (λn=>(C.kF n).1) (by intro a b h;simp[S.ou,sg] at h;first|exact h|simp[Prod.ext_iff,h]) (x:=(((w,w1,()),i,(p,p1,p2,p3,p4,()),()),())) h
def C.wo:S.wo.ok X0 λx=>M.wo x.1.1.1 x.1.1.2.1 x.1.2.1:=eP.lim λn=>(C.kF n).2.1
def C.xR:S.xR.ok X0 λx=>M.xR x.1.1.1 x.1.1.2.1 x.1.2.1.1 x.1.2.1.2.1 x.1.2.1.2.2.1 x.1.2.2.1 x.1.2.2.2.1:=eP.lim λn=>(C.kF n).2.2.1
def C.uG:S.uG.ok X0 λx=>M.uG x.1.1.1 x.1.1.2.1 x.1.2.1:=eP.lim λn=>(C.kF n).2.2.2.1
def C.xU:S.xU.ok X0 λx=>M.xU x.1.1.1 x.1.1.2.1 x.1.2.1.1 x.1.2.1.2.1 x.1.2.1.2.2.1 x.1.2.1.2.2.2.1 x.1.2.1.2.2.2.2.1 x.1.2.2.1.1 x.1.2.2.1.2.1 x.1.2.2.1.2.2.1 x.1.2.2.1.2.2.2.1 x.1.2.2.1.2.2.2.2.1:=eP.lim λn=>(C.kF n).2.2.2.2.1
def C.wu:S.wu.ok X0 λx=>M.wu x.1.1.1 x.1.1.2.1 x.1.2.1 x.1.2.2.1.1 x.1.2.2.1.2.1 x.1.2.2.1.2.2.1 x.1.2.2.1.2.2.2.1 x.1.2.2.1.2.2.2.2.1:=eP.lim λn=>(C.kF n).2.2.2.2.2
def M.DF{R:Type}(s':aA)(at':Int)(x':au)(s:Int×Int×Int)(kn:Int×Int×Int->Option R)(ke:Int×Int×Int->Option R):Option R:=match s with
 |(kind,size,i)=>
 bif decide (i<(↑x'.length:Int)) then
 ((idx x' i).bind λaLC=>
 (x'[i.toNat]?.bind λauJ=>
 ((cStr auJ 0).bind λaqu=>
 (bif decide (at'>=0) then
 (bif decide (at'<=(↑s'.length:Int)) then
 (bif decide ((↑aqu.length:Int)<=i64.wrap ((↑s'.length:Int) - at')) then
 ((cut s' at' (i64.wrap (at'+(↑aqu.length:Int)))).bind λaLD=>
 ((idx x' i).bind λaLE=>
 (x'[i.toNat]?.bind λauK=>
 ((cStr auK 0).bind λaLF=>
 (bif aLD==aLF then
 (bif decide ((↑aqu.length:Int)>size) then(kn ((i64.wrap (30+i),(↑aqu.length:Int),i64.wrap (i+1)))) else(kn ((kind,size,i64.wrap (i+1))))) else(kn ((kind,size,i64.wrap (i+1))))))))) else(kn ((kind,size,i64.wrap (i+1))))) else(kn ((kind,size,i64.wrap (i+1))))) else(kn ((kind,size,i64.wrap (i+1)))))))) else(ke ((kind,size,i)))
def M.NC(s':aA)(at':Int)(x':au)(s:Int×Int×Int):=M.DF s' at' x' s (λs=>some (Sum.inl s)) λt=>some (Sum.inr t)
def M.LY(s':aA)(at':Int)(x':au)(s:Int×Int×Int):Option (Int×Int×Int):=eF (M.NC s' at' x') s
def F.LY:LE X0 117:=le 5 (GN [dG 0 pS,dG 1 pI,dG 6 pI,dG 7 pI,dG 8 (pO 300000 0),dG 9 pI] [dG 300000 (cA false true 0 1)]) (λx=>(x.1.2.2.1,x.1.2.2.2.1,x.1.2.2.2.2.2.1)) (λx s=>((x.1.1,x.1.2.1,s.1,s.2.1,(),s.2.2,()),(x.2.1,()))) (λx=> .leaf (Int×Int×Int) (λt=>(Ex.exit 0,{tm:=[(0,V.d (D.str x.1.1)),(1,V.d (D.int .i64 x.1.2.1)),(6,V.d (D.int .i64 t.1)),(7,V.d (D.int .i64 t.2.1)),(8,V.own 300000 0),(9,V.d (D.int .i64 t.2.2)),(15,V.d (D.bool false))],mem:=[(300000,Cell.arr false true 0 1 x.2.1)]}))) (λx=>M.DF x.1.1 x.1.2.1 x.2.1) [] [] (by rintro _ _ ⟨_,_,_⟩ _ _<;>simp only[M.DF,nb]<;>rfl)
def M.Ol{R:Type}(s':aA)(at':Int)(k:Int×Int->Option R):Option R:=
 M.sV.bind λaLG=>
 ((M.LY s' at' aLG ((0,0,0))).bind λaAO=>(k ((aAO.1,aAO.2.1))))
def M.pW(s':aA)(at':Int):Option (Int×Int):=M.Ol s' at' some
def C.pW:S.pW.ok X0 λx=>M.pW x.1.1 x.1.2.1:=fnS (λx=>M.Ol x.1.1 x.1.2.1) [fe C.sV] [F.LY] (by intros;simp only[M.Ol,nb]<;>rfl)
def M.FP{R:Type}(a:Int)(a1:aA)(a2 b:Int)(b1:aA)(b2:Int)(k:Bool->Option R):Option R:=
 bif a1==[] then(k false) else
 (bif b1==[] then(k false) else
 (bif a==2 then(k false) else
 (bif a==1 then(k false) else
 (bif b==1 then(k false) else
 ((idx b1 0).bind λanM=>
 ((idx a1 (i64.wrap ((↑a1.length:Int) - 1))).bind λaLH=>
 ((M.jl (i64.wrap (↑aLH.toNat:Int))).bind λaLI=>
 (bif aLI then
 ((M.jl (i64.wrap (↑anM.toNat:Int))).bind λaLJ=>
 (bif aLJ then(k true) else
 (bif a==3 then
 ((M.jl (i64.wrap (↑anM.toNat:Int))).bind λaLK=>
 (bif aLK then(k true) else
 (bif i64.wrap (↑anM.toNat:Int)==46 then(k true) else
 (bif a==6 then
 (bif b==32 then(k true) else
 (bif(a1.length+b1.length).ble 9223372036854775807 then
 ((M.pW (a1++b1) 0).bind λaLL=>
 ((M.aV a 30 68).bind λaLM=>(bif aLM then(k (decide (aLL.2>(↑a1.length:Int)))) else(k false)))) else none)) else
 (bif(a1.length+b1.length).ble 9223372036854775807 then
 ((M.pW (a1++b1) 0).bind λaLN=>
 ((M.aV a 30 68).bind λaLO=>(bif aLO then(k (decide (aLN.2>(↑a1.length:Int)))) else(k false)))) else none))))) else
 (bif a==6 then
 (bif b==32 then(k true) else
 (bif(a1.length+b1.length).ble 9223372036854775807 then
 ((M.pW (a1++b1) 0).bind λaLP=>
 ((M.aV a 30 68).bind λaLQ=>(bif aLQ then(k (decide (aLP.2>(↑a1.length:Int)))) else(k false)))) else none)) else
 (bif(a1.length+b1.length).ble 9223372036854775807 then
 ((M.pW (a1++b1) 0).bind λaLR=>
 ((M.aV a 30 68).bind λaLS=>(bif aLS then(k (decide (aLR.2>(↑a1.length:Int)))) else(k false)))) else none))))) else
 (bif a==3 then
 ((M.jl (i64.wrap (↑anM.toNat:Int))).bind λaLT=>
 (bif aLT then(k true) else
 (bif i64.wrap (↑anM.toNat:Int)==46 then(k true) else
 (bif a==6 then
 (bif b==32 then(k true) else
 (bif(a1.length+b1.length).ble 9223372036854775807 then
 ((M.pW (a1++b1) 0).bind λaLU=>
 ((M.aV a 30 68).bind λaLV=>(bif aLV then(k (decide (aLU.2>(↑a1.length:Int)))) else(k false)))) else none)) else
 (bif(a1.length+b1.length).ble 9223372036854775807 then
 ((M.pW (a1++b1) 0).bind λaLW=>
 ((M.aV a 30 68).bind λaLX=>(bif aLX then(k (decide (aLW.2>(↑a1.length:Int)))) else(k false)))) else none))))) else
 (bif a==6 then
 (bif b==32 then(k true) else
 (bif(a1.length+b1.length).ble 9223372036854775807 then
 ((M.pW (a1++b1) 0).bind λaLY=>
 ((M.aV a 30 68).bind λaLZ=>(bif aLZ then(k (decide (aLY.2>(↑a1.length:Int)))) else(k false)))) else none)) else
 (bif(a1.length+b1.length).ble 9223372036854775807 then
 ((M.pW (a1++b1) 0).bind λaL0=>
 ((M.aV a 30 68).bind λaL1=>(bif aL1 then(k (decide (aL0.2>(↑a1.length:Int)))) else(k false)))) else none)))))))))))
def M.qE(a:Int)(a1:aA)(a2 b:Int)(b1:aA)(b2:Int):Option (Bool):=M.FP a a1 a2 b b1 b2 some
def C.qE:S.qE.ok X0 λx=>M.qE x.1.1.1 x.1.1.2.1 x.1.1.2.2.1 x.1.2.1.1 x.1.2.1.2.1 x.1.2.1.2.2.1:=fnS (λx=>M.FP x.1.1.1 x.1.1.2.1 x.1.1.2.2.1 x.1.2.1.1 x.1.2.1.2.1 x.1.2.1.2.2.1) [fe C.jl,fe C.pW,fe C.aV] [] (by intros;unfold M.FP;repeat' first|with_reducible apply iw|with_reducible apply Lh|with_reducible apply Lj|with_reducible apply Ll|with_reducible apply Lm|(intro _)|apply iw|rfl)
def M.qK{R:Type}(bf:au->Bool->Int->Int->Bool->Bool->Bool->Bool->Option (au))(w:au)(w1:Bool)(n' fH:Int)(iJ iO:aA)(jM:au)(p:Int)(p1 p2 p3 p4:Bool)(k:au->Option R):Option R:=
 (idx jM 0).bind λauL=>
 ((fQ .i64 auL 0).bind λaL2=>
 ((M.dN n' fH iJ iO jM 0 p p1 p2 p3 p4).bind λanN=>
 ((bf w w1 aL2 anN.1 anN.2.1 anN.2.2.1 anN.2.2.2.1 anN.2.2.2.2).bind λaqv=>
 ((idx jM 1).bind λauM=>
 ((fQ .i64 auM 0).bind λaL3=>
 ((M.dN n' fH iJ iO jM 1 p p1 p2 p3 p4).bind λanO=>
 ((bf w w1 aL3 anO.1 anO.2.1 anO.2.2.1 anO.2.2.2.1 anO.2.2.2.2).bind λaqw=>
 (bif fH==99 then
 ((M.dA [32]).bind λaL4=>
 ((M.bW 6 0 (bJ [[D.sl true 4 aqv],[D.sl true 4 aL4],[D.sl true 4 aqw]])).bind λaAP=>(bif[[D.sl true 4 aAP]].all eY then(k aAP) else none))) else
 (bif fH==45 then
 ((M.iC fH).bind λaAQ=>
 (bif(1+aAQ.length).ble 9223372036854775807 then
 ((M.dA ([32]++aAQ)).bind λaL5=>
 (M.oq.bind λaL6=>
 ((M.bW 6 0 (bJ [[D.sl true 4 aqv],[D.sl true 4 aL5],[D.sl true 4 aL6],[D.sl true 4 aqw]])).bind λaAR=>
 (bif[[D.sl true 4 aAR]].all eY then
 ((M.bW 4 4 (bJ [[D.sl true 4 aAR]])).bind λaAS=>
 (bif[[D.sl true 4 aAS]].all eY then
 ((M.bW 5 0 (bJ [[D.sl true 4 aAS]])).bind λaAT=>(bif[[D.sl true 4 aAT]].all eY then(k aAT) else none)) else none)) else none)))) else none)) else
 (bif fH==44 then
 ((M.iC fH).bind λaAU=>
 (bif(1+aAU.length).ble 9223372036854775807 then
 ((M.dA ([32]++aAU)).bind λaL7=>
 (M.oq.bind λaL8=>
 ((M.bW 6 0 (bJ [[D.sl true 4 aqv],[D.sl true 4 aL7],[D.sl true 4 aL8],[D.sl true 4 aqw]])).bind λaAV=>
 (bif[[D.sl true 4 aAV]].all eY then
 ((M.bW 4 4 (bJ [[D.sl true 4 aAV]])).bind λaAW=>
 (bif[[D.sl true 4 aAW]].all eY then
 ((M.bW 5 0 (bJ [[D.sl true 4 aAW]])).bind λaAX=>(bif[[D.sl true 4 aAX]].all eY then(k aAX) else none)) else none)) else none)))) else none)) else
 ((M.iC fH).bind λauN=>
 (bif(1+auN.length).ble 9223372036854775807 then
 (bif(([32]++auN).length+1).ble 9223372036854775807 then
 ((M.dA ([32]++auN++[32])).bind λaL9=>
 ((M.bW 6 0 (bJ [[D.sl true 4 aqv],[D.sl true 4 aL9],[D.sl true 4 aqw]])).bind λaAY=>(bif[[D.sl true 4 aAY]].all eY then(k aAY) else none))) else none) else none))))))))))))
def C.abe{bf:au->Bool->Int->Int->Bool->Bool->Bool->Bool->Option (au)}(Af:S.lY.ok X0 λx=>bf x.1.1.1 x.1.1.2.1 x.1.2.1 x.1.2.2.1.1 x.1.2.2.1.2.1 x.1.2.2.1.2.2.1 x.1.2.2.1.2.2.2.1 x.1.2.2.1.2.2.2.2.1):S.Dv.ok X0 λx=>M.qK bf x.1.1.1 x.1.1.2.1 x.1.2.1.1 x.1.2.1.2.1 x.1.2.1.2.2.1 x.1.2.1.2.2.2.1 x.1.2.1.2.2.2.2.1 x.1.2.2.1.1 x.1.2.2.1.2.1 x.1.2.2.1.2.2.1 x.1.2.2.1.2.2.2.1 x.1.2.2.1.2.2.2.2.1 some:=fnS (λx=>M.qK bf x.1.1.1 x.1.1.2.1 x.1.2.1.1 x.1.2.1.2.1 x.1.2.1.2.2.1 x.1.2.1.2.2.2.1 x.1.2.1.2.2.2.2.1 x.1.2.2.1.1 x.1.2.2.1.2.1 x.1.2.2.1.2.2.1 x.1.2.2.1.2.2.2.1 x.1.2.2.1.2.2.2.2.1) [fe C.dN,fe Af,fe C.dA,fe C.bW,fe C.iC,fe C.oq] [] (by intros;unfold M.qK;repeat' first|with_reducible apply iw|with_reducible apply Lh|with_reducible apply Lj|with_reducible apply Ll|with_reducible apply Lm|(intro _)|apply iw|rfl)
def M.eu{R:Type}(oD:au->Bool->Int->Int->aA->aA->au->aA->aA->Option (au))(nD:au->Bool->Int->Option (au))(bf:au->Bool->Int->Int->Bool->Bool->Bool->Bool->Option (au))(jO:au->Bool->au->Int->Bool->Bool->Bool->Bool->Option (au))(AV:au->Bool->Int->Int->aA->aA->au->Int->Bool->Bool->Bool->Bool->Option (au))(w:au)(w1:Bool)(i p:Int)(p1 p2 p3 p4:Bool)(k:au->Option R):Option R:=
 (idx w i).bind λauO=>
 (kZ 1 auO λLZ Qo QN WB lC=>
 ((M.bH LZ Qo QN WB lC).bind λaAZ=>
 (bif aAZ.1 !=0 then((M.dA aAZ.2.1).bind λaMa=>(k aMa)) else
 (bif LZ==5 then((oD w w1 LZ Qo QN WB lC [91] [93]).bind λaMb=>(k aMb)) else
 (bif LZ==7 then((oD w w1 LZ Qo QN WB lC [40] [41]).bind λaMc=>(k aMc)) else
 (bif LZ==8 then((oD w w1 LZ Qo QN WB lC [40] [41]).bind λaMd=>(k aMd)) else
 (bif LZ==9 then
 ((M.iC Qo).bind λaMe=>
 ((M.dA aMe).bind λaMf=>
 ((idx lC 0).bind λauP=>
 ((fQ .i64 auP 0).bind λaMg=>
 ((nD w w1 aMg).bind λaMh=>
 ((M.bW 6 0 (bJ [[D.sl true 4 aMf],[D.sl true 4 aMh]])).bind λaA0=>(bif[[D.sl true 4 aA0]].all eY then(k aA0) else none))))))) else
 (bif LZ==10 then
 ((idx lC 0).bind λauQ=>
 ((fQ .i64 auQ 0).bind λaMi=>
 ((nD w w1 aMi).bind λaMj=>
 ((M.iC Qo).bind λaMk=>
 ((M.dA aMk).bind λaMl=>
 ((M.bW 6 0 (bJ [[D.sl true 4 aMj],[D.sl true 4 aMl]])).bind λaA1=>(bif[[D.sl true 4 aA1]].all eY then(k aA1) else none))))))) else
 (bif LZ==6 then
 ((M.dA [36]).bind λaMm=>
 ((idx lC 0).bind λauR=>
 ((fQ .i64 auR 0).bind λaMn=>
 ((M.dN LZ Qo QN WB lC 0 p p1 p2 p3 p4).bind λanP=>
 ((bf w w1 aMn anP.1 anP.2.1 anP.2.2.1 anP.2.2.2.1 anP.2.2.2.2).bind λaMo=>
 ((M.bW 6 0 (bJ [[D.sl true 4 aMm],[D.sl true 4 aMo]])).bind λaA2=>(bif[[D.sl true 4 aA2]].all eY then(k aA2) else none))))))) else
 (bif LZ==15 then
 ((idx lC 0).bind λauS=>
 ((fQ .i64 auS 0).bind λaMp=>
 ((nD w w1 aMp).bind λaMq=>
 ((M.iC Qo).bind λauT=>
 (bif(1+auT.length).ble 9223372036854775807 then
 (bif(([32]++auT).length+1).ble 9223372036854775807 then
 ((M.dA ([32]++auT++[32])).bind λaMr=>
 ((idx lC 1).bind λauU=>
 ((fQ .i64 auU 0).bind λaMs=>
 ((M.dN LZ Qo QN WB lC 1 p p1 p2 p3 p4).bind λanQ=>
 ((bf w w1 aMs anQ.1 anQ.2.1 anQ.2.2.1 anQ.2.2.2.1 anQ.2.2.2.2).bind λaMt=>
 ((M.bW 6 0 (bJ [[D.sl true 4 aMq],[D.sl true 4 aMr],[D.sl true 4 aMt]])).bind λaA3=>(bif[[D.sl true 4 aA3]].all eY then(k aA3) else none))))))) else none) else none))))) else
 (bif LZ==11 then
 ((M.iC Qo).bind λauV=>
 ((M.bY Qo).bind λauW=>
 ((idx lC 0).bind λauX=>
 ((fQ .i64 auX 0).bind λaMu=>
 ((M.dN LZ Qo QN WB lC 0 p p1 p2 p3 p4).bind λanR=>
 ((M.ou w w1 aMu anR.1 anR.2.1 anR.2.2.1 anR.2.2.2.1 anR.2.2.2.2).bind λaA4=>
 ((idx aA4 0).bind λaMv=>
 (aA4[0]?.bind λajl=>
 ((fQ .i64 ajl 0).bind λaMw=>
 ((cStr ajl 1).bind λaMx=>
 ((fQ .i64 ajl 2).bind λaMy=>
 ((M.qE auW.1 auW.2.1 auW.2.2 aMw aMx aMy).bind λaMz=>
 (bif aMz then
 (bif(auV.length+1).ble 9223372036854775807 then
 ((M.dA (auV++[32])).bind λaMA=>
 ((idx lC 0).bind λauY=>
 ((fQ .i64 auY 0).bind λaMB=>
 ((M.dN LZ Qo QN WB lC 0 p p1 p2 p3 p4).bind λanS=>
 ((bf w w1 aMB anS.1 anS.2.1 anS.2.2.1 anS.2.2.2.1 anS.2.2.2.2).bind λaMC=>
 ((M.bW 6 0 (bJ [[D.sl true 4 aMA],[D.sl true 4 aMC]])).bind λaA5=>(bif[[D.sl true 4 aA5]].all eY then(k aA5) else none))))))) else none) else
 ((M.dA auV).bind λaMD=>
 ((idx lC 0).bind λauZ=>
 ((fQ .i64 auZ 0).bind λaME=>
 ((M.dN LZ Qo QN WB lC 0 p p1 p2 p3 p4).bind λanT=>
 ((bf w w1 aME anT.1 anT.2.1 anT.2.2.1 anT.2.2.2.1 anT.2.2.2.2).bind λaMF=>
 ((M.bW 6 0 (bJ [[D.sl true 4 aMD],[D.sl true 4 aMF]])).bind λaA6=>(bif[[D.sl true 4 aA6]].all eY then(k aA6) else none)))))))))))))))))))) else
 (bif LZ==14 then
 ((idx lC 0).bind λau0=>
 ((fQ .i64 au0 0).bind λaMG=>
 ((M.dN LZ Qo QN WB lC 0 p p1 p2 p3 p4).bind λanU=>
 ((bf w w1 aMG anU.1 anU.2.1 anU.2.2.1 anU.2.2.2.1 anU.2.2.2.2).bind λaMH=>
 ((M.dA [32,63,32]).bind λaMI=>
 ((idx lC 1).bind λau1=>
 ((fQ .i64 au1 0).bind λaMJ=>
 ((M.dN LZ Qo QN WB lC 1 p p1 p2 p3 p4).bind λanV=>
 ((bf w w1 aMJ anV.1 anV.2.1 anV.2.2.1 anV.2.2.2.1 anV.2.2.2.2).bind λaMK=>
 ((M.dA [32,58,32]).bind λaML=>
 ((idx lC 2).bind λau2=>
 ((fQ .i64 au2 0).bind λaMM=>
 ((M.dN LZ Qo QN WB lC 2 p p1 p2 p3 p4).bind λanW=>
 ((bf w w1 aMM anW.1 anW.2.1 anW.2.2.1 anW.2.2.2.1 anW.2.2.2.2).bind λaMN=>
 ((M.bW 6 0 (bJ [[D.sl true 4 aMH],[D.sl true 4 aMI],[D.sl true 4 aMK],[D.sl true 4 aML],[D.sl true 4 aMN]])).bind λaA7=>(bif[[D.sl true 4 aA7]].all eY then(k aA7) else none)))))))))))))))) else
 (bif LZ==13 then
 (bif(↑lC.length:Int)==1 then
 ((idx lC 0).bind λau3=>
 ((fQ .i64 au3 0).bind λaMO=>
 ((M.dN LZ Qo QN WB lC 0 p p1 p2 p3 p4).bind λanX=>
 ((bf w w1 aMO anX.1 anX.2.1 anX.2.2.1 anX.2.2.2.1 anX.2.2.2.2).bind λaMP=>
 (bif(4+QN.length).ble 9223372036854775807 then
 ((M.dA ([32,105,110,32]++QN)).bind λaMQ=>
 ((M.bW 6 0 (bJ [[D.sl true 4 aMP],[D.sl true 4 aMQ]])).bind λaA8=>(bif[[D.sl true 4 aA8]].all eY then(k aA8) else none))) else none))))) else
 ((M.dA [40]).bind λaMR=>
 (M.jG.bind λanY=>
 ((jO w w1 lC anY.1 anY.2.1 anY.2.2.1 anY.2.2.2.1 anY.2.2.2.2).bind λaMS=>
 (bif(5+QN.length).ble 9223372036854775807 then
 ((M.dA ([41,32,105,110,32]++QN)).bind λaMT=>
 ((M.bW 6 0 (bJ [[D.sl true 4 aMR],[D.sl true 4 aMS],[D.sl true 4 aMT]])).bind λaA9=>(bif[[D.sl true 4 aA9]].all eY then(k aA9) else none))) else none))))) else
 ((AV w w1 LZ Qo QN WB lC p p1 p2 p3 p4).bind λaMU=>(k aMU)))))))))))))))
def C.Zo{oD:au->Bool->Int->Int->aA->aA->au->aA->aA->Option (au)}{nD:au->Bool->Int->Option (au)}{bf:au->Bool->Int->Int->Bool->Bool->Bool->Bool->Option (au)}{jO:au->Bool->au->Int->Bool->Bool->Bool->Bool->Option (au)}{AV:au->Bool->Int->Int->aA->aA->au->Int->Bool->Bool->Bool->Bool->Option (au)}(Zp:S.xQ.ok X0 λx=>oD x.1.1.1 x.1.1.2.1 x.1.2.1.1 x.1.2.1.2.1 x.1.2.1.2.2.1 x.1.2.1.2.2.2.1 x.1.2.1.2.2.2.2.1 x.1.2.2.1 x.1.2.2.2.1)(XJ:S.uF.ok X0 λx=>nD x.1.1.1 x.1.1.2.1 x.1.2.1)(Af:S.lY.ok X0 λx=>bf x.1.1.1 x.1.1.2.1 x.1.2.1 x.1.2.2.1.1 x.1.2.2.1.2.1 x.1.2.2.1.2.2.1 x.1.2.2.1.2.2.2.1 x.1.2.2.1.2.2.2.2.1)(Nv:S.vZ.ok X0 λx=>jO x.1.1.1 x.1.1.2.1 x.1.2.1 x.1.2.2.1.1 x.1.2.2.1.2.1 x.1.2.2.1.2.2.1 x.1.2.2.1.2.2.2.1 x.1.2.2.1.2.2.2.2.1)(acD:S.Dv.ok X0 λx=>AV x.1.1.1 x.1.1.2.1 x.1.2.1.1 x.1.2.1.2.1 x.1.2.1.2.2.1 x.1.2.1.2.2.2.1 x.1.2.1.2.2.2.2.1 x.1.2.2.1.1 x.1.2.2.1.2.1 x.1.2.2.1.2.2.1 x.1.2.2.1.2.2.2.1 x.1.2.2.1.2.2.2.2.1):S.wz.ok X0 λx=>M.eu oD nD bf jO AV x.1.1.1 x.1.1.2.1 x.1.2.1 x.1.2.2.1.1 x.1.2.2.1.2.1 x.1.2.2.1.2.2.1 x.1.2.2.1.2.2.2.1 x.1.2.2.1.2.2.2.2.1 some:=fnS (λx=>M.eu oD nD bf jO AV x.1.1.1 x.1.1.2.1 x.1.2.1 x.1.2.2.1.1 x.1.2.2.1.2.1 x.1.2.2.1.2.2.1 x.1.2.2.1.2.2.2.1 x.1.2.2.1.2.2.2.2.1) [fe C.bH,fe C.dA,fe Zp,fe C.iC,fe XJ,fe C.bW,fe C.dN,fe Af,fe C.bY,fe C.ou,fe C.qE,fe C.jG,fe Nv,fe acD] [] (by intros;simp only[M.eu,kZ];repeat' first|with_reducible apply iw|with_reducible apply Lh|with_reducible apply Lj|with_reducible apply Ll|with_reducible apply Lm|(intro _)|apply iw|rfl)
def M.Ep{R:Type}(jo:au->Bool->Int->Int->Bool->Bool->Bool->Bool->Option (au))(w:au)(w1:Bool)(i p:Int)(p1 p2 p3 p4:Bool)(k:au->Option R):Option R:=
 (idx w i).bind λau4=>
 (kZ 1 au4 λaMV aMW aMX aMY aqx=>
 ((M.Bl aMV aMW aMX aMY aqx p p1 p2 p3 p4).bind λaMZ=>
 (bif aMZ then((jo w w1 i p p1 p2 p3 p4).bind λaM0=>(k aM0)) else
 ((M.dA [40]).bind λaM1=>
 (M.jG.bind λanZ=>
 ((jo w w1 i anZ.1 anZ.2.1 anZ.2.2.1 anZ.2.2.2.1 anZ.2.2.2.2).bind λaM2=>
 ((M.dA [41]).bind λaM3=>
 ((M.bW 6 0 (bJ [[D.sl true 4 aM1],[D.sl true 4 aM2],[D.sl true 4 aM3]])).bind λaBa=>(bif[[D.sl true 4 aBa]].all eY then(k aBa) else none)))))))))
def C.acE{jo:au->Bool->Int->Int->Bool->Bool->Bool->Bool->Option (au)}(Nw:S.wz.ok X0 λx=>jo x.1.1.1 x.1.1.2.1 x.1.2.1 x.1.2.2.1.1 x.1.2.2.1.2.1 x.1.2.2.1.2.2.1 x.1.2.2.1.2.2.2.1 x.1.2.2.1.2.2.2.2.1):S.lY.ok X0 λx=>M.Ep jo x.1.1.1 x.1.1.2.1 x.1.2.1 x.1.2.2.1.1 x.1.2.2.1.2.1 x.1.2.2.1.2.2.1 x.1.2.2.1.2.2.2.1 x.1.2.2.1.2.2.2.2.1 some:=fnS (λx=>M.Ep jo x.1.1.1 x.1.1.2.1 x.1.2.1 x.1.2.2.1.1 x.1.2.2.1.2.1 x.1.2.2.1.2.2.1 x.1.2.2.1.2.2.2.1 x.1.2.2.1.2.2.2.2.1) [fe C.Bl,fe Nw,fe C.dA,fe C.jG,fe C.bW] [] (by intros;simp only[M.Ep,kZ];repeat' first|with_reducible apply iw|with_reducible apply Lh|with_reducible apply Lj|with_reducible apply Ll|with_reducible apply Lm|(intro _)|apply iw|rfl)
def M.kG:Nat->(au->Bool->Int->Int->Bool->Bool->Bool->Bool->Option (au))×(au->Bool->au->Int->Bool->Bool->Bool->Bool->Option (au))×(au->Bool->Int->Int->aA->aA->au->aA->aA->Option (au))×(au->Bool->Int->Option (au))×(au->Bool->Int->Int->aA->aA->au->Int->Bool->Bool->Bool->Bool->Option (au))×(au->Bool->Int->Int->Bool->Bool->Bool->Bool->Option (au)):=
 Nat.rec (λ_ _ _ _ _ _ _ _=>none,λ_ _ _ _ _ _ _ _=>none,λ_ _ _ _ _ _ _ _ _=>none,λ_ _ _=>none,λ_ _ _ _ _ _ _ _ _ _ _ _=>none,λ_ _ _ _ _ _ _ _=>none) λ_ qz=>(λw w1 i p p1 p2 p3 p4=>M.Ep qz.2.2.2.2.2 w w1 i p p1 p2 p3 p4 some,λw w1 kids p p1 p2 p3 p4=>M.yQ qz.1 w w1 kids p p1 p2 p3 p4 some,λw w1 n' fH iJ iO jM open' end'=>M.vO qz.2.1 w w1 n' fH iJ iO jM open' end' some,λw w1 i=>M.uh qz.2.2.2.2.2 w w1 i some,λw w1 n' fH iJ iO jM p p1 p2 p3 p4=>M.qK qz.1 w w1 n' fH iJ iO jM p p1 p2 p3 p4 some,λw w1 i p p1 p2 p3 p4=>M.eu qz.2.2.1 qz.2.2.2.1 qz.1 qz.2.1 qz.2.2.2.2.1 w w1 i p p1 p2 p3 p4 some)
def M.oG(n:Nat):au->Bool->Int->Int->Bool->Bool->Bool->Bool->Option (au):=(M.kG n).1
def M.yV(n:Nat):au->Bool->au->Int->Bool->Bool->Bool->Bool->Option (au):=(M.kG n).2.1
def M.AX(n:Nat):au->Bool->Int->Int->aA->aA->au->aA->aA->Option (au):=(M.kG n).2.2.1
def M.yX(n:Nat):au->Bool->Int->Option (au):=(M.kG n).2.2.2.1
def M.Fe(n:Nat):au->Bool->Int->Int->aA->aA->au->Int->Bool->Bool->Bool->Bool->Option (au):=(M.kG n).2.2.2.2.1
def M.yY(n:Nat):au->Bool->Int->Int->Bool->Bool->Bool->Bool->Option (au):=(M.kG n).2.2.2.2.2
def M.aeE(n:Nat):M.oG (n+1)=λw w1 i p p1 p2 p3 p4=>M.Ep (M.yY n) w w1 i p p1 p2 p3 p4 some:=rfl
def M.abf(n:Nat):M.yV (n+1)=λw w1 kids p p1 p2 p3 p4=>M.yQ (M.oG n) w w1 kids p p1 p2 p3 p4 some:=rfl
def M.Zq(n:Nat):M.AX (n+1)=λw w1 n' fH iJ iO jM open' end'=>M.vO (M.yV n) w w1 n' fH iJ iO jM open' end' some:=rfl
def M.XK(n:Nat):M.yX (n+1)=λw w1 i=>M.uh (M.yY n) w w1 i some:=rfl
def M.acF(n:Nat):M.Fe (n+1)=λw w1 n' fH iJ iO jM p p1 p2 p3 p4=>M.qK (M.oG n) w w1 n' fH iJ iO jM p p1 p2 p3 p4 some:=rfl
def M.abg(n:Nat):M.yY (n+1)=λw w1 i p p1 p2 p3 p4=>M.eu (M.AX n) (M.yX n) (M.oG n) (M.yV n) (M.Fe n) w w1 i p p1 p2 p3 p4 some:=rfl
def M.lY(w:au)(w1:Bool)(i p:Int)(p1 p2 p3 p4:Bool):Option (au):=lim λn=>M.oG n w w1 i p p1 p2 p3 p4
def M.vZ(w:au)(w1:Bool)(kids:au)(p:Int)(p1 p2 p3 p4:Bool):Option (au):=lim λn=>M.yV n w w1 kids p p1 p2 p3 p4
def M.xQ(w:au)(w1:Bool)(n' fH:Int)(iJ iO:aA)(jM:au)(open' end':aA):Option (au):=lim λn=>M.AX n w w1 n' fH iJ iO jM open' end'
def M.uF(w:au)(w1:Bool)(i:Int):Option (au):=lim λn=>M.yX n w w1 i
def M.Dv(w:au)(w1:Bool)(n' fH:Int)(iJ iO:aA)(jM:au)(p:Int)(p1 p2 p3 p4:Bool):Option (au):=lim λn=>M.Fe n w w1 n' fH iJ iO jM p p1 p2 p3 p4
def M.wz(w:au)(w1:Bool)(i p:Int)(p1 p2 p3 p4:Bool):Option (au):=lim λn=>M.yY n w w1 i p p1 p2 p3 p4
def C.kG:∀n,(S.lY.ok X0 λx=>M.oG n x.1.1.1 x.1.1.2.1 x.1.2.1 x.1.2.2.1.1 x.1.2.2.1.2.1 x.1.2.2.1.2.2.1 x.1.2.2.1.2.2.2.1 x.1.2.2.1.2.2.2.2.1)∧(S.vZ.ok X0 λx=>M.yV n x.1.1.1 x.1.1.2.1 x.1.2.1 x.1.2.2.1.1 x.1.2.2.1.2.1 x.1.2.2.1.2.2.1 x.1.2.2.1.2.2.2.1 x.1.2.2.1.2.2.2.2.1)∧(S.xQ.ok X0 λx=>M.AX n x.1.1.1 x.1.1.2.1 x.1.2.1.1 x.1.2.1.2.1 x.1.2.1.2.2.1 x.1.2.1.2.2.2.1 x.1.2.1.2.2.2.2.1 x.1.2.2.1 x.1.2.2.2.1)∧(S.uF.ok X0 λx=>M.yX n x.1.1.1 x.1.1.2.1 x.1.2.1)∧(S.Dv.ok X0 λx=>M.Fe n x.1.1.1 x.1.1.2.1 x.1.2.1.1 x.1.2.1.2.1 x.1.2.1.2.2.1 x.1.2.1.2.2.2.1 x.1.2.1.2.2.2.2.1 x.1.2.2.1.1 x.1.2.2.1.2.1 x.1.2.2.1.2.2.1 x.1.2.2.1.2.2.2.1 x.1.2.2.1.2.2.2.2.1)∧(S.wz.ok X0 λx=>M.yY n x.1.1.1 x.1.1.2.1 x.1.2.1 x.1.2.2.1.1 x.1.2.2.1.2.1 x.1.2.2.1.2.2.1 x.1.2.2.1.2.2.2.1 x.1.2.2.1.2.2.2.2.1)
 |0=>⟨eP.zero,eP.zero,eP.zero,eP.zero,eP.zero,eP.zero⟩
 |n+1=>have h:=C.kG n;⟨C.acE h.2.2.2.2.2,C.Zh h.1,C.XE h.2.1,C.Wy h.2.2.2.2.2,C.abe h.1,C.Zo h.2.2.1 h.2.2.2.1 h.1 h.2.1 h.2.2.2.2.1⟩
def C.lY:S.lY.ok X0 λx=>M.lY x.1.1.1 x.1.1.2.1 x.1.2.1 x.1.2.2.1.1 x.1.2.2.1.2.1 x.1.2.2.1.2.2.1 x.1.2.2.1.2.2.2.1 x.1.2.2.1.2.2.2.2.1:=eP.lim λn=>(C.kG n).1
def M.acG{n:Nat}{w:au}{w1:Bool}{i p:Int}{p1 p2 p3 p4:Bool}{r:au}(h:M.oG n w w1 i p p1 p2 p3 p4=some r):M.lY w w1 i p p1 p2 p3 p4=some r:=
 eP.Jl (λn=>(C.kG n).1) (by intro a b h;simp[S.lY,sg] at h;first|exact h|simp[Prod.ext_iff,h]) (x:=(((w,w1,()),i,(p,p1,p2,p3,p4,()),()),())) h
def C.vZ:S.vZ.ok X0 λx=>M.vZ x.1.1.1 x.1.1.2.1 x.1.2.1 x.1.2.2.1.1 x.1.2.2.1.2.1 x.1.2.2.1.2.2.1 x.1.2.2.1.2.2.2.1 x.1.2.2.1.2.2.2.2.1:=eP.lim λn=>(C.kG n).2.1
def C.xQ:S.xQ.ok X0 λx=>M.xQ x.1.1.1 x.1.1.2.1 x.1.2.1.1 x.1.2.1.2.1 x.1.2.1.2.2.1 x.1.2.1.2.2.2.1 x.1.2.1.2.2.2.2.1 x.1.2.2.1 x.1.2.2.2.1:=eP.lim λn=>(C.kG n).2.2.1
def C.uF:S.uF.ok X0 λx=>M.uF x.1.1.1 x.1.1.2.1 x.1.2.1:=eP.lim λn=>(C.kG n).2.2.2.1
def C.Dv:S.Dv.ok X0 λx=>M.Dv x.1.1.1 x.1.1.2.1 x.1.2.1.1 x.1.2.1.2.1 x.1.2.1.2.2.1 x.1.2.1.2.2.2.1 x.1.2.1.2.2.2.2.1 x.1.2.2.1.1 x.1.2.2.1.2.1 x.1.2.2.1.2.2.1 x.1.2.2.1.2.2.2.1 x.1.2.2.1.2.2.2.2.1:=eP.lim λn=>(C.kG n).2.2.2.2.1
def C.wz:S.wz.ok X0 λx=>M.wz x.1.1.1 x.1.1.2.1 x.1.2.1 x.1.2.2.1.1 x.1.2.2.1.2.1 x.1.2.2.1.2.2.1 x.1.2.2.1.2.2.2.1 x.1.2.2.1.2.2.2.2.1:=eP.lim λn=>(C.kG n).2.2.2.2.2
def M.Iq{R:Type}(n' fH:Int)(iJ:aA)(iO:au)(k:Bool->Option R):Option R:=
 bif n' !=1 then
 (bif !iJ==[] then(k false) else
 (bif n' !=4 then
 (bif fH !=0 then(k false) else
 (bif n'==1 then
 ((M.lQ iJ).bind λaM4=>(bif aM4 then(k ((↑iO.length:Int)==0)) else(k false))) else
 (bif n'==2 then(k ((↑iO.length:Int)==0)) else
 (bif n'==3 then(k ((↑iO.length:Int)==0)) else
 (bif n'==4 then
 ((M.aV fH 0 40).bind λaM5=>(bif aM5 then(k ((↑iO.length:Int)==1)) else(k false))) else(bif n'==5 then(k ((↑iO.length:Int)==1)) else(k (n'==6)))))))) else
 (bif n'==1 then
 ((M.lQ iJ).bind λaM6=>(bif aM6 then(k ((↑iO.length:Int)==0)) else(k false))) else
 (bif n'==2 then(k ((↑iO.length:Int)==0)) else
 (bif n'==3 then(k ((↑iO.length:Int)==0)) else
 (bif n'==4 then
 ((M.aV fH 0 40).bind λaM7=>(bif aM7 then(k ((↑iO.length:Int)==1)) else(k false))) else(bif n'==5 then(k ((↑iO.length:Int)==1)) else(k (n'==6))))))))) else
 (bif n' !=4 then
 (bif fH !=0 then(k false) else
 (bif n'==1 then
 ((M.lQ iJ).bind λaM8=>(bif aM8 then(k ((↑iO.length:Int)==0)) else(k false))) else
 (bif n'==2 then(k ((↑iO.length:Int)==0)) else
 (bif n'==3 then(k ((↑iO.length:Int)==0)) else
 (bif n'==4 then
 ((M.aV fH 0 40).bind λaM9=>(bif aM9 then(k ((↑iO.length:Int)==1)) else(k false))) else(bif n'==5 then(k ((↑iO.length:Int)==1)) else(k (n'==6)))))))) else
 (bif n'==1 then
 ((M.lQ iJ).bind λaNa=>(bif aNa then(k ((↑iO.length:Int)==0)) else(k false))) else
 (bif n'==2 then(k ((↑iO.length:Int)==0)) else
 (bif n'==3 then(k ((↑iO.length:Int)==0)) else
 (bif n'==4 then
 ((M.aV fH 0 40).bind λaNb=>(bif aNb then(k ((↑iO.length:Int)==1)) else(k false))) else(bif n'==5 then(k ((↑iO.length:Int)==1)) else(k (n'==6))))))))
def M.wB(n' fH:Int)(iJ:aA)(iO:au):Option (Bool):=M.Iq n' fH iJ iO some
def C.wB:S.wB.ok X0 λx=>M.wB x.1.1.1 x.1.1.2.1 x.1.1.2.2.1 x.1.1.2.2.2.1:=fnS (λx=>M.Iq x.1.1.1 x.1.1.2.1 x.1.1.2.2.1 x.1.1.2.2.2.1) [fe C.lQ,fe C.aV] [] (by intros;unfold M.Iq;repeat' first|with_reducible apply iw|with_reducible apply Lh|with_reducible apply Lj|with_reducible apply Ll|with_reducible apply Lm|(intro _)|apply iw|rfl)
def M.sG{R:Type}(l:au)(i:Int)(x':au)(s:Int×Int)(kn:Int×Int->Option R)(ke:(Unit)⊕(Int×Int)->Option R):Option R:=match s with
 |(at',k')=>
 bif decide (k'>=0) then
 ((idx l i).bind λau5=>
 ((SK 1 au5 3).bind λaqy=>
 ((idx aqy k').bind λau6=>
 ((fQ .i64 au6 0).bind λaNc=>
 (bif aNc !=i64.wrap (at' - 1) then(ke (.inl ())) else
 (bif at'==0 then(ke (.inl ())) else
 ((idx x' (i64.wrap (at' - 1))).bind λaNd=>
 ((x'[(i64.wrap (at' - 1)).toNat]?).bind λau7=>((fQ .i64 au7 0).bind λaNe=>(kn ((aNe,i64.wrap (k' - 1))))))))))))) else(ke (.inr ((at',k'))))
def M.yA(l:au)(i:Int)(x':au)(s:Int×Int):=M.sG l i x' s (λs=>some (Sum.inl s)) λt=>some (Sum.inr t)
def M.oH(l:au)(i:Int)(x':au)(s:Int×Int):Option ((Unit)⊕(Int×Int)):=eF (M.yA l i x') s
def F.oH:LE X0 102:=le 7 (GN [dG 0 (pL false 4),dG 4 (pO 300000 0),dG 5 pI,dG 6 pI,dG 7 pI] [dG 300000 (cA false true 0 1)]) (λx=>(x.1.2.2.2.1,x.1.2.2.2.2.1)) (λx s=>((x.1.1,(),x.1.2.2.1,s.1,s.2,()),(x.2.1,()))) (λx=> .sum (.leaf (Unit) (λt=>(Ex.ret,{tm:=[(2,V.own 300000 0),(3,V.d (D.bool false))],mem:=[(300000,Cell.arr false true 0 1 [])]}))) (.leaf (Int×Int) (λt=>(Ex.exit 2,{tm:=[(0,V.d (D.sl false 4 x.1.1)),(4,V.own 300000 0),(5,V.d (D.int .i64 x.1.2.2.1)),(6,V.d (D.int .i64 t.1)),(7,V.d (D.int .i64 t.2)),(24,V.d (D.bool false))],mem:=[(300000,Cell.arr false true 0 1 x.2.1)]})))) (λx=>M.sG x.1.1 x.1.2.2.1 x.2.1) [] [] (by rintro _ _ ⟨_,_⟩ _ _<;>simp only[M.sG,nb]<;>rfl)
def M.sH{R:Type}(l:au)(s:Int×au)(kn:Int×au->Option R)(ke:(Unit)⊕(Int×au)->Option R):Option R:=match s with
 |(i,x')=>
 bif decide (i<(↑l.length:Int)) then
 ((idx l i).bind λau8=>
 ((SK 1 au8 3).bind λaqz=>
 ((M.oH l i x' ((i,i64.wrap ((↑aqz.length:Int) - 1)))).bind λaNf=>
 qR aNf (λaQY=>(ke (.inl ()))) λaNg=>
 letE aNg λaNh=>
 (iV x' [[D.int .i64 aNh.1]] 8 λza=>(kn ((i64.wrap (i+1),za))))))) else(ke (.inr ((i,x'))))
def M.yB(l:au)(s:Int×au):=M.sH l s (λs=>some (Sum.inl s)) λt=>some (Sum.inr t)
def M.oI(l:au)(s:Int×au):Option ((Unit)⊕(Int×au)):=eF (M.yB l) s
def F.oI:LE X0 102:=le 3 (GN [dG 0 (pL false 4),dG 4 (pO 300000 0),dG 5 pI] [dG 300000 (cA false true 0 1)]) (λx=>(x.1.2.2.1,x.2.1)) (λx s=>((x.1.1,(),s.1,()),(s.2,()))) (λx=> .sum (.leaf (Unit) (λt=>(Ex.ret,{tm:=[(2,V.own 300000 0),(3,V.d (D.bool false))],mem:=[(300000,Cell.arr false true 0 1 [])]}))) (.leaf (Int×au) (λt=>(Ex.exit 0,{tm:=[(0,V.d (D.sl false 4 x.1.1)),(4,V.own 300000 0),(5,V.d (D.int .i64 t.1)),(12,V.d (D.bool false))],mem:=[(300000,Cell.arr false true 0 1 t.2)]})))) (λx=>M.sH x.1.1) [] [F.oH] (by rintro _ _ ⟨_,_⟩ _ _<;>simp only[iV,M.sH,nb]<;>rfl)
def M.Es{R:Type}(l:au)(k:au×Bool->Option R):Option R:=
 (M.oI l ((0,[]))).bind λaNi=>
 qR aNi (λaQZ=>(k (([],false)))) λaNj=>
 letE aNj λaBb=>(bif ay aBb.2 then(k ((aBb.2,true))) else none)
def M.qX(l:au):Option (au×Bool):=M.Es l some
def C.qX:S.qX.ok X0 λx=>M.qX x.1.1:=fnS (λx=>M.Es x.1.1) [] [F.oI] (by intros;simp only[M.Es,nb]<;>rfl)
def M.AY{R:Type}(l:au)(s:Int)(kn:Int->Option R)(ke:(Unit)⊕(Int)->Option R):Option R:=match s with
 |i=>
 bif decide (i<(↑l.length:Int)) then
 ((idx l i).bind λaeF=>
 ((fQ .i64 aeF 0).bind λaNk=>
 ((fQ .i64 aeF 1).bind λaNl=>
 ((cStr aeF 2).bind λaNm=>
 ((SK 1 aeF 3).bind λaqA=>
 ((M.wB aNk aNl aNm aqA).bind λaNn=>(bif !aNn then(ke (.inl ())) else(kn (i64.wrap (i+1)))))))))) else(ke (.inr i))
def M.FQ(l:au)(s:Int):=M.AY l s (λs=>some (Sum.inl s)) λt=>some (Sum.inr t)
def M.J4(l:au)(s:Int):Option ((Unit)⊕(Int)):=eF (M.FQ l) s
def F.J4:LE X0 60:=le 4 (GN [dG 0 (pL false 4),dG 3 pI] []) (λx=>x.1.2.1) (λx s=>((x.1.1,s,()),())) (λx=> .sum (.leaf (Unit) (λt=>(Ex.ret,{tm:=[(2,V.d (D.bool false))],mem:=[]}))) (.leaf (Int) (λt=>(Ex.exit 0,{tm:=[(0,V.d (D.sl false 4 x.1.1)),(3,V.d (D.int .i64 t)),(13,V.d (D.bool false))],mem:=[]})))) (λx=>M.AY x.1.1) [fe C.wB] [] (by rintro _ _ _ _ _<;>simp only[M.AY,nb]<;>rfl)
def M.L6{R:Type}(l:au)(k:Bool->Option R):Option R:=
 (M.aV ((↑l.length:Int)) 1 4000).bind λaNo=>
 (bif !aNo then(k false) else
 ((M.J4 l 0).bind λaNp=>
 qR aNp (λaQ0=>(k false)) λaNq=>
 letE aNq λaQ1=>
 ((M.qX l).bind λau9=>
 (bif au9.2 then
 ((idx au9.1 (i64.wrap ((↑l.length:Int) - 1))).bind λaNr=>
 ((au9.1[(i64.wrap ((↑l.length:Int) - 1)).toNat]?).bind λava=>((fQ .i64 ava 0).bind λaNs=>(k (aNs==0))))) else(k false)))))
def M.Dw(l:au):Option (Bool):=M.L6 l some
def C.Dw:S.Dw.ok X0 λx=>M.Dw x.1.1:=fnS (λx=>M.L6 x.1.1) [fe C.aV,fe C.qX] [F.J4] (by intros;simp only[M.L6,nb]<;>rfl)
def M.lF{R:Type}(l:au)(s:Int×au)(kn:Int×au->Option R)(ke:(Unit)⊕(Int×au)->Option R):Option R:=match s with
 |(i,x')=>
 bif decide (i<(↑l.length:Int)) then
 ((idx l i).bind λavb=>
 ((fQ .i64 avb 0).bind λavc=>
 (bif avc==1 then
 ((idx l i).bind λavd=>
 ((cStr avd 2).bind λave=>
 (bif((x'.length+(List.map byteRow ave).length) * 1).ble 140737488355328 then
 (bif(x'.length+(List.map byteRow ave).length).ble 140737488355328 then(kn ((i64.wrap (i+1),x'++List.map byteRow ave))) else none) else none))) else
 (bif avc==2 then
 (bif((x'.length+1) * 1).ble 140737488355328 then
 (bif(x'.length+1).ble 140737488355328 then(kn ((i64.wrap (i+1),x'++[[D.int IntKind.u8 32]]))) else none) else none) else(bif avc==3 then(ke (.inl ())) else(kn ((i64.wrap (i+1),x')))))))) else(ke (.inr ((i,x'))))
def M.nG(l:au)(s:Int×au):=M.lF l s (λs=>some (Sum.inl s)) λt=>some (Sum.inr t)
def M.jQ(l:au)(s:Int×au):Option ((Unit)⊕(Int×au)):=eF (M.nG l) s
def F.jQ:LE X0 44:=le 5 (GN [dG 0 (pL false 4),dG 4 (pO 300000 0),dG 5 pI] [dG 300000 (cA false true 0 1)]) (λx=>(x.1.2.2.1,x.2.1)) (λx s=>((x.1.1,(),s.1,()),(s.2,()))) (λx=> .sum (.leaf (Unit) (λt=>(Ex.ret,{tm:=[(2,V.d (D.str [])),(3,V.d (D.bool false))],mem:=[]}))) (.leaf (Int×au) (λt=>(Ex.exit 0,{tm:=[(0,V.d (D.sl false 4 x.1.1)),(4,V.own 300000 0),(5,V.d (D.int .i64 t.1)),(13,V.d (D.bool false))],mem:=[(300000,Cell.arr false true 0 1 t.2)]})))) (λx=>M.lF x.1.1) [] [] (by rintro _ _ ⟨_,_⟩ _ _<;>simp only[M.lF,nb]<;>rfl)
def M.FT{R:Type}(l:au)(k:aA×Bool->Option R):Option R:=
 (M.Dw l).bind λaNt=>
 (bif !aNt then(k (([],false))) else
 ((M.jQ l ((0,[]))).bind λaNu=>
 qR aNu (λaQ2=>(k (([],false)))) λaNv=>
 letE aNv λaNw=>((bytesOf aNw.2).bind λaNx=>(k ((aNx,true))))))
def M.qF(l:au):Option (aA×Bool):=M.FT l some
def C.qF:S.qF.ok X0 λx=>M.qF x.1.1:=fnS (λx=>M.FT x.1.1) [fe C.Dw] [F.jQ] (by intros;simp only[M.FT,nb]<;>rfl)
def M.uO{R:Type}(x':au)(s:aA×Int)(kn:aA×Int->Option R)(ke:aA×Int->Option R):Option R:=match s with
 |(s',k')=>
 bif decide (k'<(↑x'.length:Int)) then
 (bif decide (k'>0) then
 (bif(s'.length+2).ble 9223372036854775807 then
 ((idx x' k').bind λaNy=>
 (x'[k'.toNat]?.bind λavf=>
 ((cStr avf 0).bind λaBd=>
 (bif((s'++[44,32]).length+aBd.length).ble 9223372036854775807 then(kn ((s'++[44,32]++aBd,i64.wrap (k'+1)))) else none)))) else none) else
 ((idx x' k').bind λaNz=>
 (x'[k'.toNat]?.bind λavg=>
 ((cStr avg 0).bind λaBe=>
 (bif(s'.length+aBe.length).ble 9223372036854775807 then(kn ((s'++aBe,i64.wrap (k'+1)))) else none))))) else(ke ((s',k')))
def M.Ah(x':au)(s:aA×Int):=M.uO x' s (λs=>some (Sum.inl s)) λt=>some (Sum.inr t)
def M.Et(x':au)(s:aA×Int):Option (aA×Int):=eF (M.Ah x') s
def F.Et:LE X0 21:=le 12 (GN [dG 7 pS,dG 8 (pO 300000 0),dG 9 pI] [dG 300000 (cA false true 0 1)]) (λx=>(x.1.1,x.1.2.2.1)) (λx s=>((s.1,(),s.2,()),(x.2.1,()))) (λx=> .leaf (aA×Int) (λt=>(Ex.exit 1,{tm:=[(7,V.d (D.str t.1)),(8,V.own 300000 0),(9,V.d (D.int .i64 t.2)),(38,V.d (D.bool false))],mem:=[(300000,Cell.arr false true 0 1 x.2.1)]}))) (λx=>M.uO x.2.1) [] [] (by rintro _ _ ⟨_,_⟩ _ _<;>simp only[M.uO,nb]<;>rfl)
def M.uP{R:Type}(l:au)(x' BG:Int)(Dk ER:aA)(Fb PV:au)(U9:Bool)(s:aA×Int)(kn:aA×Int->Option R)(ke:aA×Int->Option R):Option R:=match s with
 |(s',k')=>
 bif decide (k'<(↑Fb.length:Int)) then
 ((idx Fb k').bind λavh=>
 ((fQ .i64 avh 0).bind λaNA=>
 ((idx l aNA).bind λavi=>
 ((fQ .i64 avi 0).bind λaNB=>
 (bif aNB==33 then(kn ((s',i64.wrap (k'+1)))) else
 ((idx Fb k').bind λavj=>
 ((fQ .i64 avj 0).bind λaNC=>
 (M.jG.bind λafN=>
 ((M.lY PV U9 aNC afN.1 afN.2.1 afN.2.2.1 afN.2.2.2.1 afN.2.2.2.2).bind λaND=>
 ((M.qF (bJ aND)).bind λaqB=>
 (bif decide (k'>0) then
 (bif(s'.length+2).ble 9223372036854775807 then
 (bif((s'++[44,32]).length+aqB.1.length).ble 9223372036854775807 then(kn ((s'++[44,32]++aqB.1,i64.wrap (k'+1)))) else none) else none) else
 (bif(s'.length+aqB.1.length).ble 9223372036854775807 then(kn ((s'++aqB.1,i64.wrap (k'+1)))) else none)))))))))))) else(ke ((s',k')))
def M.Ai(l:au)(x' BG:Int)(Dk ER:aA)(Fb PV:au)(U9:Bool)(s:aA×Int):=M.uP l x' BG Dk ER Fb PV U9 s (λs=>some (Sum.inl s)) λt=>some (Sum.inr t)
def M.yZ(l:au)(x' BG:Int)(Dk ER:aA)(Fb PV:au)(U9:Bool)(s:aA×Int):Option (aA×Int):=eF (M.Ai l x' BG Dk ER Fb PV U9) s
def F.yZ:LE X0 21:=le 22 (GN [dG 0 (pL false 5),dG 5 (pP 300000 0),dG 6 (pP 300001 0),dG 10 pS,dG 11 pI] [dG 300000 (cB 39 [pI,pI,pS,pS,pL false 1]),dG 300001 (cB 65 [pL false 5,pB])]) (λx=>(x.1.2.2.2.1,x.1.2.2.2.2.1)) (λx s=>((x.1.1,(),(),s.1,s.2,()),((x.2.1.1,x.2.1.2.1,x.2.1.2.2.1,x.2.1.2.2.2.1,x.2.1.2.2.2.2.1,()),(x.2.2.1.1,x.2.2.1.2.1,()),()))) (λx=> .leaf (aA×Int) (λt=>(Ex.exit 3,{tm:=[(0,V.d (D.sl false 5 x.1.1)),(5,V.ptr 300000 0),(6,V.ptr 300001 0),(10,V.d (D.str t.1)),(11,V.d (D.int .i64 t.2)),(60,V.d (D.bool false))],mem:=[(300000,Cell.box 39 [V.d (D.int .i64 x.2.1.1),V.d (D.int .i64 x.2.1.2.1),V.d (D.str x.2.1.2.2.1),V.d (D.str x.2.1.2.2.2.1),V.d (D.sl false 1 x.2.1.2.2.2.2.1)]),(300001,Cell.box 65 [V.d (D.sl false 5 x.2.2.1.1),V.d (D.bool x.2.2.1.2.1)])]}))) (λx=>M.uP x.1.1 x.2.1.1 x.2.1.2.1 x.2.1.2.2.1 x.2.1.2.2.2.1 x.2.1.2.2.2.2.1 x.2.2.1.1 x.2.2.1.2.1) [fe C.jG,fe C.lY,fe C.qF] [] (by rintro _ _ ⟨_,_⟩ _ _<;>unfold M.uP<;>repeat' first|with_reducible apply iw|with_reducible apply Lh|with_reducible apply Lj|with_reducible apply Ll|with_reducible apply Lm|(intro _)|apply iw|rfl)
def M.Ir{R:Type}(l:au)(i:Int)(k:aA->Option R):Option R:=
 (idx l i).bind λavk=>
 (kZ 1 avk λn325 n326 an0 aBf akn=>
 (bif n325==40 then(k [66,69,71,73,78]) else
 (bif n325==41 then(k [69,78,68]) else
 (bif n325==44 then
 (bif(9+an0.length).ble 9223372036854775807 then
 (bif(([102,117,110,99,116,105,111,110,32]++an0).length+1).ble 9223372036854775807 then
 ((M.qW l i).bind λaNE=>
 ((M.Et aNE (([102,117,110,99,116,105,111,110,32]++an0++[40],0))).bind λaBg=>(bif(aBg.1.length+1).ble 9223372036854775807 then(k (aBg.1++[41])) else none))) else none) else none) else
 (bif n325==42 then
 ((M.yZ l n325 n326 an0 aBf akn l false (([],0))).bind λaNF=>(k aNF.1)) else
 (bif n325==43 then
 ((M.yZ l n325 n326 an0 aBf akn l false (([],0))).bind λaNG=>(k aNG.1)) else(k [])))))))
def M.wC(l:au)(i:Int):Option (aA):=M.Ir l i some
def C.wC:S.wC.ok X0 λx=>M.wC x.1.1 x.1.2.1:=fnS (λx=>M.Ir x.1.1 x.1.2.1) [fe C.qW] [F.Et,F.yZ] (by intros;simp only[kZ,M.Ir,nb]<;>rfl)
def M.xg{R:Type}(l kids:au)(s:Int×au)(kn:Int×au->Option R)(ke:Int×au->Option R):Option R:=match s with
 |(k',x')=>
 bif decide (k'<(↑kids.length:Int)) then
 ((idx kids k').bind λavl=>
 ((fQ .i64 avl 0).bind λn282=>
 ((idx l n282).bind λavm=>
 ((fQ .i64 avm 0).bind λn284=>
 (bif n284==34 then(kn ((i64.wrap (k'+1),x'))) else
 ((idx kids k').bind λavn=>
 ((fQ .i64 avn 0).bind λn286=>
 ((M.zI l n286).bind λaNH=>
 ((M.o7 (bJ aNH)).bind λaNI=>
 ((M.KP aNI).bind λavo=>
 (bif(avo.length+1).ble 9223372036854775807 then
 ((idx kids k').bind λavp=>
 ((fQ .i64 avp 0).bind λn323=>
 ((M.wC l n323).bind λaBh=>
 (bif((avo++[32]).length+aBh.length).ble 9223372036854775807 then
 (iV x' [[D.str (avo++[32]++aBh)]] 16 λza=>(kn ((i64.wrap (k'+1),za)))) else none)))) else none))))))))))) else(ke ((k',x')))
def M.Cj(l kids:au)(s:Int×au):=M.xg l kids s (λs=>some (Sum.inl s)) λt=>some (Sum.inr t)
def M.FU(l kids:au)(s:Int×au):Option (Int×au):=eF (M.Cj l kids) s
def F.FU:LE X0 6:=le 6 (GN [dG 0 (pL false 5),dG 3 (pO 300000 0),dG 4 (pL false 1),dG 5 pI] [dG 300000 (cA false true 0 1)]) (λx=>(x.1.2.2.2.1,x.2.1)) (λx s=>((x.1.1,(),x.1.2.2.1,s.1,()),(s.2,()))) (λx=> .leaf (Int×au) (λt=>(Ex.exit 0,{tm:=[(0,V.d (D.sl false 5 x.1.1)),(3,V.own 300000 0),(4,V.d (D.sl false 1 x.1.2.2.1)),(5,V.d (D.int .i64 t.1)),(21,V.d (D.bool false))],mem:=[(300000,Cell.arr false true 0 1 t.2)]}))) (λx=>M.xg x.1.1 x.1.2.2.1) [fe C.zI,fe C.o7,fe C.KP,fe C.wC] [] (by rintro _ _ ⟨_,_⟩ _ _<;>simp only[iV,M.xg,nb]<;>rfl)
def M.Iu{R:Type}(l:au)(k:au->Option R):Option R:=
 (M.uD l).bind λaNJ=>
 (bif !aNJ then(k []) else
 ((idx l (i64.wrap ((↑l.length:Int) - 1))).bind λavq=>
 ((SK 1 avq 4).bind λaqC=>
 ((M.FU l aqC ((0,[]))).bind λaBi=>(bif ay aBi.2 then(k aBi.2) else none)))))
def M.wE(l:au):Option (au):=M.Iu l some
def C.wE:S.wE.ok X0 λx=>M.wE x.1.1:=fnS (λx=>M.Iu x.1.1) [fe C.uD] [F.FU] (by intros;simp only[M.Iu,nb]<;>rfl)
def C.fM:S.fM.ok X0 λx=>M.fM x.1.1:=eP.Tz (p:=Prim.fM)
def M.Iw{R:Type}(l:au)(k:Bool->Option R):Option R:=
 (M.fM l).bind λaNK=>(k aNK.2)
def M.wF(l:au):Option (Bool):=M.Iw l some
def C.wF:S.wF.ok X0 λx=>M.wF x.1.1:=fnS (λx=>M.Iw x.1.1) [fe C.fM] [] (by intros;simp only[M.Iw,nb]<;>rfl)
def M.xY{R:Type}(n' low high:Int)(k:Bool->Option R):Option R:=
 bif decide (n'>=low) then(k (decide (n'<=high))) else(k false)
def M.bG(n' low high:Int):Option (Bool):=M.xY n' low high some
def C.bG:S.bG.ok X0 λx=>M.bG x.1.1 x.1.2.1 x.1.2.2.1:=fnS (λx=>M.xY x.1.1 x.1.2.1 x.1.2.2.1) [] [] (by intros;simp only[M.xY,nb]<;>rfl)
def M.jh{R:Type}(kind:Int)(k:Bool->Option R):Option R:=
 (M.bG kind 1 15).bind λaNL=>(k aNL)
def M.dI(kind:Int):Option (Bool):=M.jh kind some
def C.dI:S.dI.ok X0 λx=>M.dI x.1.1:=fnS (λx=>M.jh x.1.1) [fe C.bG] [] (by intros;simp only[M.jh,nb]<;>rfl)
def M.FV{R:Type}(b:Int)(k:Bool->Option R):Option R:=
 bif decide (b>=97) then
 (bif decide (b<=122) then(k true) else
 (bif decide (b>=65) then(bif decide (b<=90) then(k true) else(k (b==95))) else(k (b==95)))) else
 (bif decide (b>=65) then(bif decide (b<=90) then(k true) else(k (b==95))) else(k (b==95)))
def M.nU(b:Int):Option (Bool):=M.FV b some
def C.nU:S.nU.ok X0 λx=>M.nU x.1.1:=fnS (λx=>M.FV x.1.1) [] [] (by intros;simp only[M.FV,nb]<;>rfl)
def M.Iz{R:Type}(b:Int)(k:Bool->Option R):Option R:=
 bif decide (b>=48) then(k (decide (b<=57))) else(k false)
def M.qG(b:Int):Option (Bool):=M.Iz b some
def C.qG:S.qG.ok X0 λx=>M.qG x.1.1:=fnS (λx=>M.Iz x.1.1) [] [] (by intros;simp only[M.Iz,nb]<;>rfl)
def M.Cm{R:Type}(b:Int)(k:Bool->Option R):Option R:=
 (M.nU b).bind λaNM=>(bif aNM then(k true) else((M.qG b).bind λaNN=>(k aNN)))
def M.jm(b:Int):Option (Bool):=M.Cm b some
def C.jm:S.jm.ok X0 λx=>M.jm x.1.1:=fnS (λx=>M.Cm x.1.1) [fe C.nU,fe C.qG] [] (by intros;simp only[M.Cm,nb]<;>rfl)
def M.sJ{R:Type}(s':aA)(v5 s:Int)(kn:Int->Option R)(ke:(Unit)⊕(Int)->Option R):Option R:=match s with
 |v6=>
 bif decide (v6<v5) then
 ((idx s' v6).bind λaNO=>
 ((M.jm (i64.wrap (↑aNO.toNat:Int))).bind λaNP=>(bif !aNP then(ke (.inl ())) else(kn (i64.wrap (v6+1)))))) else(ke (.inr v6))
def M.yC(s':aA)(v5 s:Int):=M.sJ s' v5 s (λs=>some (Sum.inl s)) λt=>some (Sum.inr t)
def M.CB(s':aA)(v5 s:Int):Option ((Unit)⊕(Int)):=eF (M.yC s' v5) s
def F.CB:LE X0 233:=le 2 (GN [dG 0 pS,dG 5 pI,dG 6 pI] []) (λx=>x.1.2.2.1) (λx s=>((x.1.1,x.1.2.1,s,()),())) (λx=> .sum (.leaf (Unit) (λt=>(Ex.ret,{tm:=[(2,V.d (D.bool false))],mem:=[]}))) (.leaf (Int) (λt=>(Ex.exit 0,{tm:=[(0,V.d (D.str x.1.1)),(5,V.d (D.int .i64 x.1.2.1)),(6,V.d (D.int .i64 t)),(7,V.d (D.bool false))],mem:=[]})))) (λx=>M.sJ x.1.1 x.1.2.1) [fe C.jm] [] (by rintro _ _ _ _ _<;>simp only[M.sJ,nb]<;>rfl)
def M.Eu{R:Type}(s':aA)(k:Bool->Option R):Option R:=
 (M.CB s' ((↑s'.length:Int)) 0).bind λaNQ=>
 qR aNQ (λaQ3=>(k false)) λaNR=>
 letE aNR λaQ4=>
 ((M.bG ((↑s'.length:Int)) 1 12).bind λaNS=>
 (bif aNS then
 ((idx s' 0).bind λaNT=>((M.nU (i64.wrap (↑aNT.toNat:Int))).bind λaNU=>(k aNU))) else(k false)))
def M.qY(s':aA):Option (Bool):=M.Eu s' some
def C.qY:S.qY.ok X0 λx=>M.qY x.1.1:=fnS (λx=>M.Eu x.1.1) [fe C.bG,fe C.nU] [F.CB] (by intros;simp only[M.Eu,nb]<;>rfl)
def M.xk{R:Type}(s':au)(v:aA)(v7 s:Int)(kn:Int->Option R)(ke:(Int)⊕(Int)->Option R):Option R:=match s with
 |v8=>
 bif decide (v8<v7) then
 ((idx s' v8).bind λavr=>
 ((cStr avr 0).bind λaNV=>(bif v==aNV then(ke (.inl v8)) else(kn (i64.wrap (v8+1)))))) else(ke (.inr v8))
def M.CG(s':au)(v:aA)(v7 s:Int):=M.xk s' v v7 s (λs=>some (Sum.inl s)) λt=>some (Sum.inr t)
def M.FW(s':au)(v:aA)(v7 s:Int):Option ((Int)⊕(Int)):=eF (M.CG s' v v7) s
def F.FW:LE X0 243:=le 2 (GN [dG 0 (pL false 1),dG 1 pS,dG 7 pI,dG 8 pI] []) (λx=>x.1.2.2.2.1) (λx s=>((x.1.1,x.1.2.1,x.1.2.2.1,s,()),())) (λx=> .sum (.leaf (Int) (λt=>(Ex.ret,{tm:=[(4,V.d (D.int .i64 t))],mem:=[]}))) (.leaf (Int) (λt=>(Ex.exit 0,{tm:=[(0,V.d (D.sl false 1 x.1.1)),(1,V.d (D.str x.1.2.1)),(7,V.d (D.int .i64 x.1.2.2.1)),(8,V.d (D.int .i64 t)),(9,V.d (D.bool false))],mem:=[]})))) (λx=>M.xk x.1.1 x.1.2.1 x.1.2.2.1) [] [] (by rintro _ _ _ _ _<;>simp only[M.xk,nb]<;>rfl)
def M.IB{R:Type}(s':au)(v:aA)(k:Int->Option R):Option R:=
 (M.FW s' v ((↑s'.length:Int)) 0).bind λaNW=>
 qR aNW (λaNX=>(k aNX)) λaNY=>
 letE aNY λaQ5=>(k (-1))
def M.slices_Index(s':au)(v:aA):Option (Int):=M.IB s' v some
def C.slices_Index:S.slices_Index.ok X0 λx=>M.slices_Index x.1.1 x.1.2.1:=fnS (λx=>M.IB x.1.1 x.1.2.1) [] [F.FW] (by intros;simp only[M.IB,nb]<;>rfl)
def M.Ew{R:Type}(s':aA)(k:Int->Option R):Option R:=
 (M.slices_Index (List.map (λx=>[x]) zx) s').bind λaBj=>(bif decide (aBj<0) then(k 0) else(k (i64.wrap (10+aBj))))
def M.qZ(s':aA):Option (Int):=M.Ew s' some
def C.qZ:S.qZ.ok X0 λx=>M.qZ x.1.1:=fnS (λx=>M.Ew x.1.1) [fe C.slices_Index] [] (by intros;simp only[M.Ew,nb]<;>rfl)
def M.xq{R:Type}(s':au)(v:aA)(k:Bool->Option R):Option R:=
 (M.slices_Index s' v).bind λaNZ=>(k (decide (aNZ>=0)))
def M.slices_Contains(s':au)(v:aA):Option (Bool):=M.xq s' v some
def C.slices_Contains:S.slices_Contains.ok X0 λx=>M.slices_Contains x.1.1 x.1.2.1:=fnS (λx=>M.xq x.1.1 x.1.2.1) [fe C.slices_Index] [] (by intros;simp only[M.xq,nb]<;>rfl)
def M.Ez{R:Type}(s':aA)(k:Bool->Option R):Option R:=
 (M.slices_Contains (List.map (λx=>[x]) GU) s').bind λaN0=>(k aN0)
def M.kL(s':aA):Option (Bool):=M.Ez s' some
def C.kL:S.kL.ok X0 λx=>M.kL x.1.1:=fnS (λx=>M.Ez x.1.1) [fe C.slices_Contains] [] (by intros;simp only[M.Ez,nb]<;>rfl)
def M.J5{R:Type}(s':aA)(k:Bool->Option R):Option R:=
 (M.qY s').bind λaN1=>
 (bif aN1 then
 ((M.qZ s').bind λaN2=>(bif aN2==0 then((M.kL s').bind λaN3=>(k !aN3)) else(k false))) else(k false))
def M.jc(s':aA):Option (Bool):=M.J5 s' some
def C.jc:S.jc.ok X0 λx=>M.jc x.1.1:=fnS (λx=>M.J5 x.1.1) [fe C.qY,fe C.qZ,fe C.kL] [] (by intros;simp only[M.J5,nb]<;>rfl)
def C.strings_Contains:S.strings_Contains.ok X0 λx=>M.strings_Contains x.1.1 x.1.2.1:=eP.Tz (p:=Prim.strings_Contains)
def M.J6{R:Type}(s':aA)(at':Int)(k:Int->Option R):Option R:=
 (M.bG at' 0 (i64.wrap ((↑s'.length:Int) - 1))).bind λaN4=>
 (bif !aN4 then(k (-1)) else((idx s' at').bind λaN5=>(k (i64.wrap (↑aN5.toNat:Int)))))
def M.jd(s':aA)(at':Int):Option (Int):=M.J6 s' at' some
def C.jd:S.jd.ok X0 λx=>M.jd x.1.1 x.1.2.1:=fnS (λx=>M.J6 x.1.1 x.1.2.1) [fe C.bG] [] (by intros;simp only[M.J6,nb]<;>rfl)
def M.yD{R:Type}(s':aA)(s:Int)(kn:Int->Option R)(ke:Int->Option R):Option R:=match s with
 |at'=>
 (M.jd s' at').bind λaN6=>
 ((M.qG aN6).bind λaN7=>(bif aN7 then(kn (i64.wrap (at'+1))) else(ke at')))
def M.LD(s':aA)(s:Int):=M.yD s' s (λs=>some (Sum.inl s)) λt=>some (Sum.inr t)
def M.CJ(s':aA)(s:Int):Option (Int):=eF (M.LD s') s
def F.CJ:LE X0 262:=le 1 (GN [dG 0 pS,dG 1 pI] []) (λx=>x.1.2.1) (λx s=>((x.1.1,s,()),())) (λx=> .leaf (Int) (λt=>(Ex.exit 0,{tm:=[(0,V.d (D.str x.1.1)),(1,V.d (D.int .i64 t)),(8,V.d (D.bool false))],mem:=[]}))) (λx=>M.yD x.1.1) [fe C.jd,fe C.qG] [] (by rintro _ _ _ _ _<;>simp only[M.yD,nb]<;>rfl)
def M.EC{R:Type}(s':aA)(at':Int)(k:Int->Option R):Option R:=
 (M.CJ s' at').bind λaN8=>(k aN8)
def M.dw(s':aA)(at':Int):Option (Int):=M.EC s' at' some
def C.dw:S.dw.ok X0 λx=>M.dw x.1.1 x.1.2.1:=fnS (λx=>M.EC x.1.1 x.1.2.1) [] [F.CJ] (by intros;simp only[M.EC,nb]<;>rfl)
def M.J7{R:Type}(s':aA)(at':Int)(k:Int->Option R):Option R:=
 (M.bG at' 0 (i64.wrap ((↑s'.length:Int) - 1))).bind λaN9=>
 (bif !aN9 then(k (-1)) else
 ((M.dw s' at').bind λJs=>
 ((M.jd s' Js).bind λaOa=>
 (bif aOa==46 then
 ((M.dw s' (i64.wrap (Js+1))).bind λND=>
 (bif i64.wrap (i64.wrap (Js - at')+i64.wrap (i64.wrap (ND - Js) - 1))==0 then(k (-1)) else
 ((M.jd s' ND).bind λaBk=>
 (bif aBk==101 then
 ((M.jd s' (i64.wrap (ND+1))).bind λaBl=>
 (bif aBl==43 then
 ((M.dw s' (i64.wrap (i64.wrap (ND+1)+1))).bind λaBm=>
 (bif decide (aBm>i64.wrap (i64.wrap (ND+1)+1)) then(k aBm) else(k ND))) else
 (bif aBl==45 then
 ((M.dw s' (i64.wrap (i64.wrap (ND+1)+1))).bind λaBn=>
 (bif decide (aBn>i64.wrap (i64.wrap (ND+1)+1)) then(k aBn) else(k ND))) else
 ((M.dw s' (i64.wrap (ND+1))).bind λaBo=>(bif decide (aBo>i64.wrap (ND+1)) then(k aBo) else(k ND)))))) else
 (bif aBk==69 then
 ((M.jd s' (i64.wrap (ND+1))).bind λaBp=>
 (bif aBp==43 then
 ((M.dw s' (i64.wrap (i64.wrap (ND+1)+1))).bind λaBq=>
 (bif decide (aBq>i64.wrap (i64.wrap (ND+1)+1)) then(k aBq) else(k ND))) else
 (bif aBp==45 then
 ((M.dw s' (i64.wrap (i64.wrap (ND+1)+1))).bind λaBr=>
 (bif decide (aBr>i64.wrap (i64.wrap (ND+1)+1)) then(k aBr) else(k ND))) else
 ((M.dw s' (i64.wrap (ND+1))).bind λaBs=>(bif decide (aBs>i64.wrap (ND+1)) then(k aBs) else(k ND)))))) else(k ND)))))) else
 (bif i64.wrap (Js - at')==0 then(k (-1)) else
 ((M.jd s' Js).bind λaBt=>
 (bif aBt==101 then
 ((M.jd s' (i64.wrap (Js+1))).bind λaBu=>
 (bif aBu==43 then
 ((M.dw s' (i64.wrap (i64.wrap (Js+1)+1))).bind λaBv=>
 (bif decide (aBv>i64.wrap (i64.wrap (Js+1)+1)) then(k aBv) else(k Js))) else
 (bif aBu==45 then
 ((M.dw s' (i64.wrap (i64.wrap (Js+1)+1))).bind λaBw=>
 (bif decide (aBw>i64.wrap (i64.wrap (Js+1)+1)) then(k aBw) else(k Js))) else
 ((M.dw s' (i64.wrap (Js+1))).bind λaBx=>(bif decide (aBx>i64.wrap (Js+1)) then(k aBx) else(k Js)))))) else
 (bif aBt==69 then
 ((M.jd s' (i64.wrap (Js+1))).bind λaBy=>
 (bif aBy==43 then
 ((M.dw s' (i64.wrap (i64.wrap (Js+1)+1))).bind λaBz=>
 (bif decide (aBz>i64.wrap (i64.wrap (Js+1)+1)) then(k aBz) else(k Js))) else
 (bif aBy==45 then
 ((M.dw s' (i64.wrap (i64.wrap (Js+1)+1))).bind λaBA=>
 (bif decide (aBA>i64.wrap (i64.wrap (Js+1)+1)) then(k aBA) else(k Js))) else
 ((M.dw s' (i64.wrap (Js+1))).bind λaBB=>(bif decide (aBB>i64.wrap (Js+1)) then(k aBB) else(k Js)))))) else(k Js)))))))))
def M.zJ(s':aA)(at':Int):Option (Int):=M.J7 s' at' some
def C.zJ:S.zJ.ok X0 λx=>M.zJ x.1.1 x.1.2.1:=fnS (λx=>M.J7 x.1.1 x.1.2.1) [fe C.bG,fe C.dw,fe C.jd] [] (by intros;unfold M.J7;repeat' first|with_reducible apply iw|with_reducible apply Lh|with_reducible apply Lj|with_reducible apply Ll|with_reducible apply Lm|(intro _)|apply iw|rfl)
def M.oK{R:Type}(s':aA)(quote s:Int)(kn:Int->Option R)(ke:(Int)⊕(Int)->Option R):Option R:=match s with
 |i=>
 bif decide (i<(↑s'.length:Int)) then
 ((idx s' i).bind λaOb=>
 (bif(↑aOb.toNat:Int) !=10 then
 ((idx s' i).bind λaOc=>
 (bif i64.wrap (↑aOc.toNat:Int)==quote then(ke (.inl (i64.wrap (i+1)))) else
 ((idx s' i).bind λaOd=>
 (bif(↑aOd.toNat:Int)==92 then
 ((M.jd s' (i64.wrap (i+1))).bind λaOe=>
 (bif aOe !=10 then(kn (i64.wrap (i64.wrap (i+1)+1))) else(kn (i64.wrap (i+1))))) else(kn (i64.wrap (i+1))))))) else(ke (.inr i)))) else(ke (.inr i))
def M.sK(s':aA)(quote s:Int):=M.oK s' quote s (λs=>some (Sum.inl s)) λt=>some (Sum.inr t)
def M.oJ(s':aA)(quote s:Int):Option ((Int)⊕(Int)):=eF (M.sK s' quote) s
def F.oJ:LE X0 263:=le 4 (GN [dG 0 pS,dG 2 pI,dG 7 pI] []) (λx=>x.1.2.2.1) (λx s=>((x.1.1,x.1.2.1,s,()),())) (λx=> .sum (.leaf (Int) (λt=>(Ex.ret,{tm:=[(6,V.d (D.int .i64 t))],mem:=[]}))) (.leaf (Int) (λt=>(Ex.exit 0,{tm:=[(0,V.d (D.str x.1.1)),(2,V.d (D.int .i64 x.1.2.1)),(7,V.d (D.int .i64 t)),(24,V.d (D.bool false))],mem:=[]})))) (λx=>M.oK x.1.1 x.1.2.1) [fe C.jd] [] (by rintro _ _ _ _ _<;>simp only[M.oK,nb]<;>rfl)
def M.ED{R:Type}(s':aA)(at' quote:Int)(k:Int->Option R):Option R:=
 (M.jd s' at').bind λaOf=>
 (bif aOf !=quote then(k (-1)) else
 ((M.oJ s' quote (i64.wrap (at'+1))).bind λaOg=>
 qR aOg (λaOh=>(k aOh)) λaOi=>
 letE aOi λaQ6=>(k (-1))))
def M.mP(s':aA)(at' quote:Int):Option (Int):=M.ED s' at' quote some
def C.mP:S.mP.ok X0 λx=>M.mP x.1.1 x.1.2.1 x.1.2.2.1:=fnS (λx=>M.ED x.1.1 x.1.2.1 x.1.2.2.1) [fe C.jd] [F.oJ] (by intros;simp only[M.ED,nb]<;>rfl)
def M.J8{R:Type}(s':aA)(at':Int)(k:Int->Option R):Option R:=
 (M.mP s' at' 34).bind λaOj=>(k aOj)
def M.zK(s':aA)(at':Int):Option (Int):=M.J8 s' at' some
def C.zK:S.zK.ok X0 λx=>M.zK x.1.1 x.1.2.1:=fnS (λx=>M.J8 x.1.1 x.1.2.1) [fe C.mP] [] (by intros;simp only[M.J8,nb]<;>rfl)
def M.J9{R:Type}(s':aA)(at':Int)(k:Int->Option R):Option R:=
 (M.mP s' at' 47).bind λaBC=>(bif aBC==i64.wrap (at'+2) then(k (-1)) else(k aBC))
def M.zL(s':aA)(at':Int):Option (Int):=M.J9 s' at' some
def C.zL:S.zL.ok X0 λx=>M.zL x.1.1 x.1.2.1:=fnS (λx=>M.J9 x.1.1 x.1.2.1) [fe C.mP] [] (by intros;simp only[M.J9,nb]<;>rfl)
def M.xu{R:Type}(kind:Int)(k:Bool->Option R):Option R:=
 (M.bG kind 10 26).bind λaOk=>(k aOk)
def M.ny(kind:Int):Option (Bool):=M.xu kind some
def C.ny:S.ny.ok X0 λx=>M.ny x.1.1:=fnS (λx=>M.xu x.1.1) [fe C.bG] [] (by intros;simp only[M.xu,nb]<;>rfl)
def M.xw{R:Type}(kind:Int)(k:Bool->Option R):Option R:=
 (M.bG kind 30 68).bind λaOl=>(k aOl)
def M.fJ(kind:Int):Option (Bool):=M.xw kind some
def C.fJ:S.fJ.ok X0 λx=>M.fJ x.1.1:=fnS (λx=>M.xw x.1.1) [fe C.bG] [] (by intros;simp only[M.xw,nb]<;>rfl)
def M.IC{R:Type}(kind:Int)(k:aA->Option R):Option R:=
 bif kind==1 then(k [10]) else
 ((M.ny kind).bind λaOm=>
 (bif aOm then
 (bif decide (0<=i64.wrap (kind - 10)) && decide (i64.wrap (kind - 10)<17) then
 ((cStr zx (0+(i64.wrap (kind - 10)).toNat * 1)).bind λaOn=>(k aOn)) else none) else
 ((M.fJ kind).bind λaOo=>
 (bif aOo then
 (bif decide (0<=i64.wrap (kind - 30)) && decide (i64.wrap (kind - 30)<39) then((cStr Nl (0+(i64.wrap (kind - 30)).toNat * 1)).bind λaOp=>(k aOp)) else none) else(k [])))))
def M.fD(kind:Int):Option (aA):=M.IC kind some
def C.fD:S.fD.ok X0 λx=>M.fD x.1.1:=fnS (λx=>M.IC x.1.1) [fe C.ny,fe C.fJ] [] (by intros;simp only[M.IC,nb]<;>rfl)
def M.IE{R:Type}(t':Int)(gX:aA)(je:Int)(k:Bool->Option R):Option R:=
 bif gX==[] then(k false) else
 (bif t'==2 then
 ((idx gX 0).bind λaOq=>
 (bif(↑aOq.toNat:Int)==35 then((M.strings_Contains gX [10]).bind λaOr=>(k !aOr)) else(k false))) else
 (bif t'==3 then((M.zJ gX 0).bind λaOs=>(k (aOs==(↑gX.length:Int)))) else
 (bif t'==4 then((M.zK gX 0).bind λaOt=>(k (aOt==(↑gX.length:Int)))) else
 (bif t'==5 then((M.zL gX 0).bind λaOu=>(k (aOu==(↑gX.length:Int)))) else
 (bif t'==6 then((M.jc gX).bind λaOv=>(k aOv)) else
 (bif t'==7 then((M.jc gX).bind λaOw=>(k aOw)) else
 (bif t'==8 then((M.kL gX).bind λaOx=>(k aOx)) else((M.fD t').bind λaOy=>(k (gX==aOy))))))))))
def M.mZ(t':Int)(gX:aA)(je:Int):Option (Bool):=M.IE t' gX je some
def C.mZ:S.mZ.ok X0 λx=>M.mZ x.1.1.1 x.1.1.2.1 x.1.1.2.2.1:=fnS (λx=>M.IE x.1.1.1 x.1.1.2.1 x.1.1.2.2.1) [fe C.strings_Contains,fe C.zJ,fe C.zK,fe C.zL,fe C.jc,fe C.kL,fe C.fD] [] (by intros;simp only[M.IE,nb]<;>rfl)
def M.jW{R:Type}(kind:Int)(k:Bool->Option R):Option R:=
 bif kind==51 then(k true) else(k (kind==52))
def M.jH(kind:Int):Option (Bool):=M.jW kind some
def C.jH:S.jH.ok X0 λx=>M.jH x.1.1:=fnS (λx=>M.jW x.1.1) [] [] (by intros;simp only[M.jW,nb]<;>rfl)
def M.DI{R:Type}(op':Int)(k:Int->Option R):Option R:=
 bif op'==44 then(k 3) else
 (bif op'==45 then(k 4) else
 (bif op'==67 then(k 6) else
 (bif op'==46 then(k 6) else
 (bif op'==63 then(k 7) else
 (bif op'==48 then(k 7) else
 (bif op'==47 then(k 7) else
 (bif op'==50 then(k 7) else
 (bif op'==62 then(k 7) else
 (bif op'==49 then(k 7) else
 (bif op'==99 then(k 8) else
 (bif op'==55 then(k 9) else
 (bif op'==56 then(k 9) else
 (bif op'==57 then(k 10) else
 (bif op'==58 then(k 10) else(bif op'==59 then(k 10) else(bif op'==60 then(k 12) else(k 0)))))))))))))))))
def M.kV(op':Int):Option (Int):=M.DI op' some
def C.kV:S.kV.ok X0 λx=>M.kV x.1.1:=fnS (λx=>M.DI x.1.1) [] [] (by intros;unfold M.DI;repeat' first|with_reducible apply iw|with_reducible apply Lh|with_reducible apply Lj|with_reducible apply Ll|with_reducible apply Lm|(intro _)|apply iw|rfl)
def M.FX{R:Type}(kind:Int)(k:Bool->Option R):Option R:=
 bif kind==54 then(k true) else((M.bG kind 38 43).bind λaOz=>(k aOz))
def M.tV(kind:Int):Option (Bool):=M.FX kind some
def C.tV:S.tV.ok X0 λx=>M.tV x.1.1:=fnS (λx=>M.FX x.1.1) [fe C.bG] [] (by intros;simp only[M.FX,nb]<;>rfl)
def M.iP{R:Type}(n' fH:Int)(iJ iO:aA)(jM:au)(k:Bool×Bool×Bool×Int×Int->Option R):Option R:=
 bif n'==1 then((M.jc iJ).bind λaOA=>(k ((fH==0,aOA,false,0,0)))) else
 (bif n'==2 then
 (bif decide (0<=i64.wrap (n' - 2)) && decide (i64.wrap (n' - 2)<3) then
 ((fQ .i64 [D.int .i64 3,D.int .i64 4,D.int .i64 5] (i64.wrap (n' - 2)).toNat).bind λaOB=>((M.mZ aOB iJ 0).bind λaOC=>(k ((fH==0,aOC,false,0,0))))) else none) else
 (bif n'==3 then
 (bif decide (0<=i64.wrap (n' - 2)) && decide (i64.wrap (n' - 2)<3) then
 ((fQ .i64 [D.int .i64 3,D.int .i64 4,D.int .i64 5] (i64.wrap (n' - 2)).toNat).bind λaOD=>((M.mZ aOD iJ 0).bind λaOE=>(k ((fH==0,aOE,false,0,0))))) else none) else
 (bif n'==4 then
 (bif decide (0<=i64.wrap (n' - 2)) && decide (i64.wrap (n' - 2)<3) then
 ((fQ .i64 [D.int .i64 3,D.int .i64 4,D.int .i64 5] (i64.wrap (n' - 2)).toNat).bind λaOF=>((M.mZ aOF iJ 0).bind λaOG=>(k ((fH==0,aOG,false,0,0))))) else none) else
 (bif n'==5 then((M.jc iJ).bind λaOH=>(k ((fH==0,aOH,false,1,6)))) else
 (bif n'==13 then((M.jc iJ).bind λaOI=>(k ((fH==0,aOI,false,1,6)))) else
 (bif n'==6 then(k ((fH==0,iJ==[],false,1,1))) else
 (bif n'==7 then((M.jc iJ).bind λaOJ=>(k ((fH==0,aOJ,false,0,6)))) else
 (bif n'==8 then((M.kL iJ).bind λaOK=>(k ((fH==0,aOK,false,0,6)))) else
 (bif n'==9 then((M.jH fH).bind λaOL=>(k ((aOL,iJ==[],false,1,1)))) else
 (bif n'==10 then((M.jH fH).bind λaOM=>(k ((aOM,iJ==[],false,1,1)))) else
 (bif n'==11 then
 (bif fH==55 then(k ((true,iJ==[],false,1,1))) else
 (bif fH==56 then(k ((true,iJ==[],false,1,1))) else(k ((fH==61,iJ==[],false,1,1))))) else
 (bif n'==12 then((M.kV fH).bind λaON=>(k ((aON !=0,iJ==[],false,2,2)))) else
 (bif n'==14 then(k ((fH==0,iJ==[],false,3,3))) else((M.tV fH).bind λaOO=>(k ((aOO,iJ==[],false,2,2)))))))))))))))))
def M.iG(n' fH:Int)(iJ iO:aA)(jM:au):Option (Bool×Bool×Bool×Int×Int):=M.iP n' fH iJ iO jM some
def C.iG:S.iG.ok X0 λx=>M.iG x.1.1.1 x.1.1.2.1 x.1.1.2.2.1 x.1.1.2.2.2.1 x.1.1.2.2.2.2.1:=fnS (λx=>M.iP x.1.1.1 x.1.1.2.1 x.1.1.2.2.1 x.1.1.2.2.2.1 x.1.1.2.2.2.2.1) [fe C.jc,fe C.mZ,fe C.kL,fe C.jH,fe C.kV,fe C.tV] [] (by intros;unfold M.iP;repeat' first|with_reducible apply iw|with_reducible apply Lh|with_reducible apply Lj|with_reducible apply Ll|with_reducible apply Lm|(intro _)|apply iw|rfl)
def M.ji{R:Type}(kind:Int)(k:Bool->Option R):Option R:=
 (M.bG kind 20 34).bind λaOP=>(k aOP)
def M.fZ(kind:Int):Option (Bool):=M.ji kind some
def C.fZ:S.fZ.ok X0 λx=>M.fZ x.1.1:=fnS (λx=>M.ji x.1.1) [fe C.bG] [] (by intros;simp only[M.ji,nb]<;>rfl)
def M.iQ{R:Type}(n' fH:Int)(iJ iO:aA)(jM:au)(k:Bool×Bool×Bool×Int×Int->Option R):Option R:=
 bif n'==20 then(k ((fH==0,iJ==[],iO==[],1,1))) else
 (bif n'==21 then
 (bif fH==0 then
 ((M.slices_Contains ([[D.str []],[D.str [62]],[D.str [62,62]],[D.str [124]]]) iO).bind λaBD=>
 (bif !iO==[] then(k ((true,iJ==[],aBD,i64.wrap (fH+1),7))) else(k ((true,iJ==[],aBD,fH,6))))) else
 ((M.slices_Contains ([[D.str []],[D.str [62]],[D.str [62,62]],[D.str [124]]]) iO).bind λaBE=>
 (bif !iO==[] then(k ((fH==1,iJ==[],aBE,i64.wrap (fH+1),7))) else(k ((fH==1,iJ==[],aBE,fH,6)))))) else
 (bif n'==23 then(k ((fH==0,iJ==[],iO==[],0,1))) else
 (bif n'==24 then(k ((fH==0,iJ==[],iO==[],0,1))) else
 (bif n'==27 then((M.jc iJ).bind λaOQ=>(k ((fH==0,aOQ,iO==[],0,6)))) else
 (bif n'==28 then(k ((fH==0,iJ==[],iO==[],2,3))) else
 (bif n'==29 then(k ((fH==0,iJ==[],iO==[],2,2))) else
 (bif n'==30 then(k ((fH==0,iJ==[],iO==[],2,2))) else
 (bif n'==31 then(k ((fH==0,iJ==[],iO==[],4,4))) else
 (bif n'==32 then
 ((M.jc iJ).bind λaOR=>((M.jc iO).bind λaOS=>(k ((fH==0,aOR,aOS,1,1))))) else
 (bif n'==33 then(k ((fH==0,iJ==[],iO==[],0,400))) else
 (bif n'==34 then((M.mZ 2 iJ 0).bind λaOT=>(k ((fH==0,aOT,iO==[],0,0)))) else(k ((fH==0,iJ==[],iO==[],0,0))))))))))))))
def M.iH(n' fH:Int)(iJ iO:aA)(jM:au):Option (Bool×Bool×Bool×Int×Int):=M.iQ n' fH iJ iO jM some
def C.iH:S.iH.ok X0 λx=>M.iH x.1.1.1 x.1.1.2.1 x.1.1.2.2.1 x.1.1.2.2.2.1 x.1.1.2.2.2.2.1:=fnS (λx=>M.iQ x.1.1.1 x.1.1.2.1 x.1.1.2.2.1 x.1.1.2.2.2.1 x.1.1.2.2.2.2.1) [fe C.slices_Contains,fe C.jc,fe C.mZ] [] (by intros;unfold M.iQ;repeat' first|with_reducible apply iw|with_reducible apply Lh|with_reducible apply Lj|with_reducible apply Ll|with_reducible apply Lm|(intro _)|apply iw|rfl)
def M.iR{R:Type}(n' fH:Int)(iJ iO:aA)(jM:au)(k:Bool×Bool×Bool×Int×Int->Option R):Option R:=
 bif n'==40 then(k ((fH==0,iJ==[],iO==[],1,1))) else
 (bif n'==41 then(k ((fH==0,iJ==[],iO==[],1,1))) else
 (bif n'==42 then
 ((M.bG fH 1 3).bind λaBF=>
 (bif fH==3 then(k ((aBF,iJ==[],iO==[],2,2))) else(k ((aBF,iJ==[],iO==[],1,1))))) else
 (bif n'==43 then
 (bif fH==1 then
 (bif fH==3 then(k ((true,iJ==[],iO==[],3,3))) else(k ((true,iJ==[],iO==[],2,2)))) else
 (bif fH==3 then(k ((fH==3,iJ==[],iO==[],3,3))) else(k ((fH==3,iJ==[],iO==[],2,2))))) else
 (bif n'==44 then((M.jc iJ).bind λaOU=>(k ((fH==0,aOU,iO==[],1,7)))) else(k ((fH==0,iJ==[],iO==[],0,400)))))))
def M.iI(n' fH:Int)(iJ iO:aA)(jM:au):Option (Bool×Bool×Bool×Int×Int):=M.iR n' fH iJ iO jM some
def C.iI:S.iI.ok X0 λx=>M.iI x.1.1.1 x.1.1.2.1 x.1.1.2.2.1 x.1.1.2.2.2.1 x.1.1.2.2.2.2.1:=fnS (λx=>M.iR x.1.1.1 x.1.1.2.1 x.1.1.2.2.1 x.1.1.2.2.2.1 x.1.1.2.2.2.2.1) [fe C.bG,fe C.jc] [] (by intros;simp only[M.iR,nb]<;>rfl)
def M.ig{R:Type}(n' fH:Int)(iJ iO:aA)(jM:au)(k:Bool->Option R):Option R:=
 (M.dI n').bind λaOV=>
 (bif aOV then
 ((M.iG n' fH iJ iO jM).bind λaqD=>
 (bif aqD.1 then
 (bif aqD.2.1 then
 (bif iO==[] then
 ((M.bG ((↑jM.length:Int)) aqD.2.2.2.1 aqD.2.2.2.2).bind λaOW=>(k aOW)) else(k false)) else(k false)) else(k false))) else
 (bif n'==16 then
 (bif fH==0 then
 (bif iJ==[] then
 (bif iO==[] then((M.bG ((↑jM.length:Int)) 0 0).bind λaOX=>(k aOX)) else(k false)) else(k false)) else(k false)) else
 ((M.fZ n').bind λaOY=>
 (bif aOY then
 ((M.iH n' fH iJ iO jM).bind λan1=>
 (bif an1.1 then
 (bif an1.2.1 then
 (bif an1.2.2.1 then
 ((M.bG ((↑jM.length:Int)) an1.2.2.2.1 an1.2.2.2.2).bind λaOZ=>(k aOZ)) else(k false)) else(k false)) else(k false))) else
 ((M.bG n' 40 45).bind λaO0=>
 (bif aO0 then
 ((M.iI n' fH iJ iO jM).bind λan2=>
 (bif an2.1 then
 (bif an2.2.1 then
 (bif an2.2.2.1 then
 ((M.bG ((↑jM.length:Int)) an2.2.2.2.1 an2.2.2.2.2).bind λaO1=>(k aO1)) else(k false)) else(k false)) else(k false))) else(k false)))))))
def M.fO(n' fH:Int)(iJ iO:aA)(jM:au):Option (Bool):=M.ig n' fH iJ iO jM some
def C.fO:S.fO.ok X0 λx=>M.fO x.1.1.1 x.1.1.2.1 x.1.1.2.2.1 x.1.1.2.2.2.1 x.1.1.2.2.2.2.1:=fnS (λx=>M.ig x.1.1.1 x.1.1.2.1 x.1.1.2.2.1 x.1.1.2.2.2.1 x.1.1.2.2.2.2.1) [fe C.dI,fe C.iG,fe C.bG,fe C.fZ,fe C.iH,fe C.iI] [] (by intros;unfold M.ig;repeat' first|with_reducible apply iw|with_reducible apply Lh|with_reducible apply Lj|with_reducible apply Ll|with_reducible apply Lm|(intro _)|apply iw|rfl)
def M.FY{R:Type}(kind:Int)(k:Bool->Option R):Option R:=
 bif kind==1 then(k true) else(bif kind==5 then(k true) else(k (kind==6)))
def M.nV(kind:Int):Option (Bool):=M.FY kind some
def C.nV:S.nV.ok X0 λx=>M.nV x.1.1:=fnS (λx=>M.FY x.1.1) [] [] (by intros;simp only[M.FY,nb]<;>rfl)
def M.Ko{R:Type}(kind:Int)(k:Bool->Option R):Option R:=
 (M.bG kind 40 44).bind λaO2=>(k aO2)
def M.zM(kind:Int):Option (Bool):=M.Ko kind some
def C.zM:S.zM.ok X0 λx=>M.zM x.1.1:=fnS (λx=>M.Ko x.1.1) [fe C.bG] [] (by intros;simp only[M.Ko,nb]<;>rfl)
def M.aK{R:Type}(n' fH:Int)(iJ iO:aA)(jM:au)(k' kid:Int)(k:Bool->Option R):Option R:=
 bif n'==9 then((M.nV kid).bind λaO3=>(k aO3)) else
 (bif n'==10 then((M.nV kid).bind λaO4=>(k aO4)) else
 (bif n'==15 then
 (bif k'==0 then
 ((M.nV kid).bind λaO5=>
 (bif aO5 then(k true) else(bif decide (k'>0) then((M.dI kid).bind λaO6=>(k aO6)) else(k false)))) else(bif decide (k'>0) then((M.dI kid).bind λaO7=>(k aO7)) else(k false))) else
 (bif n'==28 then
 (bif decide (k'>0) then(k (kid==33)) else((M.dI kid).bind λaO8=>(k aO8))) else
 (bif n'==29 then
 (bif decide (k'>0) then(k (kid==33)) else((M.dI kid).bind λaO9=>(k aO9))) else
 (bif n'==31 then
 (bif decide (k'<3) then
 (bif kid==16 then(k true) else
 (bif k'==i64.wrap ((↑jM.length:Int) - 1) then(k (kid==33)) else((M.dI kid).bind λaPa=>(k aPa)))) else
 (bif k'==i64.wrap ((↑jM.length:Int) - 1) then(k (kid==33)) else((M.dI kid).bind λaPb=>(k aPb)))) else
 (bif n'==30 then(bif k'==0 then(k (kid==33)) else((M.dI kid).bind λaPc=>(k aPc))) else
 (bif n'==32 then(k (kid==33)) else
 (bif n'==40 then(k (kid==33)) else
 (bif n'==41 then(k (kid==33)) else
 (bif n'==33 then((M.fZ kid).bind λaPd=>(k aPd)) else
 (bif n'==42 then
 (bif k'==i64.wrap ((↑jM.length:Int) - 1) then
 (bif decide (fH>=2) then(k (kid==33)) else((M.dI kid).bind λaPe=>(k aPe))) else((M.dI kid).bind λaPf=>(k aPf))) else
 (bif n'==43 then
 (bif k'==i64.wrap ((↑jM.length:Int) - 1) then(bif fH==3 then(k (kid==33)) else((M.dI kid).bind λaPg=>(k aPg))) else((M.dI kid).bind λaPh=>(k aPh))) else
 (bif n'==44 then
 (bif !k'==i64.wrap ((↑jM.length:Int) - 1) then(k (kid==1)) else(k (kid==33))) else
 (bif n'==45 then((M.zM kid).bind λaPi=>(bif aPi then(k true) else(k (kid==34)))) else((M.dI kid).bind λaPj=>(k aPj))))))))))))))))
def M.aS(n' fH:Int)(iJ iO:aA)(jM:au)(k' kid:Int):Option (Bool):=M.aK n' fH iJ iO jM k' kid some
def C.aS:S.aS.ok X0 λx=>M.aS x.1.1.1 x.1.1.2.1 x.1.1.2.2.1 x.1.1.2.2.2.1 x.1.1.2.2.2.2.1 x.1.2.1 x.1.2.2.1:=fnS (λx=>M.aK x.1.1.1 x.1.1.2.1 x.1.1.2.2.1 x.1.1.2.2.2.1 x.1.1.2.2.2.2.1 x.1.2.1 x.1.2.2.1) [fe C.nV,fe C.dI,fe C.fZ,fe C.zM] [] (by intros;unfold M.aK;repeat' first|with_reducible apply iw|with_reducible apply Lh|with_reducible apply Lj|with_reducible apply Ll|with_reducible apply Lm|(intro _)|apply iw|rfl)
def M.jR{R:Type}(iq:au->Int->Option (Int×Int×aA×aA×au))(s:(au×au×Int×Int×Int×Int×aA×aA×Int×Int×aA×aA)⊕(au×au×Int×Int×Int×Int×aA×aA×Int×Int×aA×aA×au))(kn:(au×au×Int×Int×Int×Int×aA×aA×Int×Int×aA×aA)⊕(au×au×Int×Int×Int×Int×aA×aA×Int×Int×aA×aA×au)->Option R)(ke:(au×au×Int×Int×Int×Int×aA×aA×Int×Int×aA×aA)⊕(au×au×Int×Int×Int×Int×aA×aA×Int×Int×aA×aA×au)->Option R):Option R:=match s with
 | .inl ((l,v23,v24,v25,x',BG,Dk,ER,Fb,PV,U9,x'7))=>
 bif decide (v25<v24) then
 ((idx v23 v25).bind λavs=>
 ((fQ .i64 avs 0).bind λaPk=>
 ((iq l aPk).bind λan3=>
 (kn (.inr ((l,v23,v24,i64.wrap (v25+1),x',BG,Dk,ER,Fb,PV,U9,x'7,[[D.int .i64 an3.1,D.int .i64 an3.2.1,D.str an3.2.2.1,D.str an3.2.2.2.1,D.sl true 5 an3.2.2.2.2]]))))))) else(ke (.inl ((l,v23,v24,v25,x',BG,Dk,ER,Fb,PV,U9,x'7))))
 | .inr ((l,v23,v24,v25,x',BG,Dk,ER,Fb,PV,U9,x'7,x'8))=>
 bif decide (v25<v24) then
 ((idx v23 v25).bind λavt=>
 ((fQ .i64 avt 0).bind λaPl=>
 ((iq l aPl).bind λan4=>
 (iV x'8 [[D.int .i64 an4.1,D.int .i64 an4.2.1,D.str an4.2.2.1,D.str an4.2.2.2.1,D.sl true 5 an4.2.2.2.2]] 72 λza=>(kn (.inr ((l,v23,v24,i64.wrap (v25+1),x',BG,Dk,ER,Fb,PV,U9,x'7,za)))))))) else(ke (.inr ((l,v23,v24,v25,x',BG,Dk,ER,Fb,PV,U9,x'7,x'8))))
def M.jS(iq:au->Int->Option (Int×Int×aA×aA×au))(s:(au×au×Int×Int×Int×Int×aA×aA×Int×Int×aA×aA)⊕(au×au×Int×Int×Int×Int×aA×aA×Int×Int×aA×aA×au)):=M.jR iq s (λs=>some (Sum.inl s)) λt=>some (Sum.inr t)
def M.DJ(iq:au->Int->Option (Int×Int×aA×aA×au))(s:(au×au×Int×Int×Int×Int×aA×aA×Int×Int×aA×aA)⊕(au×au×Int×Int×Int×Int×aA×aA×Int×Int×aA×aA×au)):Option ((au×au×Int×Int×Int×Int×aA×aA×Int×Int×aA×aA)⊕(au×au×Int×Int×Int×Int×aA×aA×Int×Int×aA×aA×au)):=eF (M.jS iq) s
def F.DJ{iq:au->Int->Option (Int×Int×aA×aA×au)}(OE:S.jZ.ok X0 λx=>iq x.1.1 x.1.2.1):LE X0 52:=le 4 (pOr (GN [dG 0 (pL false 5),dG 4 (pP 300000 0),dG 6 (pP 300001 0),dG 23 (pL false 1),dG 24 pI,dG 25 pI] [dG 300000 (cB 75 [pI,pI,pS,pS,aew 5]),dG 300001 (cB 75 [pI,pI,pS,pS,aew 5])]) (GN [dG 0 (pL false 5),dG 4 (pP 300000 0),dG 6 (pP 300001 0),dG 23 (pL false 1),dG 24 pI,dG 25 pI] [dG 300000 (cB 75 [pI,pI,pS,pS,aew 5]),dG 300001 (cB 75 [pI,pI,pS,pS,pO 300002 0]),dG 300002 (cA false false 0 5)])) (σ:=(au×au×Int×Int×Int×Int×aA×aA×Int×Int×aA×aA)⊕(au×au×Int×Int×Int×Int×aA×aA×Int×Int×aA×aA×au)) (λx=>(match x with| .inl x=> .inl ((x.1.1,x.1.2.2.2.1,x.1.2.2.2.2.1,x.1.2.2.2.2.2.1,x.2.1.1,x.2.1.2.1,x.2.1.2.2.1,x.2.1.2.2.2.1,x.2.2.1.1,x.2.2.1.2.1,x.2.2.1.2.2.1,x.2.2.1.2.2.2.1))| .inr x=> .inr ((x.1.1,x.1.2.2.2.1,x.1.2.2.2.2.1,x.1.2.2.2.2.2.1,x.2.1.1,x.2.1.2.1,x.2.1.2.2.1,x.2.1.2.2.2.1,x.2.2.1.1,x.2.2.1.2.1,x.2.2.1.2.2.1,x.2.2.1.2.2.2.1,x.2.2.2.1)))) (λx s=>(match s with| .inl s=> .inl (((s.1,(),(),s.2.1,s.2.2.1,s.2.2.2.1,()),((s.2.2.2.2.1,s.2.2.2.2.2.1,s.2.2.2.2.2.2.1,s.2.2.2.2.2.2.2.1,(),()),(s.2.2.2.2.2.2.2.2.1,s.2.2.2.2.2.2.2.2.2.1,s.2.2.2.2.2.2.2.2.2.2.1,s.2.2.2.2.2.2.2.2.2.2.2,(),()),())))| .inr s=> .inr (((s.1,(),(),s.2.1,s.2.2.1,s.2.2.2.1,()),((s.2.2.2.2.1,s.2.2.2.2.2.1,s.2.2.2.2.2.2.1,s.2.2.2.2.2.2.2.1,(),()),(s.2.2.2.2.2.2.2.2.1,s.2.2.2.2.2.2.2.2.2.1,s.2.2.2.2.2.2.2.2.2.2.1,s.2.2.2.2.2.2.2.2.2.2.2.1,(),()),s.2.2.2.2.2.2.2.2.2.2.2.2,()))))) (λx=> .sum (.leaf (au×au×Int×Int×Int×Int×aA×aA×Int×Int×aA×aA) (λt=>(Ex.exit 0,{tm:=[(0,V.d (D.sl false 5 t.1)),(4,V.ptr 300000 0),(6,V.ptr 300001 0),(23,V.d (D.sl false 1 t.2.1)),(24,V.d (D.int .i64 t.2.2.1)),(25,V.d (D.int .i64 t.2.2.2.1)),(26,V.d (D.bool false))],mem:=[(300000,Cell.box 75 [V.d (D.int .i64 t.2.2.2.2.1),V.d (D.int .i64 t.2.2.2.2.2.1),V.d (D.str t.2.2.2.2.2.2.1),V.d (D.str t.2.2.2.2.2.2.2.1),V.nil 5]),(300001,Cell.box 75 [V.d (D.int .i64 t.2.2.2.2.2.2.2.2.1),V.d (D.int .i64 t.2.2.2.2.2.2.2.2.2.1),V.d (D.str t.2.2.2.2.2.2.2.2.2.2.1),V.d (D.str t.2.2.2.2.2.2.2.2.2.2.2),V.nil 5])]}))) (.leaf (au×au×Int×Int×Int×Int×aA×aA×Int×Int×aA×aA×au) (λt=>(Ex.exit 0,{tm:=[(0,V.d (D.sl false 5 t.1)),(4,V.ptr 300000 0),(6,V.ptr 300001 0),(23,V.d (D.sl false 1 t.2.1)),(24,V.d (D.int .i64 t.2.2.1)),(25,V.d (D.int .i64 t.2.2.2.1)),(26,V.d (D.bool false))],mem:=[(300000,Cell.box 75 [V.d (D.int .i64 t.2.2.2.2.1),V.d (D.int .i64 t.2.2.2.2.2.1),V.d (D.str t.2.2.2.2.2.2.1),V.d (D.str t.2.2.2.2.2.2.2.1),V.nil 5]),(300001,Cell.box 75 [V.d (D.int .i64 t.2.2.2.2.2.2.2.2.1),V.d (D.int .i64 t.2.2.2.2.2.2.2.2.2.1),V.d (D.str t.2.2.2.2.2.2.2.2.2.2.1),V.d (D.str t.2.2.2.2.2.2.2.2.2.2.2.1),V.own 300002 0]),(300002,Cell.arr false false 0 5 t.2.2.2.2.2.2.2.2.2.2.2.2)]})))) (λx=>M.jR iq) [fe OE] [] (by rintro _ _ (⟨_,_,_,_,_,_,_,_,_,_,_,_⟩|⟨_,_,_,_,_,_,_,_,_,_,_,_,_⟩) _ _<;>simp only[iV,M.jR,nb]<;>rfl) (hE:=by intro _ _ s _;rcases s with s|s<;>kernel_rfl)
def M.Bq{R:Type}(iq:au->Int->Option (Int×Int×aA×aA×au))(l:au)(i:Int)(k:Int×Int×aA×aA×au->Option R):Option R:=
 (idx l i).bind λavu=>
 (kZ 1 avu λaPm aPn aPo aPp ako=>
 ((M.DJ iq (.inl ((l,ako,(↑ako.length:Int),0,0,0,[],[],aPm,aPn,aPo,aPp)))).bind λaPq=>
 qR aPq (λaqE=>
 (k ((aqE.2.2.2.2.2.2.2.2.1,aqE.2.2.2.2.2.2.2.2.2.1,aqE.2.2.2.2.2.2.2.2.2.2.1,aqE.2.2.2.2.2.2.2.2.2.2.2,[])))) λaPr=>
 letE aPr λan5=>
 (k ((an5.2.2.2.2.2.2.2.2.1,an5.2.2.2.2.2.2.2.2.2.1,an5.2.2.2.2.2.2.2.2.2.2.1,an5.2.2.2.2.2.2.2.2.2.2.2.1,an5.2.2.2.2.2.2.2.2.2.2.2.2)))))
def M.iK:Nat->au->Int->Option (Int×Int×aA×aA×au)
 |0=>λ_ _=>none
 |n+1=>λl i=>M.Bq (M.iK n) l i some
def M.jZ(l:au)(i:Int):Option (Int×Int×aA×aA×au):=lim λn=>M.iK n l i
def C.abh{iq:au->Int->Option (Int×Int×aA×aA×au)}(OE:S.jZ.ok X0 λx=>iq x.1.1 x.1.2.1):S.jZ.ok X0 λx=>M.Bq iq x.1.1 x.1.2.1 some:=fnS (λx=>M.Bq iq x.1.1 x.1.2.1) [] [F.DJ OE] (by intros;simp only[kZ,M.Bq,nb]<;>rfl)
def C.iK:∀n,S.jZ.ok X0 λx=>M.iK n x.1.1 x.1.2.1
 |0=>eP.zero
 |n+1=>C.abh (C.iK n)
def C.jZ:S.jZ.ok X0 λx=>M.jZ x.1.1 x.1.2.1:=eP.lim C.iK
def M.Rx{n:Nat}{l:au}{i:Int}{r:Int×Int×aA×aA×au}(h:M.iK n l i=some r):M.jZ l i=some r:=
 eP.Jl C.iK (by intro a b h;simp[S.jZ,sg] at h;first|exact h|simp[Prod.ext_iff,h]) (x:=((l,i,()),())) h
def M.Kq{R:Type}(l:au)(k:Int×Int×aA×aA×au->Option R):Option R:=
 (M.jZ l (i64.wrap ((↑l.length:Int) - 1))).bind λan6=>
 (k ((an6.1,an6.2.1,an6.2.2.1,an6.2.2.2.1,an6.2.2.2.2)))
def M.Dx(l:au):Option (Int×Int×aA×aA×au):=M.Kq l some
def C.Dx:S.Dx.ok X0 λx=>M.Dx x.1.1:=fnS (λx=>M.Kq x.1.1) [fe C.jZ] [] (by intros;simp only[M.Kq,nb]<;>rfl)
def M.rE{R:Type}(eH:Int->Int->aA->aA->au->Option (Int))(v7:au)(v8:Int)(s:Int×Int)(kn:Int×Int->Option R)(ke:Int×Int->Option R):Option R:=match s with
 |(most,v9)=>
 bif decide (v9<v8) then
 ((idx v7 v9).bind λavv=>
 (kZ 5 avv λaPs aPt aPu aPv aqF=>
 ((eH aPs aPt aPu aPv aqF).bind λaBG=>(kn ((bif decide (most<aBG) then aBG else most,i64.wrap (v9+1))))))) else(ke ((most,v9)))
def M.xA(eH:Int->Int->aA->aA->au->Option (Int))(v7:au)(v8:Int)(s:Int×Int):=M.rE eH v7 v8 s (λs=>some (Sum.inl s)) λt=>some (Sum.inr t)
def M.Aj(eH:Int->Int->aA->aA->au->Option (Int))(v7:au)(v8:Int)(s:Int×Int):Option (Int×Int):=eF (M.xA eH v7 v8) s
def F.Aj{eH:Int->Int->aA->aA->au->Option (Int)}(IG:S.jI.ok X0 λx=>eH x.1.1.1 x.1.1.2.1 x.1.1.2.2.1 x.1.1.2.2.2.1 x.1.1.2.2.2.2.1):LE X0 92:=le 3 (GN [dG 3 pI,dG 7 (pL false 5),dG 8 pI,dG 9 pI] []) (λx=>(x.1.1,x.1.2.2.2.1)) (λx s=>((s.1,x.1.2.1,x.1.2.2.1,s.2,()),())) (λx=> .leaf (Int×Int) (λt=>(Ex.exit 0,{tm:=[(3,V.d (D.int .i64 t.1)),(7,V.d (D.sl false 5 x.1.2.1)),(8,V.d (D.int .i64 x.1.2.2.1)),(9,V.d (D.int .i64 t.2)),(10,V.d (D.bool false))],mem:=[]}))) (λx=>M.rE eH x.1.2.1 x.1.2.2.1) [fe IG] [] (by rintro _ _ ⟨_,_⟩ _ _<;>simp only[kZ,M.rE,nb]<;>rfl)
def M.xB{R:Type}(eH:Int->Int->aA->aA->au->Option (Int))(t' gX:Int)(je lq:aA)(kC:au)(k:Int->Option R):Option R:=
 (M.Aj eH kC ((↑kC.length:Int)) ((0,0))).bind λaPw=>(k (i64.wrap (aPw.1+1)))
def M.iT:Nat->Int->Int->aA->aA->au->Option (Int)
 |0=>λ_ _ _ _ _=>none
 |n+1=>λt' gX je lq kC=>M.xB (M.iT n) t' gX je lq kC some
def M.jI(t' gX:Int)(je lq:aA)(kC:au):Option (Int):=lim λn=>M.iT n t' gX je lq kC
def C.Vb{eH:Int->Int->aA->aA->au->Option (Int)}(IG:S.jI.ok X0 λx=>eH x.1.1.1 x.1.1.2.1 x.1.1.2.2.1 x.1.1.2.2.2.1 x.1.1.2.2.2.2.1):S.jI.ok X0 λx=>M.xB eH x.1.1.1 x.1.1.2.1 x.1.1.2.2.1 x.1.1.2.2.2.1 x.1.1.2.2.2.2.1 some:=fnS (λx=>M.xB eH x.1.1.1 x.1.1.2.1 x.1.1.2.2.1 x.1.1.2.2.2.1 x.1.1.2.2.2.2.1) [] [F.Aj IG] (by intros;simp only[M.xB,nb]<;>rfl)
def C.iT:∀n,S.jI.ok X0 λx=>M.iT n x.1.1.1 x.1.1.2.1 x.1.1.2.2.1 x.1.1.2.2.2.1 x.1.1.2.2.2.2.1
 |0=>eP.zero
 |n+1=>C.Vb (C.iT n)
def C.jI:S.jI.ok X0 λx=>M.jI x.1.1.1 x.1.1.2.1 x.1.1.2.2.1 x.1.1.2.2.2.1 x.1.1.2.2.2.2.1:=eP.lim C.iT
def M.Vd{n:Nat}{t' gX:Int}{je lq:aA}{kC:au}{r:Int}(h:M.iT n t' gX je lq kC=some r):M.jI t' gX je lq kC=some r:=
 eP.Jl C.iT (by intro a b h;simp[S.jI,sg] at h;first|exact h|simp[Prod.ext_iff,h]) (x:=(((t',gX,je,lq,kC,()),()),())) h
def M.y5{R:Type}(l v10:au)(v11 v12:Int)(v20:au)(v21 x' BG:Int)(Dk ER:aA)(Fb:au)(s:Int)(kn:Int->Option R)(ke:(Unit)⊕(Int)->Option R):Option R:=match s with
 |v22=>
 bif decide (v22<v21) then
 ((idx v20 v22).bind λavw=>
 ((fQ .i64 avw 0).bind λaPx=>
 ((idx l aPx).bind λavx=>
 ((fQ .i64 avx 0).bind λaPy=>
 ((M.aS x' BG Dk ER Fb v22 aPy).bind λaPz=>(bif !aPz then(ke (.inl ())) else(kn (i64.wrap (v22+1))))))))) else(ke (.inr v22))
def M.Jt(l v10:au)(v11 v12:Int)(v20:au)(v21 x' BG:Int)(Dk ER:aA)(Fb:au)(s:Int):=M.y5 l v10 v11 v12 v20 v21 x' BG Dk ER Fb s (λs=>some (Sum.inl s)) λt=>some (Sum.inr t)
def M.DK(l v10:au)(v11 v12:Int)(v20:au)(v21 x' BG:Int)(Dk ER:aA)(Fb:au)(s:Int):Option ((Unit)⊕(Int)):=eF (M.Jt l v10 v11 v12 v20 v21 x' BG Dk ER Fb) s
def F.DK:LE X0 48:=le 9 (GN [dG 0 (pL false 5),dG 4 (pP 300000 0),dG 10 (pL false 5),dG 11 pI,dG 12 pI,dG 20 (pL false 1),dG 21 pI,dG 22 pI] [dG 300000 (cB 39 [pI,pI,pS,pS,pL false 1])]) (λx=>x.1.2.2.2.2.2.2.2.1) (λx s=>((x.1.1,(),x.1.2.2.1,x.1.2.2.2.1,x.1.2.2.2.2.1,x.1.2.2.2.2.2.1,x.1.2.2.2.2.2.2.1,s,()),((x.2.1.1,x.2.1.2.1,x.2.1.2.2.1,x.2.1.2.2.2.1,x.2.1.2.2.2.2.1,()),()))) (λx=> .sum (.leaf (Unit) (λt=>(Ex.ret,{tm:=[(2,V.d (D.bool false))],mem:=[]}))) (.leaf (Int) (λt=>(Ex.exit 2,{tm:=[(0,V.d (D.sl false 5 x.1.1)),(4,V.ptr 300000 0),(10,V.d (D.sl false 5 x.1.2.2.1)),(11,V.d (D.int .i64 x.1.2.2.2.1)),(12,V.d (D.int .i64 x.1.2.2.2.2.1)),(20,V.d (D.sl false 1 x.1.2.2.2.2.2.1)),(21,V.d (D.int .i64 x.1.2.2.2.2.2.2.1)),(22,V.d (D.int .i64 t)),(23,V.d (D.bool false))],mem:=[(300000,Cell.box 39 [V.d (D.int .i64 x.2.1.1),V.d (D.int .i64 x.2.1.2.1),V.d (D.str x.2.1.2.2.1),V.d (D.str x.2.1.2.2.2.1),V.d (D.sl false 1 x.2.1.2.2.2.2.1)])]})))) (λx=>M.y5 x.1.1 x.1.2.2.1 x.1.2.2.2.1 x.1.2.2.2.2.1 x.1.2.2.2.2.2.1 x.1.2.2.2.2.2.2.1 x.2.1.1 x.2.1.2.1 x.2.1.2.2.1 x.2.1.2.2.2.1 x.2.1.2.2.2.2.1) [fe C.aS] [] (by rintro _ _ _ _ _<;>simp only[M.y5,nb]<;>rfl)
def M.y7{R:Type}(l v10:au)(v11 s:Int)(kn:Int->Option R)(ke:(Unit)⊕(Int)->Option R):Option R:=match s with
 |v12=>
 bif decide (v12<v11) then
 ((idx v10 v12).bind λavy=>
 (kZ 1 avy λaBH aBI aBJ aBK ZR=>
 ((M.fO aBH aBI aBJ aBK ZR).bind λaPA=>
 (bif !aPA then(ke (.inl ())) else
 ((M.DK l v10 v11 v12 ZR ((↑ZR.length:Int)) aBH aBI aBJ aBK ZR 0).bind λaPB=>
 qR aPB (λaQ7=>(ke (.inl ()))) λaPC=>
 letE aPC λaQ8=>(kn (i64.wrap (v12+1)))))))) else(ke (.inr v12))
def M.Ju(l v10:au)(v11 s:Int):=M.y7 l v10 v11 s (λs=>some (Sum.inl s)) λt=>some (Sum.inr t)
def M.DL(l v10:au)(v11 s:Int):Option ((Unit)⊕(Int)):=eF (M.Ju l v10 v11) s
def F.DL:LE X0 48:=le 4 (GN [dG 0 (pL false 5),dG 10 (pL false 5),dG 11 pI,dG 12 pI] []) (λx=>x.1.2.2.2.1) (λx s=>((x.1.1,x.1.2.1,x.1.2.2.1,s,()),())) (λx=> .sum (.leaf (Unit) (λt=>(Ex.ret,{tm:=[(2,V.d (D.bool false))],mem:=[]}))) (.leaf (Int) (λt=>(Ex.exit 0,{tm:=[(0,V.d (D.sl false 5 x.1.1)),(10,V.d (D.sl false 5 x.1.2.1)),(11,V.d (D.int .i64 x.1.2.2.1)),(12,V.d (D.int .i64 t)),(13,V.d (D.bool false))],mem:=[]})))) (λx=>M.y7 x.1.1 x.1.2.1 x.1.2.2.1) [fe C.fO] [F.DK] (by rintro _ _ _ _ _<;>simp only[kZ,M.y7,nb]<;>rfl)
def M.Kr{R:Type}(l:au)(k:Bool->Option R):Option R:=
 (M.wF l).bind λaPD=>
 (bif !aPD then(k false) else
 ((M.DL l l ((↑l.length:Int)) 0).bind λaPE=>
 qR aPE (λaQ9=>(k false)) λaPF=>
 letE aPF λaRa=>
 ((M.Dx l).bind λan7=>
 ((M.jI an7.1 an7.2.1 an7.2.2.1 an7.2.2.2.1 (bJ an7.2.2.2.2)).bind λaPG=>(k (decide (aPG<=40)))))))
def M.tX(l:au):Option (Bool):=M.Kr l some
def C.tX:S.tX.ok X0 λx=>M.tX x.1.1:=fnS (λx=>M.Kr x.1.1) [fe C.wF,fe C.Dx,fe C.jI] [F.DL] (by intros;simp only[M.Kr,nb]<;>rfl)
def M.EF{R:Type}(l:au)(k:Bool->Option R):Option R:=
 (M.tX l).bind λaPH=>
 (bif aPH then
 ((idx l (i64.wrap ((↑l.length:Int) - 1))).bind λavz=>((fQ .i64 avz 0).bind λaPI=>(k (aPI==45)))) else(k false))
def M.uH(l:au):Option (Bool):=M.EF l some
def C.uH:S.uH.ok X0 λx=>M.uH x.1.1:=fnS (λx=>M.EF x.1.1) [fe C.tX] [] (by intros;simp only[M.EF,nb]<;>rfl)
def M.II{R:Type}(l:au)(i:Int)(k:Int->Option R):Option R:=
 (M.fM l).bind λavA=>
 (bif !avA.2 then(k (-1)) else
 ((M.bG i 0 (i64.wrap ((↑l.length:Int) - 1))).bind λaPJ=>
 (bif !aPJ then(k (-1)) else
 ((idx avA.1 i).bind λaPK=>
 (avA.1[i.toNat]?.bind λavC=>((fQ .i64 avC 0).bind λaPL=>(k aPL)))))))
def M.wG(l:au)(i:Int):Option (Int):=M.II l i some
def C.wG:S.wG.ok X0 λx=>M.wG x.1.1 x.1.2.1:=fnS (λx=>M.II x.1.1 x.1.2.1) [fe C.fM,fe C.bG] [] (by intros;simp only[M.II,nb]<;>rfl)
def M.nH{R:Type}(fE:Int->Int->aA->aA->au->au->Option (au))(s:(au×Int×Int×au×Int×Int×aA×aA)⊕(au×Int×Int×au×Int×Int×aA×aA×au))(kn:(au×Int×Int×au×Int×Int×aA×aA)⊕(au×Int×Int×au×Int×Int×aA×aA×au)->Option R)(ke:(au×Int×Int×au×Int×Int×aA×aA)⊕(au×Int×Int×au×Int×Int×aA×aA×au)->Option R):Option R:=match s with
 | .inl ((v18,v19,v20,x',BG,Dk,ER,Fb))=>
 bif decide (v20<v19) then
 ((idx v18 v20).bind λavD=>
 (kZ 5 avD λaPM aPN aPO aPP aqG=>
 ((fE aPM aPN aPO aPP aqG x').bind λaBL=>
 (kn (.inr ((v18,v19,i64.wrap (v20+1),aBL,BG,Dk,ER,Fb,[[D.int .i64 (i64.wrap ((↑aBL.length:Int) - 1))]]))))))) else(ke (.inl ((v18,v19,v20,x',BG,Dk,ER,Fb))))
 | .inr ((v18,v19,v20,x',BG,Dk,ER,Fb,PV))=>
 bif decide (v20<v19) then
 ((idx v18 v20).bind λavE=>
 (kZ 5 avE λaPQ aPR aPS aPT aqH=>
 ((fE aPQ aPR aPS aPT aqH x').bind λaBM=>
 (iV PV [[D.int .i64 (i64.wrap ((↑aBM.length:Int) - 1))]] 8 λza=>(kn (.inr ((v18,v19,i64.wrap (v20+1),aBM,BG,Dk,ER,Fb,za)))))))) else(ke (.inr ((v18,v19,v20,x',BG,Dk,ER,Fb,PV))))
def M.ql(fE:Int->Int->aA->aA->au->au->Option (au))(s:(au×Int×Int×au×Int×Int×aA×aA)⊕(au×Int×Int×au×Int×Int×aA×aA×au)):=M.nH fE s (λs=>some (Sum.inl s)) λt=>some (Sum.inr t)
def M.EH(fE:Int->Int->aA->aA->au->au->Option (au))(s:(au×Int×Int×au×Int×Int×aA×aA)⊕(au×Int×Int×au×Int×Int×aA×aA×au)):Option ((au×Int×Int×au×Int×Int×aA×aA)⊕(au×Int×Int×au×Int×Int×aA×aA×au)):=eF (M.ql fE) s
def F.EH{fE:Int->Int->aA->aA->au->au->Option (au)}(Lr:S.lJ.ok X0 λx=>fE x.1.1.1 x.1.1.2.1 x.1.1.2.2.1 x.1.1.2.2.2.1 x.1.1.2.2.2.2.1 x.1.2.1):LE X0 95:=le 3 (pOr (GN [dG 1 (pO 300000 0),dG 5 (pP 300001 0),dG 18 (pL false 5),dG 19 pI,dG 20 pI] [dG 300000 (cA false false 0 5),dG 300001 (cB 39 [pI,pI,pS,pS,aew 1])]) (GN [dG 1 (pO 300000 0),dG 5 (pP 300001 0),dG 18 (pL false 5),dG 19 pI,dG 20 pI] [dG 300000 (cA false false 0 5),dG 300001 (cB 39 [pI,pI,pS,pS,pO 300002 0]),dG 300002 (cA false true 0 1)])) (σ:=(au×Int×Int×au×Int×Int×aA×aA)⊕(au×Int×Int×au×Int×Int×aA×aA×au)) (λx=>(match x with| .inl x=> .inl ((x.1.2.2.1,x.1.2.2.2.1,x.1.2.2.2.2.1,x.2.1,x.2.2.1.1,x.2.2.1.2.1,x.2.2.1.2.2.1,x.2.2.1.2.2.2.1))| .inr x=> .inr ((x.1.2.2.1,x.1.2.2.2.1,x.1.2.2.2.2.1,x.2.1,x.2.2.1.1,x.2.2.1.2.1,x.2.2.1.2.2.1,x.2.2.1.2.2.2.1,x.2.2.2.1)))) (λx s=>(match s with| .inl s=> .inl ((((),(),s.1,s.2.1,s.2.2.1,()),(s.2.2.2.1,(s.2.2.2.2.1,s.2.2.2.2.2.1,s.2.2.2.2.2.2.1,s.2.2.2.2.2.2.2,(),()),())))| .inr s=> .inr ((((),(),s.1,s.2.1,s.2.2.1,()),(s.2.2.2.1,(s.2.2.2.2.1,s.2.2.2.2.2.1,s.2.2.2.2.2.2.1,s.2.2.2.2.2.2.2.1,(),()),s.2.2.2.2.2.2.2.2,()))))) (λx=> .sum (.leaf (au×Int×Int×au×Int×Int×aA×aA) (λt=>(Ex.exit 0,{tm:=[(1,V.own 300000 0),(5,V.ptr 300001 0),(18,V.d (D.sl false 5 t.1)),(19,V.d (D.int .i64 t.2.1)),(20,V.d (D.int .i64 t.2.2.1)),(21,V.d (D.bool false))],mem:=[(300000,Cell.arr false false 0 5 t.2.2.2.1),(300001,Cell.box 39 [V.d (D.int .i64 t.2.2.2.2.1),V.d (D.int .i64 t.2.2.2.2.2.1),V.d (D.str t.2.2.2.2.2.2.1),V.d (D.str t.2.2.2.2.2.2.2),V.nil 1])]}))) (.leaf (au×Int×Int×au×Int×Int×aA×aA×au) (λt=>(Ex.exit 0,{tm:=[(1,V.own 300000 0),(5,V.ptr 300001 0),(18,V.d (D.sl false 5 t.1)),(19,V.d (D.int .i64 t.2.1)),(20,V.d (D.int .i64 t.2.2.1)),(21,V.d (D.bool false))],mem:=[(300000,Cell.arr false false 0 5 t.2.2.2.1),(300001,Cell.box 39 [V.d (D.int .i64 t.2.2.2.2.1),V.d (D.int .i64 t.2.2.2.2.2.1),V.d (D.str t.2.2.2.2.2.2.1),V.d (D.str t.2.2.2.2.2.2.2.1),V.own 300002 0]),(300002,Cell.arr false true 0 1 t.2.2.2.2.2.2.2.2)]})))) (λx=>M.nH fE) [fe Lr] [] (by rintro _ _ (⟨_,_,_,_,_,_,_,_⟩|⟨_,_,_,_,_,_,_,_,_⟩) _ _<;>simp only[iV,kZ,M.nH,nb]<;>rfl) (hE:=by intro _ _ s _;rcases s with s|s<;>kernel_rfl)
def M.AZ{R:Type}(fE:Int->Int->aA->aA->au->au->Option (au))(t' gX:Int)(je lq:aA)(kC l:au)(k:au->Option R):Option R:=
 (M.EH fE (.inl ((kC,(↑kC.length:Int),0,l,t',gX,je,lq)))).bind λaPU=>
 qR aPU (λan8=>
 (iV an8.2.2.2.1 [[D.int .i64 an8.2.2.2.2.1,D.int .i64 an8.2.2.2.2.2.1,D.str an8.2.2.2.2.2.2.1,D.str an8.2.2.2.2.2.2.2,D.sl true 1 []]] 72 λza=>(k za))) λaPV=>
 letE aPV λajm=>
 (bif ay ajm.2.2.2.2.2.2.2.2 then
 (iV ajm.2.2.2.1 [[D.int .i64 ajm.2.2.2.2.1,D.int .i64 ajm.2.2.2.2.2.1,D.str ajm.2.2.2.2.2.2.1,D.str ajm.2.2.2.2.2.2.2.1,D.sl true 1 ajm.2.2.2.2.2.2.2.2]] 72 λza=>(k za)) else none)
def M.iU:Nat->Int->Int->aA->aA->au->au->Option (au)
 |0=>λ_ _ _ _ _ _=>none
 |n+1=>λt' gX je lq kC l=>M.AZ (M.iU n) t' gX je lq kC l some
def M.lJ(t' gX:Int)(je lq:aA)(kC l:au):Option (au):=lim λn=>M.iU n t' gX je lq kC l
def C.XL{fE:Int->Int->aA->aA->au->au->Option (au)}(Lr:S.lJ.ok X0 λx=>fE x.1.1.1 x.1.1.2.1 x.1.1.2.2.1 x.1.1.2.2.2.1 x.1.1.2.2.2.2.1 x.1.2.1):S.lJ.ok X0 λx=>M.AZ fE x.1.1.1 x.1.1.2.1 x.1.1.2.2.1 x.1.1.2.2.2.1 x.1.1.2.2.2.2.1 x.1.2.1 some:=fnS (λx=>M.AZ fE x.1.1.1 x.1.1.2.1 x.1.1.2.2.1 x.1.1.2.2.2.1 x.1.1.2.2.2.2.1 x.1.2.1) [] [F.EH Lr] (by intros;simp only[iV,M.AZ,nb]<;>rfl)
def C.iU:∀n,S.lJ.ok X0 λx=>M.iU n x.1.1.1 x.1.1.2.1 x.1.1.2.2.1 x.1.1.2.2.2.1 x.1.1.2.2.2.2.1 x.1.2.1
 |0=>eP.zero
 |n+1=>C.XL (C.iU n)
def C.lJ:S.lJ.ok X0 λx=>M.lJ x.1.1.1 x.1.1.2.1 x.1.1.2.2.1 x.1.1.2.2.2.1 x.1.1.2.2.2.2.1 x.1.2.1:=eP.lim C.iU
def M.XM{n:Nat}{t' gX:Int}{je lq:aA}{kC l r:au}(h:M.iU n t' gX je lq kC l=some r):M.lJ t' gX je lq kC l=some r:=
 eP.Jl C.iU (by intro a b h;simp[S.lJ,sg] at h;first|exact h|simp[Prod.ext_iff,h]) (x:=(((t',gX,je,lq,kC,()),l,()),())) h
def M.EI{R:Type}(t' gX:Int)(je lq:aA)(kC:au)(k:au->Option R):Option R:=
 (M.lJ t' gX je lq kC []).bind λaBN=>(k aBN)
def M.ru(t' gX:Int)(je lq:aA)(kC:au):Option (au):=M.EI t' gX je lq kC some
def C.ru:S.ru.ok X0 λx=>M.ru x.1.1.1 x.1.1.2.1 x.1.1.2.2.1 x.1.1.2.2.2.1 x.1.1.2.2.2.2.1:=fnS (λx=>M.EI x.1.1.1 x.1.1.2.1 x.1.1.2.2.1 x.1.1.2.2.2.1 x.1.1.2.2.2.2.1) [fe C.lJ] [] (by intros;simp only[M.EI,nb]<;>rfl)
def M.Om{R:Type}(l:au)(i:Int)(k:au->Option R):Option R:=
 (M.wG l i).bind λaPW=>
 (bif decide (aPW<0) then(k []) else
 ((M.jZ l i).bind λan9=>
 ((M.ru an9.1 an9.2.1 an9.2.2.1 an9.2.2.2.1 (bJ an9.2.2.2.2)).bind λarO=>(bif[[D.sl true 5 arO]].all eY then(k arO) else none))))
def M.GV(l:au)(i:Int):Option (au):=M.Om l i some
def C.GV:S.GV.ok X0 λx=>M.GV x.1.1 x.1.2.1:=fnS (λx=>M.Om x.1.1 x.1.2.1) [fe C.wG,fe C.jZ,fe C.ru] [] (by intros;simp only[M.Om,nb]<;>rfl)
def M.rF{R:Type}(v6:au)(v7:Int)(s:Int×Int)(kn:Int×Int->Option R)(ke:Int×Int->Option R):Option R:=match s with
 |(count,v8)=>
 bif decide (v8<v7) then
 ((idx v6 v8).bind λaqI=>
 (kZ 1 aqI λaoa _ _ _ _=>
 ((M.fZ aoa).bind λaBO=>
 (bif aBO then
 (bif aoa !=33 then
 (bif aoa !=34 then(kn ((i64.wrap (count+1),i64.wrap (v8+1)))) else(kn ((count,i64.wrap (v8+1))))) else(kn ((count,i64.wrap (v8+1))))) else(kn ((count,i64.wrap (v8+1)))))))) else(ke ((count,v8)))
def M.xC(v6:au)(v7:Int)(s:Int×Int):=M.rF v6 v7 s (λs=>some (Sum.inl s)) λt=>some (Sum.inr t)
def M.Ak(v6:au)(v7:Int)(s:Int×Int):Option (Int×Int):=eF (M.xC v6 v7) s
def F.Ak:LE X0 25:=le 3 (GN [dG 3 pI,dG 6 (pL false 5),dG 7 pI,dG 8 pI] []) (λx=>(x.1.1,x.1.2.2.2.1)) (λx s=>((s.1,x.1.2.1,x.1.2.2.1,s.2,()),())) (λx=> .leaf (Int×Int) (λt=>(Ex.exit 0,{tm:=[(3,V.d (D.int .i64 t.1)),(6,V.d (D.sl false 5 x.1.2.1)),(7,V.d (D.int .i64 x.1.2.2.1)),(8,V.d (D.int .i64 t.2)),(9,V.d (D.bool false))],mem:=[]}))) (λx=>M.rF x.1.2.1 x.1.2.2.1) [fe C.fZ] [] (by rintro _ _ ⟨_,_⟩ _ _<;>simp only[kZ,M.rF,nb]<;>rfl)
def M.CO{R:Type}(l:au)(k:Int->Option R):Option R:=
 (M.Ak l ((↑l.length:Int)) ((0,0))).bind λaBP=>(k aBP.1)
def M.o8(l:au):Option (Int):=M.CO l some
def C.o8:S.o8.ok X0 λx=>M.o8 x.1.1:=fnS (λx=>M.CO x.1.1) [] [F.Ak] (by intros;simp only[M.CO,nb]<;>rfl)
def C.strconv_Itoa:S.strconv_Itoa.ok X0 λx=>M.strconv_Itoa x.1.1:=eP.Tz (p:=Prim.strconv_Itoa)
def M.Qp{R:Type}(n':Int)(k:aA->Option R):Option R:=
 (M.strconv_Itoa n').bind λaBQ=>(k aBQ)
def M.KQ(n':Int):Option (aA):=M.Qp n' some
def C.KQ:S.KQ.ok X0 λx=>M.KQ x.1.1:=fnS (λx=>M.Qp x.1.1) [fe C.strconv_Itoa] [] (by intros;simp only[M.Qp,nb]<;>rfl)
def C.strings_Join:S.strings_Join.ok X0 λx=>M.strings_Join x.1.1 x.1.2.1:=eP.Tz (p:=Prim.strings_Join)
def M.y8{R:Type}(v13:au)(v14 x' BG:Int)(Dk ER:aA)(Fb:au)(s:Int×au)(kn:Int×au->Option R)(ke:Int×au->Option R):Option R:=match s with
 |(v15,PV)=>
 bif decide (v15<v14) then
 ((idx v13 v15).bind λaqJ=>
 (kZ 5 aqJ λ_ _ aBR _ _=>
 (iV PV [[D.str aBR]] 16 λza=>(kn ((i64.wrap (v15+1),za)))))) else(ke ((v15,PV)))
def M.EJ(v13:au)(v14 x' BG:Int)(Dk ER:aA)(Fb:au)(s:Int×au):=M.y8 v13 v14 x' BG Dk ER Fb s (λs=>some (Sum.inl s)) λt=>some (Sum.inr t)
def M.IJ(v13:au)(v14 x' BG:Int)(Dk ER:aA)(Fb:au)(s:Int×au):Option (Int×au):=eF (M.EJ v13 v14 x' BG Dk ER Fb) s
def F.IJ:LE X0 55:=le 3 (GN [dG 1 (pP 300000 0),dG 3 (pO 300001 0),dG 13 (pL false 5),dG 14 pI,dG 15 pI] [dG 300000 (cB 75 [pI,pI,pS,pS,pL false 5]),dG 300001 (cA false true 0 1)]) (λx=>(x.1.2.2.2.2.1,x.2.2.1)) (λx s=>(((),(),x.1.2.2.1,x.1.2.2.2.1,s.1,()),((x.2.1.1,x.2.1.2.1,x.2.1.2.2.1,x.2.1.2.2.2.1,x.2.1.2.2.2.2.1,()),s.2,()))) (λx=> .leaf (Int×au) (λt=>(Ex.exit 0,{tm:=[(1,V.ptr 300000 0),(3,V.own 300001 0),(13,V.d (D.sl false 5 x.1.2.2.1)),(14,V.d (D.int .i64 x.1.2.2.2.1)),(15,V.d (D.int .i64 t.1)),(16,V.d (D.bool false))],mem:=[(300000,Cell.box 75 [V.d (D.int .i64 x.2.1.1),V.d (D.int .i64 x.2.1.2.1),V.d (D.str x.2.1.2.2.1),V.d (D.str x.2.1.2.2.2.1),V.d (D.sl false 5 x.2.1.2.2.2.2.1)]),(300001,Cell.arr false true 0 1 t.2)]}))) (λx=>M.y8 x.1.2.2.1 x.1.2.2.2.1 x.2.1.1 x.2.1.2.1 x.2.1.2.2.1 x.2.1.2.2.2.1 x.2.1.2.2.2.2.1) [] [] (by rintro _ _ ⟨_,_⟩ _ _<;>simp only[iV,kZ,M.y8,nb]<;>rfl)
def M.Kt{R:Type}(t' gX:Int)(je lq:aA)(kC:au)(k:aA->Option R):Option R:=
 (cut kC 0 (i64.wrap ((↑kC.length:Int) - 1))).bind λafO=>
 ((M.IJ afO ((↑afO.length:Int)) t' gX je lq kC ((0,[]))).bind λaBS=>
 (bif(9+je.length).ble 9223372036854775807 then
 (bif(([102,117,110,99,116,105,111,110,32]++je).length+1).ble 9223372036854775807 then
 ((M.strings_Join aBS.2 [44,32]).bind λaob=>
 (bif(([102,117,110,99,116,105,111,110,32]++je++[40]).length+aob.length).ble 9223372036854775807 then
 (bif(([102,117,110,99,116,105,111,110,32]++je++[40]++aob).length+1).ble 9223372036854775807 then(k ([102,117,110,99,116,105,111,110,32]++je++[40]++aob++[41])) else none) else none)) else none) else none))
def M.zN(t' gX:Int)(je lq:aA)(kC:au):Option (aA):=M.Kt t' gX je lq kC some
def C.zN:S.zN.ok X0 λx=>M.zN x.1.1.1 x.1.1.2.1 x.1.1.2.2.1 x.1.1.2.2.2.1 x.1.1.2.2.2.2.1:=fnS (λx=>M.Kt x.1.1.1 x.1.1.2.1 x.1.1.2.2.1 x.1.1.2.2.2.1 x.1.1.2.2.2.2.1) [fe C.strings_Join] [F.IJ] (by intros;simp only[M.Kt,nb]<;>rfl)
def M.Ve{R:Type}(k:Int×Bool×Bool×Bool×Bool->Option R):Option R:=
 k ((1,false,false,false,false))
def M.pz:Option (Int×Bool×Bool×Bool×Bool):=M.Ve some
def C.pz:S.pz.ok X0 λx=>M.pz:=fnS (λx=>M.Ve) [] [] (by intros;simp only[M.Ve,nb]<;>rfl)
def M.l9{R:Type}(s:(Int×Int×Int×Int×aA×aA×Int×Int×aA×aA)⊕(Int×Int×Int×Int×aA×aA×Int×Int×aA×aA×au))(kn:(Int×Int×Int×Int×aA×aA×Int×Int×aA×aA)⊕(Int×Int×Int×Int×aA×aA×Int×Int×aA×aA×au)->Option R)(ke:(Int×Int×Int×Int×aA×aA×Int×Int×aA×aA)⊕(Int×Int×Int×Int×aA×aA×Int×Int×aA×aA×au)->Option R):Option R:=match s with
 | .inl ((v16,v17,x',BG,Dk,ER,Fb,PV,U9,x'7))=>
 bif decide (v17<v16) then
 (kn (.inr ((v16,i64.wrap (v17+1),x',BG,Dk,ER,Fb,PV,U9,x'7,[[D.int .i64 v17]])))) else(ke (.inl ((v16,v17,x',BG,Dk,ER,Fb,PV,U9,x'7))))
 | .inr ((v16,v17,x',BG,Dk,ER,Fb,PV,U9,x'7,x'8))=>
 bif decide (v17<v16) then
 (iV x'8 [[D.int .i64 v17]] 8 λza=>(kn (.inr ((v16,i64.wrap (v17+1),x',BG,Dk,ER,Fb,PV,U9,x'7,za))))) else(ke (.inr ((v16,v17,x',BG,Dk,ER,Fb,PV,U9,x'7,x'8))))
def M.oL(s:(Int×Int×Int×Int×aA×aA×Int×Int×aA×aA)⊕(Int×Int×Int×Int×aA×aA×Int×Int×aA×aA×au)):=M.l9 s (λs=>some (Sum.inl s)) λt=>some (Sum.inr t)
def M.CP(s:(Int×Int×Int×Int×aA×aA×Int×Int×aA×aA)⊕(Int×Int×Int×Int×aA×aA×Int×Int×aA×aA×au)):Option ((Int×Int×Int×Int×aA×aA×Int×Int×aA×aA)⊕(Int×Int×Int×Int×aA×aA×Int×Int×aA×aA×au)):=eF (M.oL) s
def F.CP:LE X0 151:=le 3 (pOr (GN [dG 2 (pP 300000 0),dG 3 (pP 300001 0),dG 16 pI,dG 17 pI] [dG 300000 (cB 39 [pI,pI,pS,pS,aew 1]),dG 300001 (cB 39 [pI,pI,pS,pS,aew 1])]) (GN [dG 2 (pP 300000 0),dG 3 (pP 300001 0),dG 16 pI,dG 17 pI] [dG 300000 (cB 39 [pI,pI,pS,pS,aew 1]),dG 300001 (cB 39 [pI,pI,pS,pS,pO 300002 0]),dG 300002 (cA false true 0 1)])) (σ:=(Int×Int×Int×Int×aA×aA×Int×Int×aA×aA)⊕(Int×Int×Int×Int×aA×aA×Int×Int×aA×aA×au)) (λx=>(match x with| .inl x=> .inl ((x.1.2.2.1,x.1.2.2.2.1,x.2.1.1,x.2.1.2.1,x.2.1.2.2.1,x.2.1.2.2.2.1,x.2.2.1.1,x.2.2.1.2.1,x.2.2.1.2.2.1,x.2.2.1.2.2.2.1))| .inr x=> .inr ((x.1.2.2.1,x.1.2.2.2.1,x.2.1.1,x.2.1.2.1,x.2.1.2.2.1,x.2.1.2.2.2.1,x.2.2.1.1,x.2.2.1.2.1,x.2.2.1.2.2.1,x.2.2.1.2.2.2.1,x.2.2.2.1)))) (λx s=>(match s with| .inl s=> .inl ((((),(),s.1,s.2.1,()),((s.2.2.1,s.2.2.2.1,s.2.2.2.2.1,s.2.2.2.2.2.1,(),()),(s.2.2.2.2.2.2.1,s.2.2.2.2.2.2.2.1,s.2.2.2.2.2.2.2.2.1,s.2.2.2.2.2.2.2.2.2,(),()),())))| .inr s=> .inr ((((),(),s.1,s.2.1,()),((s.2.2.1,s.2.2.2.1,s.2.2.2.2.1,s.2.2.2.2.2.1,(),()),(s.2.2.2.2.2.2.1,s.2.2.2.2.2.2.2.1,s.2.2.2.2.2.2.2.2.1,s.2.2.2.2.2.2.2.2.2.1,(),()),s.2.2.2.2.2.2.2.2.2.2,()))))) (λx=> .sum (.leaf (Int×Int×Int×Int×aA×aA×Int×Int×aA×aA) (λt=>(Ex.exit 0,{tm:=[(2,V.ptr 300000 0),(3,V.ptr 300001 0),(16,V.d (D.int .i64 t.1)),(17,V.d (D.int .i64 t.2.1)),(18,V.d (D.bool false))],mem:=[(300000,Cell.box 39 [V.d (D.int .i64 t.2.2.1),V.d (D.int .i64 t.2.2.2.1),V.d (D.str t.2.2.2.2.1),V.d (D.str t.2.2.2.2.2.1),V.nil 1]),(300001,Cell.box 39 [V.d (D.int .i64 t.2.2.2.2.2.2.1),V.d (D.int .i64 t.2.2.2.2.2.2.2.1),V.d (D.str t.2.2.2.2.2.2.2.2.1),V.d (D.str t.2.2.2.2.2.2.2.2.2),V.nil 1])]}))) (.leaf (Int×Int×Int×Int×aA×aA×Int×Int×aA×aA×au) (λt=>(Ex.exit 0,{tm:=[(2,V.ptr 300000 0),(3,V.ptr 300001 0),(16,V.d (D.int .i64 t.1)),(17,V.d (D.int .i64 t.2.1)),(18,V.d (D.bool false))],mem:=[(300000,Cell.box 39 [V.d (D.int .i64 t.2.2.1),V.d (D.int .i64 t.2.2.2.1),V.d (D.str t.2.2.2.2.1),V.d (D.str t.2.2.2.2.2.1),V.nil 1]),(300001,Cell.box 39 [V.d (D.int .i64 t.2.2.2.2.2.2.1),V.d (D.int .i64 t.2.2.2.2.2.2.2.1),V.d (D.str t.2.2.2.2.2.2.2.2.1),V.d (D.str t.2.2.2.2.2.2.2.2.2.1),V.own 300002 0]),(300002,Cell.arr false true 0 1 t.2.2.2.2.2.2.2.2.2.2)]})))) (λx=>M.l9) [] [] (by rintro _ _ (⟨_,_,_,_,_,_,_,_,_,_⟩|⟨_,_,_,_,_,_,_,_,_,_,_⟩) _ _<;>simp only[iV,M.l9,nb]<;>rfl) (hE:=by intro _ _ s _;rcases s with s|s<;>kernel_rfl)
def M.EK{R:Type}(t' gX:Int)(je lq:aA)(kC:au)(k:Int×Int×aA×aA×au->Option R):Option R:=
 (M.CP (.inl (((↑kC.length:Int),0,0,0,[],[],t',gX,je,lq)))).bind λaBT=>
 qR aBT (λakp=>
 (k ((akp.2.2.2.2.2.2.1,akp.2.2.2.2.2.2.2.1,akp.2.2.2.2.2.2.2.2.1,akp.2.2.2.2.2.2.2.2.2,[])))) λaBU=>
 letE aBU λads=>
 (bif ay ads.2.2.2.2.2.2.2.2.2.2 then
 (k ((ads.2.2.2.2.2.2.1,ads.2.2.2.2.2.2.2.1,ads.2.2.2.2.2.2.2.2.1,ads.2.2.2.2.2.2.2.2.2.1,ads.2.2.2.2.2.2.2.2.2.2))) else none)
def M.iW(t' gX:Int)(je lq:aA)(kC:au):Option (Int×Int×aA×aA×au):=M.EK t' gX je lq kC some
def C.iW:S.iW.ok X0 λx=>M.iW x.1.1.1 x.1.1.2.1 x.1.1.2.2.1 x.1.1.2.2.2.1 x.1.1.2.2.2.2.1:=fnS (λx=>M.EK x.1.1.1 x.1.1.2.1 x.1.1.2.2.1 x.1.1.2.2.2.1 x.1.1.2.2.2.2.1) [] [F.CP] (by intros;simp only[M.EK,nb]<;>rfl)
def M.IK{R:Type}(n' fH:Int)(iJ iO:aA)(jM:au)(k:Int->Option R):Option R:=
 bif n'==15 then(k 1) else
 (bif n'==14 then(k 2) else
 (bif n'==13 then(k 5) else
 (bif n'==12 then((M.kV fH).bind λaBV=>(k aBV)) else
 (bif n'==11 then(k 11) else
 (bif n'==9 then(k 13) else
 (bif n'==10 then(k 13) else
 (bif n'==6 then(k 14) else
 (bif n'==1 then(k 15) else
 (bif n'==2 then(k 15) else
 (bif n'==3 then(k 15) else
 (bif n'==4 then(k 15) else
 (bif n'==5 then(k 15) else(bif n'==7 then(k 15) else(bif n'==8 then(k 15) else(k 0)))))))))))))))
def M.lS(n' fH:Int)(iJ iO:aA)(jM:au):Option (Int):=M.IK n' fH iJ iO jM some
def C.lS:S.lS.ok X0 λx=>M.lS x.1.1.1 x.1.1.2.1 x.1.1.2.2.1 x.1.1.2.2.2.1 x.1.1.2.2.2.2.1:=fnS (λx=>M.IK x.1.1.1 x.1.1.2.1 x.1.1.2.2.1 x.1.1.2.2.2.1 x.1.1.2.2.2.2.1) [fe C.kV] [] (by intros;unfold M.IK;repeat' first|with_reducible apply iw|with_reducible apply Lh|with_reducible apply Lj|with_reducible apply Ll|with_reducible apply Lm|(intro _)|apply iw|rfl)
def M.L8{R:Type}(p:Int)(p1 p2 p3 p4:Bool)(k:Bool->Option R):Option R:=
 (M.bG p 1 15).bind λaBW=>(bif aBW then(bif !p1 then(k true) else(k (p==14))) else(k false))
def M.xW(p:Int)(p1 p2 p3 p4:Bool):Option (Bool):=M.L8 p p1 p2 p3 p4 some
def C.xW:S.xW.ok X0 λx=>M.xW x.1.1.1 x.1.1.2.1 x.1.1.2.2.1 x.1.1.2.2.2.1 x.1.1.2.2.2.2.1:=fnS (λx=>M.L8 x.1.1.1 x.1.1.2.1 x.1.1.2.2.1 x.1.1.2.2.2.1 x.1.1.2.2.2.2.1) [fe C.bG] [] (by intros;unfold M.L8;repeat' first|with_reducible apply iw|with_reducible apply Lh|with_reducible apply Lj|with_reducible apply Ll|with_reducible apply Lm|(intro _)|apply iw|rfl)
def M.Oo{R:Type}(n' fH:Int)(iJ iO:aA)(jM:au)(p:Int)(p1 p2 p3 p4:Bool)(k:Bool->Option R):Option R:=
 (M.lS n' fH iJ iO jM).bind λA8=>
 ((M.xW p p1 p2 p3 p4).bind λaBX=>
 (bif !aBX then(k false) else
 (bif A8==0 then(k false) else
 (bif p2 then
 (bif n'==13 then(k false) else
 (bif p3 then
 (bif n'==12 then
 (bif fH==62 then(k false) else
 (bif p4 then
 (bif n'==11 then(k false) else
 (bif n'==9 then(k false) else
 (bif n'==4 then(k false) else
 (bif p1 then(bif n'==9 then(k true) else(k (decide (A8>=p)))) else(k (decide (A8>=p))))))) else
 (bif p1 then(bif n'==9 then(k true) else(k (decide (A8>=p)))) else(k (decide (A8>=p)))))) else
 (bif p4 then
 (bif n'==11 then(k false) else
 (bif n'==9 then(k false) else
 (bif n'==4 then(k false) else
 (bif p1 then(bif n'==9 then(k true) else(k (decide (A8>=p)))) else(k (decide (A8>=p))))))) else
 (bif p1 then(bif n'==9 then(k true) else(k (decide (A8>=p)))) else(k (decide (A8>=p)))))) else
 (bif p4 then
 (bif n'==11 then(k false) else
 (bif n'==9 then(k false) else
 (bif n'==4 then(k false) else
 (bif p1 then(bif n'==9 then(k true) else(k (decide (A8>=p)))) else(k (decide (A8>=p))))))) else
 (bif p1 then(bif n'==9 then(k true) else(k (decide (A8>=p)))) else(k (decide (A8>=p))))))) else
 (bif p3 then
 (bif n'==12 then
 (bif fH==62 then(k false) else
 (bif p4 then
 (bif n'==11 then(k false) else
 (bif n'==9 then(k false) else
 (bif n'==4 then(k false) else
 (bif p1 then(bif n'==9 then(k true) else(k (decide (A8>=p)))) else(k (decide (A8>=p))))))) else
 (bif p1 then(bif n'==9 then(k true) else(k (decide (A8>=p)))) else(k (decide (A8>=p)))))) else
 (bif p4 then
 (bif n'==11 then(k false) else
 (bif n'==9 then(k false) else
 (bif n'==4 then(k false) else
 (bif p1 then(bif n'==9 then(k true) else(k (decide (A8>=p)))) else(k (decide (A8>=p))))))) else
 (bif p1 then(bif n'==9 then(k true) else(k (decide (A8>=p)))) else(k (decide (A8>=p)))))) else
 (bif p4 then
 (bif n'==11 then(k false) else
 (bif n'==9 then(k false) else
 (bif n'==4 then(k false) else
 (bif p1 then(bif n'==9 then(k true) else(k (decide (A8>=p)))) else(k (decide (A8>=p))))))) else
 (bif p1 then(bif n'==9 then(k true) else(k (decide (A8>=p)))) else(k (decide (A8>=p))))))))))
def M.Bo(n' fH:Int)(iJ iO:aA)(jM:au)(p:Int)(p1 p2 p3 p4:Bool):Option (Bool):=M.Oo n' fH iJ iO jM p p1 p2 p3 p4 some
def C.Bo:S.Bo.ok X0 λx=>M.Bo x.1.1.1 x.1.1.2.1 x.1.1.2.2.1 x.1.1.2.2.2.1 x.1.1.2.2.2.2.1 x.1.2.1.1 x.1.2.1.2.1 x.1.2.1.2.2.1 x.1.2.1.2.2.2.1 x.1.2.1.2.2.2.2.1:=fnS (λx=>M.Oo x.1.1.1 x.1.1.2.1 x.1.1.2.2.1 x.1.1.2.2.2.1 x.1.1.2.2.2.2.1 x.1.2.1.1 x.1.2.1.2.1 x.1.2.1.2.2.1 x.1.2.1.2.2.2.1 x.1.2.1.2.2.2.2.1) [fe C.lS,fe C.xW] [] (by intros;unfold M.Oo;repeat' first|with_reducible apply iw|with_reducible apply Lh|with_reducible apply Lj|with_reducible apply Ll|with_reducible apply Lm|(intro _)|apply iw|rfl)
def M.Rz{R:Type}(s':aA)(k:Int×Int×aA×au×Int->Option R):Option R:=
 k ((1,0,s',[],0))
def M.dO(s':aA):Option (Int×Int×aA×au×Int):=M.Rz s' some
def C.dO:S.dO.ok X0 λx=>M.dO x.1.1:=fnS (λx=>M.Rz x.1.1) [] [] (by intros;simp only[M.Rz,nb]<;>rfl)
def M.RD{R:Type}(k:Int×Int×aA×au×Int->Option R):Option R:=
 k ((2,0,[],[],0))
def M.vM:Option (Int×Int×aA×au×Int):=M.RD some
def C.vM:S.vM.ok X0 λx=>M.vM:=fnS (λx=>M.RD) [] [] (by intros;simp only[M.RD,nb]<;>rfl)
def M.L9{R:Type}(v0:Int)(k:Int×Bool×Bool×Bool×Bool->Option R):Option R:=
 M.pz.bind λafP=>
 (k ((afP.1,afP.2.1,afP.2.2.1,afP.2.2.2.1,afP.2.2.2.2)))
def M.Dy(v0:Int):Option (Int×Bool×Bool×Bool×Bool):=M.L9 v0 some
def C.Dy:S.Dy.ok X0 λx=>M.Dy x.1.1:=fnS (λx=>M.L9 x.1.1) [fe C.pz] [] (by intros;simp only[M.L9,nb]<;>rfl)
def M.Vf{R:Type}(list:au)(k:Int×Int×aA×au×Int->Option R):Option R:=
 k ((6,0,[],list,0))
def M.gV(list:au):Option (Int×Int×aA×au×Int):=M.Vf list some
def C.gV:S.gV.ok X0 λx=>M.gV x.1.1:=fnS (λx=>M.Vf x.1.1) [] [] (by intros;simp only[M.Vf,nb]<;>rfl)
def M.RF{R:Type}(d d1:Int)(d2:aA)(d3:au)(d4:Int)(k:Int×Int×aA×au×Int->Option R):Option R:=
 k ((4,4,[],[[D.int .i64 d,D.int .i64 d1,D.str d2,D.sl false 5 d3,D.int .i64 d4]],0))
def M.vN(d d1:Int)(d2:aA)(d3:au)(d4:Int):Option (Int×Int×aA×au×Int):=M.RF d d1 d2 d3 d4 some
def C.vN:S.vN.ok X0 λx=>M.vN x.1.1.1 x.1.1.2.1 x.1.1.2.2.1 x.1.1.2.2.2.1 x.1.1.2.2.2.2.1:=fnS (λx=>M.RF x.1.1.1 x.1.1.2.1 x.1.1.2.2.1 x.1.1.2.2.2.1 x.1.1.2.2.2.2.1) [] [] (by intros;simp only[M.RF,nb]<;>rfl)
def M.Qq{R:Type}(d d1:Int)(d2:aA)(d3:au)(d4:Int)(k:Int×Int×aA×au×Int->Option R):Option R:=
 k ((5,0,[],[[D.int .i64 d,D.int .i64 d1,D.str d2,D.sl false 5 d3,D.int .i64 d4]],0))
def M.rY(d d1:Int)(d2:aA)(d3:au)(d4:Int):Option (Int×Int×aA×au×Int):=M.Qq d d1 d2 d3 d4 some
def C.rY:S.rY.ok X0 λx=>M.rY x.1.1.1 x.1.1.2.1 x.1.1.2.2.1 x.1.1.2.2.2.1 x.1.1.2.2.2.2.1:=fnS (λx=>M.Qq x.1.1.1 x.1.1.2.1 x.1.1.2.2.1 x.1.1.2.2.2.1 x.1.1.2.2.2.2.1) [] [] (by intros;simp only[M.Qq,nb]<;>rfl)
def M.xE{R:Type}(dF:Int->Int->aA->aA->au->Int->Bool->Bool->Bool->Bool->Option (Int×Int×aA×au×Int))(v9:au)(v10 x' BG:Int)(Dk:aA)(ER:Int)(s:Int×au)(kn:Int×au->Option R)(ke:Int×au->Option R):Option R:=match s with
 |(v11,Fb)=>
 bif decide (v11<v10) then
 ((idx v9 v11).bind λaqK=>
 (kZ 5 aqK λarP arQ arR arS afQ=>
 (bif decide (v11>0) then
 ((M.dO [44]).bind λaBY=>
 (M.vM.bind λaBZ=>
 (iV Fb [lu aBY,lu aBZ] 64 λza=>((M.Dy v11).bind λafR=>
 ((dF arP arQ arR arS afQ afR.1 afR.2.1 afR.2.2.1 afR.2.2.2.1 afR.2.2.2.2).bind λaB0=>
 (iV za [lu aB0] 64 λzb=>(kn ((i64.wrap (v11+1),zb))))))))) else
 ((M.Dy v11).bind λafS=>
 ((dF arP arQ arR arS afQ afS.1 afS.2.1 afS.2.2.1 afS.2.2.2.1 afS.2.2.2.2).bind λaB1=>
 (iV Fb [lu aB1] 64 λza=>(kn ((i64.wrap (v11+1),za))))))))) else(ke ((v11,Fb)))
def M.IL(dF:Int->Int->aA->aA->au->Int->Bool->Bool->Bool->Bool->Option (Int×Int×aA×au×Int))(v9:au)(v10 x' BG:Int)(Dk:aA)(ER:Int)(s:Int×au):=M.xE dF v9 v10 x' BG Dk ER s (λs=>some (Sum.inl s)) λt=>some (Sum.inr t)
def M.FZ(dF:Int->Int->aA->aA->au->Int->Bool->Bool->Bool->Bool->Option (Int×Int×aA×au×Int))(v9:au)(v10 x' BG:Int)(Dk:aA)(ER:Int)(s:Int×au):Option (Int×au):=eF (M.IL dF v9 v10 x' BG Dk ER) s
def F.FZ{dF:Int->Int->aA->aA->au->Int->Bool->Bool->Bool->Bool->Option (Int×Int×aA×au×Int)}(DN:S.kW.ok X0 λx=>dF x.1.1.1 x.1.1.2.1 x.1.1.2.2.1 x.1.1.2.2.2.1 x.1.1.2.2.2.2.1 x.1.2.1.1 x.1.2.1.2.1 x.1.2.1.2.2.1 x.1.2.1.2.2.2.1 x.1.2.1.2.2.2.2.1):LE X0 204:=le 3 (GN [dG 1 (aw1 205 [] []),dG 4 (pP 300000 0),dG 5 (pO 300001 0),dG 9 (pL false 5),dG 10 pI,dG 11 pI] [dG 300000 (cB 82 [pI,pI,pS,aew 5,pI]),dG 300001 (cA false false 0 5)]) (λx=>(x.1.2.2.2.2.2.1,x.2.2.1)) (λx s=>((((),()),(),(),x.1.2.2.2.1,x.1.2.2.2.2.1,s.1,()),((x.2.1.1,x.2.1.2.1,x.2.1.2.2.1,(),x.2.1.2.2.2.2.1,()),s.2,()))) (λx=> .leaf (Int×au) (λt=>(Ex.exit 0,{tm:=[(1,V.clo 205 [] []),(4,V.ptr 300000 0),(5,V.own 300001 0),(9,V.d (D.sl false 5 x.1.2.2.2.1)),(10,V.d (D.int .i64 x.1.2.2.2.2.1)),(11,V.d (D.int .i64 t.1)),(12,V.d (D.bool false))],mem:=[(300000,Cell.box 82 [V.d (D.int .i64 x.2.1.1),V.d (D.int .i64 x.2.1.2.1),V.d (D.str x.2.1.2.2.1),V.nil 5,V.d (D.int .i64 x.2.1.2.2.2.2.1)]),(300001,Cell.arr false false 0 5 t.2)]}))) (λx=>M.xE dF x.1.2.2.2.1 x.1.2.2.2.2.1 x.2.1.1 x.2.1.2.1 x.2.1.2.2.1 x.2.1.2.2.2.2.1) [fe C.dO,fe C.vM,fe C.Dy,fe DN] [] (by rintro _ _ ⟨_,_⟩ _ _<;>simp only[iV,lu,kZ,M.xE,nb]<;>rfl)
def M.y9{R:Type}(dF:Int->Int->aA->aA->au->Int->Bool->Bool->Bool->Bool->Option (Int×Int×aA×au×Int))(kids:au)(k:Int×Int×aA×au×Int->Option R):Option R:=
 (M.FZ dF kids ((↑kids.length:Int)) 0 0 [] 0 ((0,[]))).bind λaB2=>
 ((M.gV aB2.2).bind λafT=>
 ((M.vN afT.1 afT.2.1 afT.2.2.1 (bJ afT.2.2.2.1) afT.2.2.2.2).bind λafU=>
 ((M.rY afU.1 afU.2.1 afU.2.2.1 (bJ afU.2.2.2.1) afU.2.2.2.2).bind λaB3=>
 (k ((AL aB3))))))
def C.Zr{dF:Int->Int->aA->aA->au->Int->Bool->Bool->Bool->Bool->Option (Int×Int×aA×au×Int)}(DN:S.kW.ok X0 λx=>dF x.1.1.1 x.1.1.2.1 x.1.1.2.2.1 x.1.1.2.2.2.1 x.1.1.2.2.2.2.1 x.1.2.1.1 x.1.2.1.2.1 x.1.2.1.2.2.1 x.1.2.1.2.2.2.1 x.1.2.1.2.2.2.2.1):S.zX.ok X0 λx=>M.y9 dF x.1.1 some:=fnS (λx=>M.y9 dF x.1.1) [fe C.gV,fe C.vN,fe C.rY] [F.FZ DN] (by intros;simp only[AL,M.y9,nb]<;>rfl)
def M.F5{R:Type}(op' k':Int)(k:Int->Option R):Option R:=
 (M.kV op').bind λabj=>
 (bif abj==3 then(bif k'==0 then(k 3) else(k 4)) else
 (bif abj==4 then(bif k'==0 then(k 4) else(k 5)) else
 (bif abj==6 then(bif k'==0 then(k 7) else(k 7)) else
 (bif abj==7 then(bif k'==0 then(k 8) else(k 8)) else
 (bif abj==8 then(bif k'==0 then(k 8) else(k 9)) else
 (bif abj==9 then(bif k'==0 then(k 9) else(k 10)) else
 (bif abj==10 then(bif k'==0 then(k 10) else(k 11)) else(bif k'==0 then(k 13) else(k 11)))))))))
def M.tY(op' k':Int):Option (Int):=M.F5 op' k' some
def C.tY:S.tY.ok X0 λx=>M.tY x.1.1 x.1.2.1:=fnS (λx=>M.F5 x.1.1 x.1.2.1) [fe C.kV] [] (by intros;unfold M.F5;repeat' first|with_reducible apply iw|with_reducible apply Lh|with_reducible apply Lj|with_reducible apply Ll|with_reducible apply Lm|(intro _)|apply iw|rfl)
def M.F6{R:Type}(n' fH:Int)(iJ iO:aA)(jM:au)(k':Int)(k:Int->Option R):Option R:=
 bif n'==15 then(bif decide (k'>0) then(k 1) else(k 14)) else
 (bif n'==14 then(bif decide (k'>0) then(k 2) else(k 3)) else
 (bif n'==13 then(k 5) else
 (bif n'==11 then(k 11) else(bif n'==12 then((M.tY fH k').bind λaB4=>(k aB4)) else(k 14)))))
def M.qH(n' fH:Int)(iJ iO:aA)(jM:au)(k':Int):Option (Int):=M.F6 n' fH iJ iO jM k' some
def C.qH:S.qH.ok X0 λx=>M.qH x.1.1.1 x.1.1.2.1 x.1.1.2.2.1 x.1.1.2.2.2.1 x.1.1.2.2.2.2.1 x.1.2.1:=fnS (λx=>M.F6 x.1.1.1 x.1.1.2.1 x.1.1.2.2.1 x.1.1.2.2.2.1 x.1.1.2.2.2.2.1 x.1.2.1) [fe C.tY] [] (by intros;simp only[M.F6,nb]<;>rfl)
def M.Ku{R:Type}(n' fH:Int)(iJ iO:aA)(jM:au)(k' p:Int)(p1 p2 p3 p4:Bool)(k:Int×Bool×Bool×Bool×Bool->Option R):Option R:=
 (M.xW p p1 p2 p3 p4).bind λaB5=>
 (bif !aB5 then(k ((0,false,false,false,false))) else
 ((M.bG k' 0 (i64.wrap ((↑jM.length:Int) - 1))).bind λaB6=>
 (bif !aB6 then(k ((0,false,false,false,false))) else
 ((M.lS n' fH iJ iO jM).bind λaB7=>
 (bif aB7==0 then(k ((0,false,false,false,false))) else
 ((M.lS n' fH iJ iO jM).bind λaB8=>
 (bif aB8==15 then
 (M.pz.bind λafV=>
 (k ((afV.1,afV.2.1,afV.2.2.1,afV.2.2.2.1,afV.2.2.2.2)))) else
 (bif n'==13 then
 (bif decide ((↑jM.length:Int)>1) then
 (M.pz.bind λafW=>
 (k ((afW.1,afW.2.1,afW.2.2.1,afW.2.2.2.1,afW.2.2.2.2)))) else
 ((M.qH n' fH iJ iO jM k').bind λRG=>
 (bif n'==11 then(k ((RG,n'==6,p2,p3,false))) else
 (bif n'==9 then(k ((RG,n'==6,p2,p3,false))) else
 (bif n'==10 then(k ((RG,n'==6,p2,p3,false))) else
 (bif n'==6 then(k ((RG,n'==6,p2,p3,false))) else
 (bif k'==0 then
 (bif p4 then(k ((RG,n'==6,p2,p3,true))) else
 (bif k'==1 then
 (bif n'==12 then(k ((RG,n'==6,p2,p3,fH==99))) else(k ((RG,n'==6,p2,p3,false)))) else(k ((RG,n'==6,p2,p3,false))))) else
 (bif k'==1 then
 (bif n'==12 then(k ((RG,n'==6,p2,p3,fH==99))) else(k ((RG,n'==6,p2,p3,false)))) else(k ((RG,n'==6,p2,p3,false))))))))))) else
 ((M.qH n' fH iJ iO jM k').bind λRH=>
 (bif n'==11 then(k ((RH,n'==6,p2,p3,false))) else
 (bif n'==9 then(k ((RH,n'==6,p2,p3,false))) else
 (bif n'==10 then(k ((RH,n'==6,p2,p3,false))) else
 (bif n'==6 then(k ((RH,n'==6,p2,p3,false))) else
 (bif k'==0 then
 (bif p4 then(k ((RH,n'==6,p2,p3,true))) else
 (bif k'==1 then
 (bif n'==12 then(k ((RH,n'==6,p2,p3,fH==99))) else(k ((RH,n'==6,p2,p3,false)))) else(k ((RH,n'==6,p2,p3,false))))) else
 (bif k'==1 then
 (bif n'==12 then(k ((RH,n'==6,p2,p3,fH==99))) else(k ((RH,n'==6,p2,p3,false)))) else(k ((RH,n'==6,p2,p3,false))))))))))))))))))
def M.tZ(n' fH:Int)(iJ iO:aA)(jM:au)(k' p:Int)(p1 p2 p3 p4:Bool):Option (Int×Bool×Bool×Bool×Bool):=M.Ku n' fH iJ iO jM k' p p1 p2 p3 p4 some
def C.tZ:S.tZ.ok X0 λx=>M.tZ x.1.1.1 x.1.1.2.1 x.1.1.2.2.1 x.1.1.2.2.2.1 x.1.1.2.2.2.2.1 x.1.2.1 x.1.2.2.1.1 x.1.2.2.1.2.1 x.1.2.2.1.2.2.1 x.1.2.2.1.2.2.2.1 x.1.2.2.1.2.2.2.2.1:=fnS (λx=>M.Ku x.1.1.1 x.1.1.2.1 x.1.1.2.2.1 x.1.1.2.2.2.1 x.1.1.2.2.2.2.1 x.1.2.1 x.1.2.2.1.1 x.1.2.2.1.2.1 x.1.2.2.1.2.2.1 x.1.2.2.1.2.2.2.1 x.1.2.2.1.2.2.2.2.1) [fe C.xW,fe C.bG,fe C.lS,fe C.pz,fe C.qH] [] (by intros;unfold M.Ku;repeat' first|with_reducible apply iw|with_reducible apply Lh|with_reducible apply Lj|with_reducible apply Ll|with_reducible apply Lm|(intro _)|apply iw|rfl)
def M.F7{R:Type}(n' fH:Int)(iJ iO:aA)(jM:au)(k':Int)(k:Bool->Option R):Option R:=
 bif k'==0 then(bif n'==9 then(k true) else(bif n'==10 then(k true) else(k (n'==15)))) else(k false)
def M.nX(n' fH:Int)(iJ iO:aA)(jM:au)(k':Int):Option (Bool):=M.F7 n' fH iJ iO jM k' some
def C.nX:S.nX.ok X0 λx=>M.nX x.1.1.1 x.1.1.2.1 x.1.1.2.2.1 x.1.1.2.2.2.1 x.1.1.2.2.2.2.1 x.1.2.1:=fnS (λx=>M.F7 x.1.1.1 x.1.1.2.1 x.1.1.2.2.1 x.1.1.2.2.2.1 x.1.1.2.2.2.2.1 x.1.2.1) [] [] (by intros;simp only[M.F7,nb]<;>rfl)
def M.Bv{R:Type}(jq:Int->Int->aA->aA->au->Int->Bool->Bool->Bool->Bool->Option (Int×Int×aA×au×Int))(dF:Int->Int->aA->aA->au->Int->Bool->Bool->Bool->Bool->Option (Int×Int×aA×au×Int))(t' gX:Int)(je lq:aA)(kC:au)(k' p:Int)(p1 p2 p3 p4:Bool)(k:Int×Int×aA×au×Int->Option R):Option R:=
 (M.iW t' gX je lq kC).bind λUd=>
 ((M.tZ Ud.1 Ud.2.1 Ud.2.2.1 Ud.2.2.2.1 Ud.2.2.2.2 k' p p1 p2 p3 p4).bind λUe=>
 ((M.nX Ud.1 Ud.2.1 Ud.2.2.1 Ud.2.2.2.1 Ud.2.2.2.2 k').bind λaB9=>
 (bif aB9 then
 ((idx kC k').bind λaqL=>
 (kZ 5 aqL λaCa aCb aCc aCd aoc=>
 ((jq aCa aCb aCc aCd aoc Ue.1 Ue.2.1 Ue.2.2.1 Ue.2.2.2.1 Ue.2.2.2.2).bind λaCe=>
 (k ((AL aCe)))))) else
 ((idx kC k').bind λaqM=>
 (kZ 5 aqM λaCf aCg aCh aCi aod=>
 ((dF aCf aCg aCh aCi aod Ue.1 Ue.2.1 Ue.2.2.1 Ue.2.2.2.1 Ue.2.2.2.2).bind λaCj=>
 (k ((AL aCj)))))))))
def C.abk{jq:Int->Int->aA->aA->au->Int->Bool->Bool->Bool->Bool->Option (Int×Int×aA×au×Int)}{dF:Int->Int->aA->aA->au->Int->Bool->Bool->Bool->Bool->Option (Int×Int×aA×au×Int)}(NG:S.wH.ok X0 λx=>jq x.1.1.1 x.1.1.2.1 x.1.1.2.2.1 x.1.1.2.2.2.1 x.1.1.2.2.2.2.1 x.1.2.1.1 x.1.2.1.2.1 x.1.2.1.2.2.1 x.1.2.1.2.2.2.1 x.1.2.1.2.2.2.2.1)(DN:S.kW.ok X0 λx=>dF x.1.1.1 x.1.1.2.1 x.1.1.2.2.1 x.1.1.2.2.2.1 x.1.1.2.2.2.2.1 x.1.2.1.1 x.1.2.1.2.1 x.1.2.1.2.2.1 x.1.2.1.2.2.2.1 x.1.2.1.2.2.2.2.1):S.zO.ok X0 λx=>M.Bv jq dF x.1.1.1 x.1.1.2.1 x.1.1.2.2.1 x.1.1.2.2.2.1 x.1.1.2.2.2.2.1 x.1.2.1 x.1.2.2.1.1 x.1.2.2.1.2.1 x.1.2.2.1.2.2.1 x.1.2.2.1.2.2.2.1 x.1.2.2.1.2.2.2.2.1 some:=fnS (λx=>M.Bv jq dF x.1.1.1 x.1.1.2.1 x.1.1.2.2.1 x.1.1.2.2.2.1 x.1.1.2.2.2.2.1 x.1.2.1 x.1.2.2.1.1 x.1.2.2.1.2.1 x.1.2.2.1.2.2.1 x.1.2.2.1.2.2.2.1 x.1.2.2.1.2.2.2.2.1) [fe C.iW,fe C.tZ,fe C.nX,fe NG,fe DN] [] (by intros;simp only[M.Bv,AL,kZ];repeat' first|with_reducible apply iw|with_reducible apply Lh|with_reducible apply Lj|with_reducible apply Ll|with_reducible apply Lm|(intro _)|apply iw|rfl)
def M.Am{R:Type}(tokens c c1:au)(c2:Bool)(k:au×au×Bool->Option R):Option R:=
 bif((c.length+tokens.length) * 32).ble 140737488355328 then
 (bif(c.length+tokens.length).ble 140737488355328 then
 (bif ay (c++tokens) then(bif ay c1 then(k ((c++tokens,c1,c2))) else none) else none) else none) else none
def M.aP(tokens c c1:au)(c2:Bool):Option (au×au×Bool):=M.Am tokens c c1 c2 some
def C.aP:S.aP.ok X0 λx=>M.aP x.1.2.1 x.2.1.1 x.2.1.2.1 x.2.1.2.2.1:=fnS (λx=>M.Am x.1.2.1 x.2.1.1 x.2.1.2.1 x.2.1.2.2.1) [] [] (by intros;unfold M.Am;repeat' first|with_reducible apply iw|with_reducible apply Lh|with_reducible apply Lj|with_reducible apply Ll|with_reducible apply Lm|(intro _)|apply iw|rfl)
def M.Oq{R:Type}(kind:Int)(k:Int×aA×Int->Option R):Option R:=
 (M.fD kind).bind λaCk=>(k ((kind,aCk,0)))
def M.gJ(kind:Int):Option (Int×aA×Int):=M.Oq kind some
def C.gJ:S.gJ.ok X0 λx=>M.gJ x.1.1:=fnS (λx=>M.Oq x.1.1) [fe C.fD] [] (by intros;simp only[M.Oq,nb]<;>rfl)
def M.lU{R:Type}(aJ:Int->Int->aA->aA->au->Int->Int->Bool->Bool->Bool->Bool->au->au->Bool->Option (au×au×Bool))(shut v18 x' BG:Int)(Dk ER:aA)(Fb:au)(PV:Int)(U9 x'7 x'8 x'9:Bool)(s:Int×Bool×au×au)(kn:Int×Bool×au×au->Option R)(ke:Int×Bool×au×au->Option R):Option R:=match s with
 |(v19,v,aoe,aof)=>
 bif decide (v19<v18) then
 (bif decide (v19>0) then
 ((M.gJ 36).bind λaog=>
 (bif ay aoe then
 (bif ay aof then
 ((M.aP ([[D.int .i64 aog.1,D.str aog.2.1,D.int .i64 aog.2.2]]) aoe aof v).bind λafX=>
 (bif ay afX.1 then
 (bif ay afX.2.1 then
 ((aJ x' BG Dk ER Fb v19 PV U9 x'7 x'8 x'9 afX.1 afX.2.1 afX.2.2).bind λaoh=>(kn ((i64.wrap (v19+1),aoh.2.2,aoh.1,aoh.2.1)))) else none) else none)) else none) else none)) else
 (bif ay aoe then
 (bif ay aof then
 ((aJ x' BG Dk ER Fb v19 PV U9 x'7 x'8 x'9 aoe aof v).bind λaoi=>(kn ((i64.wrap (v19+1),aoi.2.2,aoi.1,aoi.2.1)))) else none) else none)) else(ke ((v19,v,aoe,aof)))
def M.lV(aJ:Int->Int->aA->aA->au->Int->Int->Bool->Bool->Bool->Bool->au->au->Bool->Option (au×au×Bool))(shut v18 x' BG:Int)(Dk ER:aA)(Fb:au)(PV:Int)(U9 x'7 x'8 x'9:Bool)(s:Int×Bool×au×au):=M.lU aJ shut v18 x' BG Dk ER Fb PV U9 x'7 x'8 x'9 s (λs=>some (Sum.inl s)) λt=>some (Sum.inr t)
def M.jB(aJ:Int->Int->aA->aA->au->Int->Int->Bool->Bool->Bool->Bool->au->au->Bool->Option (au×au×Bool))(shut v18 x' BG:Int)(Dk ER:aA)(Fb:au)(PV:Int)(U9 x'7 x'8 x'9:Bool)(s:Int×Bool×au×au):Option (Int×Bool×au×au):=eF (M.lV aJ shut v18 x' BG Dk ER Fb PV U9 x'7 x'8 x'9) s
def F.jB{aJ:Int->Int->aA->aA->au->Int->Int->Bool->Bool->Bool->Bool->au->au->Bool->Option (au×au×Bool)}(uQ:S.iM.ok X0 λx=>aJ x.1.2.1.1 x.1.2.1.2.1 x.1.2.1.2.2.1 x.1.2.1.2.2.2.1 x.1.2.1.2.2.2.2.1 x.1.2.2.1 x.1.2.2.2.1.1 x.1.2.2.2.1.2.1 x.1.2.2.2.1.2.2.1 x.1.2.2.2.1.2.2.2.1 x.1.2.2.2.1.2.2.2.2.1 x.2.1.1 x.2.1.2.1 x.2.1.2.2.1):LE X0 279:=le 3 (GN [dG 0 (pP 100000 0),dG 3 pI,dG 6 (pP 300000 0),dG 9 (pP 300001 0),dG 18 pI,dG 19 pI] [dG 100000 (cB 211 [pO 300002 0,pO 300003 0,pB]),dG 300000 (cB 75 [pI,pI,pS,pS,pL false 5]),dG 300001 (cB 70 [pI,pB,pB,pB,pB]),dG 300002 (cA false true 0 3),dG 300003 (cA false true 0 2)]) (λx=>(x.1.2.2.2.2.2.1,x.2.1.2.2.1,x.2.2.2.2.1,x.2.2.2.2.2.1)) (λx s=>(((),x.1.2.1,(),(),x.1.2.2.2.2.1,s.1,()),(((),(),s.2.1,()),(x.2.2.1.1,x.2.2.1.2.1,x.2.2.1.2.2.1,x.2.2.1.2.2.2.1,x.2.2.1.2.2.2.2.1,()),(x.2.2.2.1.1,x.2.2.2.1.2.1,x.2.2.2.1.2.2.1,x.2.2.2.1.2.2.2.1,x.2.2.2.1.2.2.2.2.1,()),s.2.2.1,s.2.2.2,()))) (λx=> .leaf (Int×Bool×au×au) (λt=>(Ex.exit 0,{tm:=[(0,V.ptr 100000 0),(3,V.d (D.int .i64 x.1.2.1)),(6,V.ptr 300000 0),(9,V.ptr 300001 0),(18,V.d (D.int .i64 x.1.2.2.2.2.1)),(19,V.d (D.int .i64 t.1)),(20,V.d (D.bool false))],mem:=[(100000,Cell.box 211 [V.own 300002 0,V.own 300003 0,V.d (D.bool t.2.1)]),(300000,Cell.box 75 [V.d (D.int .i64 x.2.2.1.1),V.d (D.int .i64 x.2.2.1.2.1),V.d (D.str x.2.2.1.2.2.1),V.d (D.str x.2.2.1.2.2.2.1),V.d (D.sl false 5 x.2.2.1.2.2.2.2.1)]),(300001,Cell.box 70 [V.d (D.int .i64 x.2.2.2.1.1),V.d (D.bool x.2.2.2.1.2.1),V.d (D.bool x.2.2.2.1.2.2.1),V.d (D.bool x.2.2.2.1.2.2.2.1),V.d (D.bool x.2.2.2.1.2.2.2.2.1)]),(300002,Cell.arr false true 0 3 t.2.2.1),(300003,Cell.arr false true 0 2 t.2.2.2)]}))) (λx=>M.lU aJ x.1.2.1 x.1.2.2.2.2.1 x.2.2.1.1 x.2.2.1.2.1 x.2.2.1.2.2.1 x.2.2.1.2.2.2.1 x.2.2.1.2.2.2.2.1 x.2.2.2.1.1 x.2.2.2.1.2.1 x.2.2.2.1.2.2.1 x.2.2.2.1.2.2.2.1 x.2.2.2.1.2.2.2.2.1) [fe C.gJ,fe C.aP,fe uQ] [] (by rintro _ _ ⟨_,_,_,_⟩ _ _<;>unfold M.lU<;>repeat' first|with_reducible apply iw|with_reducible apply Lh|with_reducible apply Lj|with_reducible apply Ll|with_reducible apply Lm|(intro _)|apply iw|rfl)
def M.oM{R:Type}(aJ:Int->Int->aA->aA->au->Int->Int->Bool->Bool->Bool->Bool->au->au->Bool->Option (au×au×Bool))(t' gX:Int)(je lq:aA)(kC:au)(open' shut p:Int)(p1 p2 p3 p4:Bool)(c c1:au)(c2:Bool)(k:au×au×Bool->Option R):Option R:=
 (M.gJ open').bind λaoj=>
 (bif ay c then
 (bif ay c1 then
 ((M.aP ([[D.int .i64 aoj.1,D.str aoj.2.1,D.int .i64 aoj.2.2]]) c c1 c2).bind λaok=>
 ((M.jB aJ shut ((↑kC.length:Int)) t' gX je lq kC p p1 p2 p3 p4 ((0,aok.2.2,aok.1,aok.2.1))).bind λafY=>
 ((M.gJ shut).bind λaol=>
 (bif ay afY.2.2.1 then
 (bif ay afY.2.2.2 then
 ((M.aP ([[D.int .i64 aol.1,D.str aol.2.1,D.int .i64 aol.2.2]]) afY.2.2.1 afY.2.2.2 afY.2.1).bind λafZ=>
 (bif ay afZ.1 then(bif ay afZ.2.1 then(k ((afZ.1,afZ.2.1,afZ.2.2))) else none) else none)) else none) else none)))) else none) else none)
def C.RI{aJ:Int->Int->aA->aA->au->Int->Int->Bool->Bool->Bool->Bool->au->au->Bool->Option (au×au×Bool)}(uQ:S.iM.ok X0 λx=>aJ x.1.2.1.1 x.1.2.1.2.1 x.1.2.1.2.2.1 x.1.2.1.2.2.2.1 x.1.2.1.2.2.2.2.1 x.1.2.2.1 x.1.2.2.2.1.1 x.1.2.2.2.1.2.1 x.1.2.2.2.1.2.2.1 x.1.2.2.2.1.2.2.2.1 x.1.2.2.2.1.2.2.2.2.1 x.2.1.1 x.2.1.2.1 x.2.1.2.2.1):S.mg.ok X0 λx=>M.oM aJ x.1.2.1.1 x.1.2.1.2.1 x.1.2.1.2.2.1 x.1.2.1.2.2.2.1 x.1.2.1.2.2.2.2.1 x.1.2.2.1 x.1.2.2.2.1 x.1.2.2.2.2.1.1 x.1.2.2.2.2.1.2.1 x.1.2.2.2.2.1.2.2.1 x.1.2.2.2.2.1.2.2.2.1 x.1.2.2.2.2.1.2.2.2.2.1 x.2.1.1 x.2.1.2.1 x.2.1.2.2.1 some:=fnS (λx=>M.oM aJ x.1.2.1.1 x.1.2.1.2.1 x.1.2.1.2.2.1 x.1.2.1.2.2.2.1 x.1.2.1.2.2.2.2.1 x.1.2.2.1 x.1.2.2.2.1 x.1.2.2.2.2.1.1 x.1.2.2.2.2.1.2.1 x.1.2.2.2.2.1.2.2.1 x.1.2.2.2.2.1.2.2.2.1 x.1.2.2.2.2.1.2.2.2.2.1 x.2.1.1 x.2.1.2.1 x.2.1.2.2.1) [fe C.gJ,fe C.aP] [F.jB uQ] (by intros;unfold M.oM;repeat' first|with_reducible apply iw|with_reducible apply Lh|with_reducible apply Lj|with_reducible apply Ll|with_reducible apply Lm|(intro _)|apply iw|rfl)
def M.cO{R:Type}(aJ:Int->Int->aA->aA->au->Int->Int->Bool->Bool->Bool->Bool->au->au->Bool->Option (au×au×Bool))(dX:Int->Int->aA->aA->au->Int->Int->Int->Bool->Bool->Bool->Bool->au->au->Bool->Option (au×au×Bool))(t' gX:Int)(je lq:aA)(kC:au)(p:Int)(p1 p2 p3 p4:Bool)(c c1:au)(c2:Bool)(k:au×au×Bool->Option R):Option R:=
 bif t'==9 then
 ((M.gJ gX).bind λaom=>
 (bif ay c then
 (bif ay c1 then
 ((M.aP ([[D.int .i64 aom.1,D.str aom.2.1,D.int .i64 aom.2.2]]) c c1 c2).bind λaf0=>
 (bif ay af0.1 then
 (bif ay af0.2.1 then
 ((aJ t' gX je lq kC 0 p p1 p2 p3 p4 af0.1 af0.2.1 af0.2.2).bind λaf4=>
 (bif ay af4.1 then(bif ay af4.2.1 then(k ((af4.1,af4.2.1,af4.2.2))) else none) else none)) else none) else none)) else none) else none)) else
 (bif t'==11 then
 ((M.gJ gX).bind λaon=>
 (bif ay c then
 (bif ay c1 then
 ((M.aP ([[D.int .i64 aon.1,D.str aon.2.1,D.int .i64 aon.2.2]]) c c1 c2).bind λaf5=>
 (bif ay af5.1 then
 (bif ay af5.2.1 then
 ((aJ t' gX je lq kC 0 p p1 p2 p3 p4 af5.1 af5.2.1 af5.2.2).bind λaf6=>
 (bif ay af6.1 then(bif ay af6.2.1 then(k ((af6.1,af6.2.1,af6.2.2))) else none) else none)) else none) else none)) else none) else none)) else
 (bif t'==6 then
 ((M.gJ 68).bind λaoo=>
 (bif ay c then
 (bif ay c1 then
 ((M.aP ([[D.int .i64 aoo.1,D.str aoo.2.1,D.int .i64 aoo.2.2]]) c c1 c2).bind λaf7=>
 (bif ay af7.1 then
 (bif ay af7.2.1 then
 ((aJ t' gX je lq kC 0 p p1 p2 p3 p4 af7.1 af7.2.1 af7.2.2).bind λaf8=>
 (bif ay af8.1 then(bif ay af8.2.1 then(k ((af8.1,af8.2.1,af8.2.2))) else none) else none)) else none) else none)) else none) else none)) else
 (bif t'==10 then
 (bif ay c then
 (bif ay c1 then
 ((aJ t' gX je lq kC 0 p p1 p2 p3 p4 c c1 c2).bind λaf9=>
 ((M.gJ gX).bind λaop=>
 (bif ay af9.1 then
 (bif ay af9.2.1 then
 ((M.aP ([[D.int .i64 aop.1,D.str aop.2.1,D.int .i64 aop.2.2]]) af9.1 af9.2.1 af9.2.2).bind λaga=>
 (bif ay aga.1 then(bif ay aga.2.1 then(k ((aga.1,aga.2.1,aga.2.2))) else none) else none)) else none) else none))) else none) else none) else
 (bif t'==13 then
 (bif decide ((↑kC.length:Int)>1) then
 (bif ay c then
 (bif ay c1 then
 ((dX t' gX je lq kC 32 33 p p1 p2 p3 p4 c c1 c2).bind λagb=>
 ((M.gJ 24).bind λaoq=>
 (bif ay agb.1 then
 (bif ay agb.2.1 then
 ((M.aP ([[D.int .i64 aoq.1,D.str aoq.2.1,D.int .i64 aoq.2.2],[D.int .i64 6,D.str je,D.int .i64 0]]) agb.1 agb.2.1 agb.2.2).bind λagc=>
 (bif ay agc.1 then(bif ay agc.2.1 then(k ((agc.1,agc.2.1,agc.2.2))) else none) else none)) else none) else none))) else none) else none) else
 (bif ay c then
 (bif ay c1 then
 ((aJ t' gX je lq kC 0 p p1 p2 p3 p4 c c1 c2).bind λagd=>
 ((M.gJ 24).bind λaor=>
 (bif ay agd.1 then
 (bif ay agd.2.1 then
 ((M.aP ([[D.int .i64 aor.1,D.str aor.2.1,D.int .i64 aor.2.2],[D.int .i64 6,D.str je,D.int .i64 0]]) agd.1 agd.2.1 agd.2.2).bind λagf=>
 (bif ay agf.1 then(bif ay agf.2.1 then(k ((agf.1,agf.2.1,agf.2.2))) else none) else none)) else none) else none))) else none) else none)) else
 (bif t'==14 then
 (bif ay c then
 (bif ay c1 then
 ((aJ t' gX je lq kC 0 p p1 p2 p3 p4 c c1 c2).bind λagh=>
 ((M.gJ 65).bind λaos=>
 (bif ay agh.1 then
 (bif ay agh.2.1 then
 ((M.aP ([[D.int .i64 aos.1,D.str aos.2.1,D.int .i64 aos.2.2]]) agh.1 agh.2.1 agh.2.2).bind λagi=>
 (bif ay agi.1 then
 (bif ay agi.2.1 then
 ((aJ t' gX je lq kC 1 p p1 p2 p3 p4 agi.1 agi.2.1 agi.2.2).bind λagj=>
 ((M.gJ 66).bind λaot=>
 (bif ay agj.1 then
 (bif ay agj.2.1 then
 ((M.aP ([[D.int .i64 aot.1,D.str aot.2.1,D.int .i64 aot.2.2]]) agj.1 agj.2.1 agj.2.2).bind λagk=>
 (bif ay agk.1 then
 (bif ay agk.2.1 then
 ((aJ t' gX je lq kC 2 p p1 p2 p3 p4 agk.1 agk.2.1 agk.2.2).bind λagl=>
 (bif ay agl.1 then(bif ay agl.2.1 then(k ((agl.1,agl.2.1,agl.2.2))) else none) else none)) else none) else none)) else none) else none))) else none) else none)) else none) else none))) else none) else none) else
 (bif ay c then
 (bif ay c1 then
 ((aJ t' gX je lq kC 0 p p1 p2 p3 p4 c c1 c2).bind λUf=>
 (bif gX !=99 then
 ((M.gJ gX).bind λaou=>
 (bif ay Uf.1 then
 (bif ay Uf.2.1 then
 ((M.aP ([[D.int .i64 aou.1,D.str aou.2.1,D.int .i64 aou.2.2]]) Uf.1 Uf.2.1 Uf.2.2).bind λagm=>
 (bif ay agm.1 then
 (bif ay agm.2.1 then
 ((aJ t' gX je lq kC 1 p p1 p2 p3 p4 agm.1 agm.2.1 agm.2.2).bind λagn=>
 (bif ay agn.1 then(bif ay agn.2.1 then(k ((agn.1,agn.2.1,agn.2.2))) else none) else none)) else none) else none)) else none) else none)) else
 (bif ay Uf.1 then
 (bif ay Uf.2.1 then
 ((aJ t' gX je lq kC 1 p p1 p2 p3 p4 Uf.1 Uf.2.1 Uf.2.2).bind λagp=>
 (bif ay agp.1 then(bif ay agp.2.1 then(k ((agp.1,agp.2.1,agp.2.2))) else none) else none)) else none) else none))) else none) else none))))))
def C.OG{aJ:Int->Int->aA->aA->au->Int->Int->Bool->Bool->Bool->Bool->au->au->Bool->Option (au×au×Bool)}{dX:Int->Int->aA->aA->au->Int->Int->Int->Bool->Bool->Bool->Bool->au->au->Bool->Option (au×au×Bool)}(uQ:S.iM.ok X0 λx=>aJ x.1.2.1.1 x.1.2.1.2.1 x.1.2.1.2.2.1 x.1.2.1.2.2.2.1 x.1.2.1.2.2.2.2.1 x.1.2.2.1 x.1.2.2.2.1.1 x.1.2.2.2.1.2.1 x.1.2.2.2.1.2.2.1 x.1.2.2.2.1.2.2.2.1 x.1.2.2.2.1.2.2.2.2.1 x.2.1.1 x.2.1.2.1 x.2.1.2.2.1)(EW:S.mg.ok X0 λx=>dX x.1.2.1.1 x.1.2.1.2.1 x.1.2.1.2.2.1 x.1.2.1.2.2.2.1 x.1.2.1.2.2.2.2.1 x.1.2.2.1 x.1.2.2.2.1 x.1.2.2.2.2.1.1 x.1.2.2.2.2.1.2.1 x.1.2.2.2.2.1.2.2.1 x.1.2.2.2.2.1.2.2.2.1 x.1.2.2.2.2.1.2.2.2.2.1 x.2.1.1 x.2.1.2.1 x.2.1.2.2.1):S.kT.ok X0 λx=>M.cO aJ dX x.1.2.1.1 x.1.2.1.2.1 x.1.2.1.2.2.1 x.1.2.1.2.2.2.1 x.1.2.1.2.2.2.2.1 x.1.2.2.1.1 x.1.2.2.1.2.1 x.1.2.2.1.2.2.1 x.1.2.2.1.2.2.2.1 x.1.2.2.1.2.2.2.2.1 x.2.1.1 x.2.1.2.1 x.2.1.2.2.1 some:=fnS (λx=>M.cO aJ dX x.1.2.1.1 x.1.2.1.2.1 x.1.2.1.2.2.1 x.1.2.1.2.2.2.1 x.1.2.1.2.2.2.2.1 x.1.2.2.1.1 x.1.2.2.1.2.1 x.1.2.2.1.2.2.1 x.1.2.2.1.2.2.2.1 x.1.2.2.1.2.2.2.2.1 x.2.1.1 x.2.1.2.1 x.2.1.2.2.1) [fe C.gJ,fe C.aP,fe uQ,fe EW] [] (by intros;unfold M.cO;repeat' first|with_reducible apply iw|with_reducible apply Lh|with_reducible apply Lj|with_reducible apply Ll|with_reducible apply Lm|(intro _)|apply iw|rfl)
def M.fG{R:Type}(dX:Int->Int->aA->aA->au->Int->Int->Int->Bool->Bool->Bool->Bool->au->au->Bool->Option (au×au×Bool))(lX:Int->Int->aA->aA->au->Int->Bool->Bool->Bool->Bool->au->au->Bool->Option (au×au×Bool))(t' gX:Int)(je lq:aA)(kC:au)(p:Int)(p1 p2 p3 p4:Bool)(c c1:au)(c2:Bool)(k:au×au×Bool->Option R):Option R:=
 bif t'==1 then
 (bif ay c then
 (bif ay c1 then
 ((M.aP ([[D.int .i64 6,D.str je,D.int .i64 0]]) c c1 c2).bind λagq=>
 (iV agq.2.1 [[D.int .i64 (↑c.length:Int),D.int .i64 (↑agq.1.length:Int)]] 16 λza=>(bif ay agq.1 then
 (bif ay za then
 (k ((agq.1,za,agq.2.2))) else none) else none))) else none) else none) else
 (bif t'==2 then
 (bif ay c then
 (bif ay c1 then
 ((M.aP ([[D.int .i64 3,D.str je,D.int .i64 0]]) c c1 c2).bind λagr=>
 (iV agr.2.1 [[D.int .i64 (↑c.length:Int),D.int .i64 (↑agr.1.length:Int)]] 16 λza=>(bif ay agr.1 then
 (bif ay za then
 (k ((agr.1,za,agr.2.2))) else none) else none))) else none) else none) else
 (bif t'==3 then
 (bif ay c then
 (bif ay c1 then
 ((M.aP ([[D.int .i64 4,D.str je,D.int .i64 0]]) c c1 c2).bind λags=>
 (iV ags.2.1 [[D.int .i64 (↑c.length:Int),D.int .i64 (↑ags.1.length:Int)]] 16 λza=>(bif ay ags.1 then
 (bif ay za then
 (k ((ags.1,za,ags.2.2))) else none) else none))) else none) else none) else
 (bif t'==4 then
 (bif ay c then
 (bif ay c1 then
 ((M.aP ([[D.int .i64 5,D.str je,D.int .i64 0]]) c c1 c2).bind λagt=>
 (iV agt.2.1 [[D.int .i64 (↑c.length:Int),D.int .i64 (↑agt.1.length:Int)]] 16 λza=>(bif ay agt.1 then
 (bif ay za then
 (k ((agt.1,za,agt.2.2))) else none) else none))) else none) else none) else
 (bif t'==5 then
 (bif ay c then
 (bif ay c1 then
 ((M.aP ([[D.int .i64 6,D.str je,D.int .i64 0]]) c c1 c2).bind λagu=>
 (bif ay agu.1 then
 (bif ay agu.2.1 then
 ((dX t' gX je lq kC 34 35 p p1 p2 p3 p4 agu.1 agu.2.1 agu.2.2).bind λagv=>
 (iV agv.2.1 [[D.int .i64 (↑c.length:Int),D.int .i64 (↑agv.1.length:Int)]] 16 λza=>(bif ay agv.1 then
 (bif ay za then
 (k ((agv.1,za,agv.2.2))) else none) else none))) else none) else none)) else none) else none) else
 (bif t'==7 then
 (bif ay c then
 (bif ay c1 then
 ((M.aP ([[D.int .i64 7,D.str je,D.int .i64 0]]) c c1 c2).bind λagw=>
 (bif ay agw.1 then
 (bif ay agw.2.1 then
 ((dX t' gX je lq kC 32 33 p p1 p2 p3 p4 agw.1 agw.2.1 agw.2.2).bind λagx=>
 (iV agx.2.1 [[D.int .i64 (↑c.length:Int),D.int .i64 (↑agx.1.length:Int)]] 16 λza=>(bif ay agx.1 then
 (bif ay za then
 (k ((agx.1,za,agx.2.2))) else none) else none))) else none) else none)) else none) else none) else
 (bif t'==8 then
 (bif ay c then
 (bif ay c1 then
 ((M.aP ([[D.int .i64 8,D.str je,D.int .i64 0]]) c c1 c2).bind λagy=>
 (bif ay agy.1 then
 (bif ay agy.2.1 then
 ((dX t' gX je lq kC 32 33 p p1 p2 p3 p4 agy.1 agy.2.1 agy.2.2).bind λagz=>
 (iV agz.2.1 [[D.int .i64 (↑c.length:Int),D.int .i64 (↑agz.1.length:Int)]] 16 λza=>(bif ay agz.1 then
 (bif ay za then
 (k ((agz.1,za,agz.2.2))) else none) else none))) else none) else none)) else none) else none) else
 (bif ay c then
 (bif ay c1 then
 ((lX t' gX je lq kC p p1 p2 p3 p4 c c1 c2).bind λagA=>
 (iV agA.2.1 [[D.int .i64 (↑c.length:Int),D.int .i64 (↑agA.1.length:Int)]] 16 λza=>(bif ay agA.1 then
 (bif ay za then
 (k ((agA.1,za,agA.2.2))) else none) else none))) else none) else none)))))))
def C.RJ{dX:Int->Int->aA->aA->au->Int->Int->Int->Bool->Bool->Bool->Bool->au->au->Bool->Option (au×au×Bool)}{lX:Int->Int->aA->aA->au->Int->Bool->Bool->Bool->Bool->au->au->Bool->Option (au×au×Bool)}(EW:S.mg.ok X0 λx=>dX x.1.2.1.1 x.1.2.1.2.1 x.1.2.1.2.2.1 x.1.2.1.2.2.2.1 x.1.2.1.2.2.2.2.1 x.1.2.2.1 x.1.2.2.2.1 x.1.2.2.2.2.1.1 x.1.2.2.2.2.1.2.1 x.1.2.2.2.2.1.2.2.1 x.1.2.2.2.2.1.2.2.2.1 x.1.2.2.2.2.1.2.2.2.2.1 x.2.1.1 x.2.1.2.1 x.2.1.2.2.1)(PD:S.kT.ok X0 λx=>lX x.1.2.1.1 x.1.2.1.2.1 x.1.2.1.2.2.1 x.1.2.1.2.2.2.1 x.1.2.1.2.2.2.2.1 x.1.2.2.1.1 x.1.2.2.1.2.1 x.1.2.2.1.2.2.1 x.1.2.2.1.2.2.2.1 x.1.2.2.1.2.2.2.2.1 x.2.1.1 x.2.1.2.1 x.2.1.2.2.1):S.mD.ok X0 λx=>M.fG dX lX x.1.2.1.1 x.1.2.1.2.1 x.1.2.1.2.2.1 x.1.2.1.2.2.2.1 x.1.2.1.2.2.2.2.1 x.1.2.2.1.1 x.1.2.2.1.2.1 x.1.2.2.1.2.2.1 x.1.2.2.1.2.2.2.1 x.1.2.2.1.2.2.2.2.1 x.2.1.1 x.2.1.2.1 x.2.1.2.2.1 some:=fnS (λx=>M.fG dX lX x.1.2.1.1 x.1.2.1.2.1 x.1.2.1.2.2.1 x.1.2.1.2.2.2.1 x.1.2.1.2.2.2.2.1 x.1.2.2.1.1 x.1.2.2.1.2.1 x.1.2.2.1.2.2.1 x.1.2.2.1.2.2.2.1 x.1.2.2.1.2.2.2.2.1 x.2.1.1 x.2.1.2.1 x.2.1.2.2.1) [fe C.aP,fe EW,fe PD] [] (by intros;simp only[M.fG,iV];repeat' first|with_reducible apply iw|with_reducible apply Lh|with_reducible apply Lj|with_reducible apply Ll|with_reducible apply Lm|(intro _)|apply iw|rfl)
end
end Go.Proofs.YtbgadfelmhoheaaGreatDoor
