import Derived.Test.YtbpldgeajbfgnaaGreatDoorPForms
set_option linter.defProp false
namespace Go.Proofs.YtbpldgeajbfgnaaGreatDoor
open Go Go.Vm
open Go.IntKind (i64)
set_option linter.unusedVariables false
set_option linter.unusedSimpArgs false
noncomputable section
def M.lM:Nat->(au->Bool->Int->Int->Bool->Bool->Bool->Bool->Option (au))×(au->Bool->au->Option (au))×(au->Bool->Int->aC->Int->au->Int->Option (au))×(au->Bool->Int->Option (au))×(au->Bool->Int->Int->aC->aC->au->Int->Bool->Bool->Bool->Bool->Option (au))×(au->Bool->Int->Int->Bool->Bool->Bool->Bool->Option (au)):=
 Nat.rec (λ_ _ _ _ _ _ _ _=>none,λ_ _ _=>none,λ_ _ _ _ _ _ _=>none,λ_ _ _=>none,λ_ _ _ _ _ _ _ _ _ _ _ _=>none,λ_ _ _ _ _ _ _ _=>none) λ_ qz=>(λw w1 i p p1 p2 p3 p4=>M.Fp qz.2.2.2.2.2 w w1 i p p1 p2 p3 p4 some,λw w1 kids=>M.zN qz.1 w w1 kids some,λw w1 t' gW iG kids open'=>M.wX qz.2.1 w w1 t' gW iG kids open' some,λw w1 i=>M.vI qz.2.2.2.2.2 w w1 i some,λw w1 n' gX jf iP iM p p1 p2 p3 p4=>M.qK qz.1 w w1 n' gX jf iP iM p p1 p2 p3 p4 some,λw w1 i p p1 p2 p3 p4=>M.gQ qz.2.2.1 qz.2.2.2.1 qz.1 qz.2.1 qz.2.2.2.2.1 w w1 i p p1 p2 p3 p4 some)
def M.rX(n:Nat):au->Bool->Int->Int->Bool->Bool->Bool->Bool->Option (au):=(M.lM n).1
def M.zO(n:Nat):au->Bool->au->Option (au):=(M.lM n).2.1
def M.CS(n:Nat):au->Bool->Int->aC->Int->au->Int->Option (au):=(M.lM n).2.2.1
def M.zQ(n:Nat):au->Bool->Int->Option (au):=(M.lM n).2.2.2.1
def M.CU(n:Nat):au->Bool->Int->Int->aC->aC->au->Int->Bool->Bool->Bool->Bool->Option (au):=(M.lM n).2.2.2.2.1
def M.zS(n:Nat):au->Bool->Int->Int->Bool->Bool->Bool->Bool->Option (au):=(M.lM n).2.2.2.2.2
def M.afp(n:Nat):M.rX (n+1)=λw w1 i p p1 p2 p3 p4=>M.Fp (M.zS n) w w1 i p p1 p2 p3 p4 some:=rfl
def M.abz(n:Nat):M.zO (n+1)=λw w1 kids=>M.zN (M.rX n) w w1 kids some:=rfl
def M.Zy(n:Nat):M.CS (n+1)=λw w1 t' gW iG kids open'=>M.wX (M.zO n) w w1 t' gW iG kids open' some:=rfl
def M.X5(n:Nat):M.zQ (n+1)=λw w1 i=>M.vI (M.zS n) w w1 i some:=rfl
def M.Zz(n:Nat):M.CU (n+1)=λw w1 n' gX jf iP iM p p1 p2 p3 p4=>M.qK (M.rX n) w w1 n' gX jf iP iM p p1 p2 p3 p4 some:=rfl
def M.abA(n:Nat):M.zS (n+1)=λw w1 i p p1 p2 p3 p4=>M.gQ (M.CS n) (M.zQ n) (M.rX n) (M.zO n) (M.CU n) w w1 i p p1 p2 p3 p4 some:=rfl
def M.pV(w:au)(w1:Bool)(i p:Int)(p1 p2 p3 p4:Bool):Option (au):=lim λn=>M.rX n w w1 i p p1 p2 p3 p4
def M.xH(w:au)(w1:Bool)(kids:au):Option (au):=lim λn=>M.zO n w w1 kids
def M.yX(w:au)(w1:Bool)(t':Int)(gW:aC)(iG:Int)(kids:au)(open':Int):Option (au):=lim λn=>M.CS n w w1 t' gW iG kids open'
def M.vN(w:au)(w1:Bool)(i:Int):Option (au):=lim λn=>M.zQ n w w1 i
def M.yY(w:au)(w1:Bool)(n' gX:Int)(jf iP:aC)(iM:au)(p:Int)(p1 p2 p3 p4:Bool):Option (au):=lim λn=>M.CU n w w1 n' gX jf iP iM p p1 p2 p3 p4
def M.xI(w:au)(w1:Bool)(i p:Int)(p1 p2 p3 p4:Bool):Option (au):=lim λn=>M.zS n w w1 i p p1 p2 p3 p4
def C.lM:∀n,(S.pV.ok X0 λx=>M.rX n x.1.1.1 x.1.1.2.1 x.1.2.1 x.1.2.2.1.1 x.1.2.2.1.2.1 x.1.2.2.1.2.2.1 x.1.2.2.1.2.2.2.1 x.1.2.2.1.2.2.2.2.1)∧(S.xH.ok X0 λx=>M.zO n x.1.1.1 x.1.1.2.1 x.1.2.1)∧(S.yX.ok X0 λx=>M.CS n x.1.1.1 x.1.1.2.1 x.1.2.1.1 x.1.2.1.2.1 x.1.2.1.2.2.1 x.1.2.2.1 x.1.2.2.2.1)∧(S.vN.ok X0 λx=>M.zQ n x.1.1.1 x.1.1.2.1 x.1.2.1)∧(S.yY.ok X0 λx=>M.CU n x.1.1.1 x.1.1.2.1 x.1.2.1.1 x.1.2.1.2.1 x.1.2.1.2.2.1 x.1.2.1.2.2.2.1 x.1.2.1.2.2.2.2.1 x.1.2.2.1.1 x.1.2.2.1.2.1 x.1.2.2.1.2.2.1 x.1.2.2.1.2.2.2.1 x.1.2.2.1.2.2.2.2.1)∧(S.xI.ok X0 λx=>M.zS n x.1.1.1 x.1.1.2.1 x.1.2.1 x.1.2.2.1.1 x.1.2.2.1.2.1 x.1.2.2.1.2.2.1 x.1.2.2.1.2.2.2.1 x.1.2.2.1.2.2.2.2.1)
 |0=>⟨fK.zero,fK.zero,fK.zero,fK.zero,fK.zero,fK.zero⟩
 |n+1=>have h:=C.lM n;⟨C.adi h.2.2.2.2.2,C.Zu h.1,C.XZ h.2.1,C.WW h.2.2.2.2.2,C.X3 h.1,C.Zv h.2.2.1 h.2.2.2.1 h.1 h.2.1 h.2.2.2.2.1⟩
def C.pV:S.pV.ok X0 λx=>M.pV x.1.1.1 x.1.1.2.1 x.1.2.1 x.1.2.2.1.1 x.1.2.2.1.2.1 x.1.2.2.1.2.2.1 x.1.2.2.1.2.2.2.1 x.1.2.2.1.2.2.2.2.1:=fK.lim λn=>(C.lM n).1
def M.adk{n:Nat}{w:au}{w1:Bool}{i p:Int}{p1 p2 p3 p4:Bool}{r:au}(h:M.rX n w w1 i p p1 p2 p3 p4=some r):M.pV w w1 i p p1 p2 p3 p4=some r:=
 fK.Em (λn=>(C.lM n).1) (by intro a b h;simp[S.pV,sg] at h;first|exact h|simp[Prod.ext_iff,h]) (x:=(((w,w1,()),i,(p,p1,p2,p3,p4,()),()),())) h
def C.xH:S.xH.ok X0 λx=>M.xH x.1.1.1 x.1.1.2.1 x.1.2.1:=fK.lim λn=>(C.lM n).2.1
def C.yX:S.yX.ok X0 λx=>M.yX x.1.1.1 x.1.1.2.1 x.1.2.1.1 x.1.2.1.2.1 x.1.2.1.2.2.1 x.1.2.2.1 x.1.2.2.2.1:=fK.lim λn=>(C.lM n).2.2.1
def C.vN:S.vN.ok X0 λx=>M.vN x.1.1.1 x.1.1.2.1 x.1.2.1:=fK.lim λn=>(C.lM n).2.2.2.1
def C.yY:S.yY.ok X0 λx=>M.yY x.1.1.1 x.1.1.2.1 x.1.2.1.1 x.1.2.1.2.1 x.1.2.1.2.2.1 x.1.2.1.2.2.2.1 x.1.2.1.2.2.2.2.1 x.1.2.2.1.1 x.1.2.2.1.2.1 x.1.2.2.1.2.2.1 x.1.2.2.1.2.2.2.1 x.1.2.2.1.2.2.2.2.1:=fK.lim λn=>(C.lM n).2.2.2.2.1
def C.xI:S.xI.ok X0 λx=>M.xI x.1.1.1 x.1.1.2.1 x.1.2.1 x.1.2.2.1.1 x.1.2.2.1.2.1 x.1.2.2.1.2.2.1 x.1.2.2.1.2.2.2.1 x.1.2.2.1.2.2.2.2.1:=fK.lim λn=>(C.lM n).2.2.2.2.2
def M.Ey{R:Type}(s':aC)(at':Int)(x':au)(s:Int×Int×Int)(kn:Int×Int×Int->Option R)(ke:Int×Int×Int->Option R):Option R:=match s with
 |(kind,size,i)=>
 bif decide (i<(↑x'.length:Int)) then
 ((idx x' i).bind λaS3=>
 (x'[i.toNat]?.bind λavy=>
 ((cStr avy 0).bind λard=>
 (bif decide (at'>=0) then
 (bif decide (at'<=(↑s'.length:Int)) then
 (bif decide ((↑ard.length:Int)<=i64.wrap ((↑s'.length:Int) - at')) then
 ((cut s' at' (i64.wrap (at'+(↑ard.length:Int)))).bind λaS4=>
 ((idx x' i).bind λaS5=>
 (x'[i.toNat]?.bind λavz=>
 ((cStr avz 0).bind λaS6=>
 (bif aS4==aS6 then
 (bif decide ((↑ard.length:Int)>size) then(kn ((i64.wrap (30+i),(↑ard.length:Int),i64.wrap (i+1)))) else(kn ((kind,size,i64.wrap (i+1))))) else(kn ((kind,size,i64.wrap (i+1))))))))) else(kn ((kind,size,i64.wrap (i+1))))) else(kn ((kind,size,i64.wrap (i+1))))) else(kn ((kind,size,i64.wrap (i+1)))))))) else(ke ((kind,size,i)))
def M.Oy(s':aC)(at':Int)(x':au)(s:Int×Int×Int):=M.Ey s' at' x' s (λs=>some (Sum.inl s)) λt=>some (Sum.inr t)
def M.NK(s':aC)(at':Int)(x':au)(s:Int×Int×Int):Option (Int×Int×Int):=iT (M.Oy s' at' x') s
def F.NK:LE X0 197:=le 5 (KF [fM 0 pS,fM 1 pI,fM 6 pI,fM 7 pI,fM 8 (pO 300000 0),fM 9 pI] [fM 300000 (cA false true 0 1)]) (λx=>(x.1.2.2.1,x.1.2.2.2.1,x.1.2.2.2.2.2.1)) (λx s=>((x.1.1,x.1.2.1,s.1,s.2.1,(),s.2.2,()),(x.2.1,()))) (λx=> .leaf (Int×Int×Int) (λt=>(Ex.exit 0,{tm:=[(0,V.d (D.str x.1.1)),(1,V.d (D.int .i64 x.1.2.1)),(6,V.d (D.int .i64 t.1)),(7,V.d (D.int .i64 t.2.1)),(8,V.own 300000 0),(9,V.d (D.int .i64 t.2.2)),(15,V.d (D.bool false))],mem:=[(300000,Cell.arr false true 0 1 x.2.1)]}))) (λx=>M.Ey x.1.1 x.1.2.1 x.2.1) [] [] (by rintro _ _ ⟨_,_,_⟩ _ _<;>simp only[M.Ey,nb]<;>rfl)
def M.O4{R:Type}(s':aC)(at':Int)(k:Int×Int->Option R):Option R:=
 M.uK.bind λaS7=>
 ((M.NK s' at' aS7 ((0,0,0))).bind λaBY=>(k ((aBY.1,aBY.2.1))))
def M.qW(s':aC)(at':Int):Option (Int×Int):=M.O4 s' at' some
def C.qW:S.qW.ok X0 λx=>M.qW x.1.1 x.1.2.1:=fnS (λx=>M.O4 x.1.1 x.1.2.1) [fe C.uK] [F.NK] (by intros;simp only[M.O4,nb]<;>rfl)
def M.HY{R:Type}(a:Int)(a1:aC)(a2 b:Int)(b1:aC)(b2:Int)(k:Bool->Option R):Option R:=
 bif a1==[] then(k false) else
 (bif b1==[] then(k false) else
 (bif a==2 then(k false) else
 (bif a==1 then(k false) else
 (bif b==1 then(k false) else
 ((idx b1 0).bind λaoa=>
 ((idx a1 (i64.wrap ((↑a1.length:Int) - 1))).bind λaS8=>
 ((M.kC (i64.wrap (↑aS8.toNat:Int))).bind λaS9=>
 (bif aS9 then
 ((M.kC (i64.wrap (↑aoa.toNat:Int))).bind λaTa=>
 (bif aTa then(k true) else
 (bif a==3 then
 ((M.kC (i64.wrap (↑aoa.toNat:Int))).bind λaTb=>
 (bif aTb then(k true) else
 (bif i64.wrap (↑aoa.toNat:Int)==46 then(k true) else
 (bif a==6 then
 (bif b==32 then(k true) else
 (bif(a1.length+b1.length).ble 9223372036854775807 then
 ((M.qW (a1++b1) 0).bind λaTc=>
 ((M.dR a 30 68).bind λaTd=>(bif aTd then(k (decide (aTc.2>(↑a1.length:Int)))) else(k false)))) else none)) else
 (bif(a1.length+b1.length).ble 9223372036854775807 then
 ((M.qW (a1++b1) 0).bind λaTe=>
 ((M.dR a 30 68).bind λaTf=>(bif aTf then(k (decide (aTe.2>(↑a1.length:Int)))) else(k false)))) else none))))) else
 (bif a==6 then
 (bif b==32 then(k true) else
 (bif(a1.length+b1.length).ble 9223372036854775807 then
 ((M.qW (a1++b1) 0).bind λaTg=>
 ((M.dR a 30 68).bind λaTh=>(bif aTh then(k (decide (aTg.2>(↑a1.length:Int)))) else(k false)))) else none)) else
 (bif(a1.length+b1.length).ble 9223372036854775807 then
 ((M.qW (a1++b1) 0).bind λaTi=>
 ((M.dR a 30 68).bind λaTj=>(bif aTj then(k (decide (aTi.2>(↑a1.length:Int)))) else(k false)))) else none))))) else
 (bif a==3 then
 ((M.kC (i64.wrap (↑aoa.toNat:Int))).bind λaTk=>
 (bif aTk then(k true) else
 (bif i64.wrap (↑aoa.toNat:Int)==46 then(k true) else
 (bif a==6 then
 (bif b==32 then(k true) else
 (bif(a1.length+b1.length).ble 9223372036854775807 then
 ((M.qW (a1++b1) 0).bind λaTl=>
 ((M.dR a 30 68).bind λaTm=>(bif aTm then(k (decide (aTl.2>(↑a1.length:Int)))) else(k false)))) else none)) else
 (bif(a1.length+b1.length).ble 9223372036854775807 then
 ((M.qW (a1++b1) 0).bind λaTn=>
 ((M.dR a 30 68).bind λaTo=>(bif aTo then(k (decide (aTn.2>(↑a1.length:Int)))) else(k false)))) else none))))) else
 (bif a==6 then
 (bif b==32 then(k true) else
 (bif(a1.length+b1.length).ble 9223372036854775807 then
 ((M.qW (a1++b1) 0).bind λaTp=>
 ((M.dR a 30 68).bind λaTq=>(bif aTq then(k (decide (aTp.2>(↑a1.length:Int)))) else(k false)))) else none)) else
 (bif(a1.length+b1.length).ble 9223372036854775807 then
 ((M.qW (a1++b1) 0).bind λaTr=>
 ((M.dR a 30 68).bind λaTs=>(bif aTs then(k (decide (aTr.2>(↑a1.length:Int)))) else(k false)))) else none)))))))))))
def M.rP(a:Int)(a1:aC)(a2 b:Int)(b1:aC)(b2:Int):Option (Bool):=M.HY a a1 a2 b b1 b2 some
def C.rP:S.rP.ok X0 λx=>M.rP x.1.1.1 x.1.1.2.1 x.1.1.2.2.1 x.1.2.1.1 x.1.2.1.2.1 x.1.2.1.2.2.1:=fnS (λx=>M.HY x.1.1.1 x.1.1.2.1 x.1.1.2.2.1 x.1.2.1.1 x.1.2.1.2.1 x.1.2.1.2.2.1) [fe C.kC,fe C.qW,fe C.dR] [] (by intros;unfold M.HY;repeat' first|with_reducible apply gZ|with_reducible apply GV|with_reducible apply GX|with_reducible apply GY|with_reducible apply GZ|(intro _)|apply gZ|rfl)
def M.rY{R:Type}(dH:au->Bool->Int->Int->Bool->Bool->Bool->Bool->Option (au))(w:au)(w1:Bool)(n' gX:Int)(jf iP:aC)(iM:au)(p:Int)(p1 p2 p3 p4:Bool)(k:au->Option R):Option R:=
 (idx iM 0).bind λavA=>
 ((fB .i64 avA 0).bind λaTt=>
 ((M.fH n' gX jf iP iM 0 p p1 p2 p3 p4).bind λaob=>
 ((dH w w1 aTt aob.1 aob.2.1 aob.2.2.1 aob.2.2.2.1 aob.2.2.2.2).bind λarf=>
 ((idx iM 1).bind λavC=>
 ((fB .i64 avC 0).bind λaTu=>
 ((M.fH n' gX jf iP iM 1 p p1 p2 p3 p4).bind λaoc=>
 ((dH w w1 aTu aoc.1 aoc.2.1 aoc.2.2.1 aoc.2.2.2.1 aoc.2.2.2.2).bind λarh=>
 (bif gX==99 then
 ((M.aI [32]).bind λaTv=>
 ((M.aS 6 0 (bM [[D.sl true 4 arf],[D.sl true 4 aTv],[D.sl true 4 arh]])).bind λaBZ=>(bif[[D.sl true 4 aBZ]].all dQ then(k aBZ) else none))) else
 (bif gX==45 then
 ((M.jI gX).bind λaB0=>
 (bif(1+aB0.length).ble 9223372036854775807 then
 ((M.aI ([32]++aB0)).bind λaTw=>
 (M.pU.bind λaTx=>
 ((M.aS 6 0 (bM [[D.sl true 4 arf],[D.sl true 4 aTw],[D.sl true 4 aTx],[D.sl true 4 arh]])).bind λaB1=>
 (bif[[D.sl true 4 aB1]].all dQ then
 ((M.aS 4 4 (bM [[D.sl true 4 aB1]])).bind λaB2=>
 (bif[[D.sl true 4 aB2]].all dQ then
 ((M.aS 5 0 (bM [[D.sl true 4 aB2]])).bind λaB3=>(bif[[D.sl true 4 aB3]].all dQ then(k aB3) else none)) else none)) else none)))) else none)) else
 (bif gX==44 then
 ((M.jI gX).bind λaB4=>
 (bif(1+aB4.length).ble 9223372036854775807 then
 ((M.aI ([32]++aB4)).bind λaTy=>
 (M.pU.bind λaTz=>
 ((M.aS 6 0 (bM [[D.sl true 4 arf],[D.sl true 4 aTy],[D.sl true 4 aTz],[D.sl true 4 arh]])).bind λaB5=>
 (bif[[D.sl true 4 aB5]].all dQ then
 ((M.aS 4 4 (bM [[D.sl true 4 aB5]])).bind λaB6=>
 (bif[[D.sl true 4 aB6]].all dQ then
 ((M.aS 5 0 (bM [[D.sl true 4 aB6]])).bind λaB7=>(bif[[D.sl true 4 aB7]].all dQ then(k aB7) else none)) else none)) else none)))) else none)) else
 ((M.jI gX).bind λavD=>
 (bif(1+avD.length).ble 9223372036854775807 then
 (bif(([32]++avD).length+1).ble 9223372036854775807 then
 ((M.aI ([32]++avD++[32])).bind λaTA=>
 ((M.aS 6 0 (bM [[D.sl true 4 arf],[D.sl true 4 aTA],[D.sl true 4 arh]])).bind λaB8=>(bif[[D.sl true 4 aB8]].all dQ then(k aB8) else none))) else none) else none))))))))))))
def C.abB{dH:au->Bool->Int->Int->Bool->Bool->Bool->Bool->Option (au)}(BI:S.eX.ok X0 λx=>dH x.1.1.1 x.1.1.2.1 x.1.2.1 x.1.2.2.1.1 x.1.2.2.1.2.1 x.1.2.2.1.2.2.1 x.1.2.2.1.2.2.2.1 x.1.2.2.1.2.2.2.2.1):S.Ep.ok X0 λx=>M.rY dH x.1.1.1 x.1.1.2.1 x.1.2.1.1 x.1.2.1.2.1 x.1.2.1.2.2.1 x.1.2.1.2.2.2.1 x.1.2.1.2.2.2.2.1 x.1.2.2.1.1 x.1.2.2.1.2.1 x.1.2.2.1.2.2.1 x.1.2.2.1.2.2.2.1 x.1.2.2.1.2.2.2.2.1 some:=fnS (λx=>M.rY dH x.1.1.1 x.1.1.2.1 x.1.2.1.1 x.1.2.1.2.1 x.1.2.1.2.2.1 x.1.2.1.2.2.2.1 x.1.2.1.2.2.2.2.1 x.1.2.2.1.1 x.1.2.2.1.2.1 x.1.2.2.1.2.2.1 x.1.2.2.1.2.2.2.1 x.1.2.2.1.2.2.2.2.1) [fe C.fH,fe BI,fe C.aI,fe C.aS,fe C.jI,fe C.pU] [] (by intros;unfold M.rY;repeat' first|with_reducible apply gZ|with_reducible apply GV|with_reducible apply GX|with_reducible apply GY|with_reducible apply GZ|(intro _)|apply gZ|rfl)
def M.gU{R:Type}(qh:au->Bool->Int->Int->aC->aC->au->aC->aC->Option (au))(oJ:au->Bool->Int->Option (au))(dH:au->Bool->Int->Int->Bool->Bool->Bool->Bool->Option (au))(lq:au->Bool->au->Int->Bool->Bool->Bool->Bool->Option (au))(CV:au->Bool->Int->Int->aC->aC->au->Int->Bool->Bool->Bool->Bool->Option (au))(w:au)(w1:Bool)(i p:Int)(p1 p2 p3 p4:Bool)(k:au->Option R):Option R:=
 (idx w i).bind λavE=>
 (iK 1 avE λn324 n325 Rq WY mV=>
 ((M.dN n324 n325 Rq WY mV).bind λaB9=>
 (bif aB9.1 !=0 then((M.aI aB9.2.1).bind λaTB=>(k aTB)) else
 (bif n324==5 then((qh w w1 n324 n325 Rq WY mV [91] [93]).bind λaTC=>(k aTC)) else
 (bif n324==7 then((qh w w1 n324 n325 Rq WY mV [40] [41]).bind λaTD=>(k aTD)) else
 (bif n324==8 then((qh w w1 n324 n325 Rq WY mV [40] [41]).bind λaTE=>(k aTE)) else
 (bif n324==9 then
 ((M.jI n325).bind λaTF=>
 ((M.aI aTF).bind λaTG=>
 ((idx mV 0).bind λavF=>
 ((fB .i64 avF 0).bind λaTH=>
 ((oJ w w1 aTH).bind λaTI=>
 ((M.aS 6 0 (bM [[D.sl true 4 aTG],[D.sl true 4 aTI]])).bind λaCa=>(bif[[D.sl true 4 aCa]].all dQ then(k aCa) else none))))))) else
 (bif n324==10 then
 ((idx mV 0).bind λavG=>
 ((fB .i64 avG 0).bind λaTJ=>
 ((oJ w w1 aTJ).bind λaTK=>
 ((M.jI n325).bind λaTL=>
 ((M.aI aTL).bind λaTM=>
 ((M.aS 6 0 (bM [[D.sl true 4 aTK],[D.sl true 4 aTM]])).bind λaCb=>(bif[[D.sl true 4 aCb]].all dQ then(k aCb) else none))))))) else
 (bif n324==6 then
 ((M.aI [36]).bind λaTN=>
 ((idx mV 0).bind λavH=>
 ((fB .i64 avH 0).bind λaTO=>
 ((M.fH n324 n325 Rq WY mV 0 p p1 p2 p3 p4).bind λr400=>
 ((dH w w1 aTO r400.1 r400.2.1 r400.2.2.1 r400.2.2.2.1 r400.2.2.2.2).bind λaTP=>
 ((M.aS 6 0 (bM [[D.sl true 4 aTN],[D.sl true 4 aTP]])).bind λaCc=>(bif[[D.sl true 4 aCc]].all dQ then(k aCc) else none))))))) else
 (bif n324==15 then
 ((idx mV 0).bind λavI=>
 ((fB .i64 avI 0).bind λaTQ=>
 ((oJ w w1 aTQ).bind λaTR=>
 ((M.jI n325).bind λavJ=>
 (bif(1+avJ.length).ble 9223372036854775807 then
 (bif(([32]++avJ).length+1).ble 9223372036854775807 then
 ((M.aI ([32]++avJ++[32])).bind λaTS=>
 ((idx mV 1).bind λavK=>
 ((fB .i64 avK 0).bind λaTT=>
 ((M.fH n324 n325 Rq WY mV 1 p p1 p2 p3 p4).bind λaod=>
 ((dH w w1 aTT aod.1 aod.2.1 aod.2.2.1 aod.2.2.2.1 aod.2.2.2.2).bind λaTU=>
 ((M.aS 6 0 (bM [[D.sl true 4 aTR],[D.sl true 4 aTS],[D.sl true 4 aTU]])).bind λaCd=>(bif[[D.sl true 4 aCd]].all dQ then(k aCd) else none))))))) else none) else none))))) else
 (bif n324==11 then
 ((M.jI n325).bind λr413=>
 ((M.dZ n325).bind λavL=>
 ((idx mV 0).bind λavM=>
 ((fB .i64 avM 0).bind λaTV=>
 ((M.fH n324 n325 Rq WY mV 0 p p1 p2 p3 p4).bind λaoe=>
 ((M.pV w w1 aTV aoe.1 aoe.2.1 aoe.2.2.1 aoe.2.2.2.1 aoe.2.2.2.2).bind λaCe=>
 ((idx aCe 0).bind λaTW=>
 (aCe[0]?.bind λajW=>
 ((fB .i64 ajW 0).bind λaTX=>
 ((cStr ajW 1).bind λaTY=>
 ((fB .i64 ajW 2).bind λaTZ=>
 ((M.rP avL.1 avL.2.1 avL.2.2 aTX aTY aTZ).bind λaT0=>
 (bif aT0 then
 (bif(r413.length+1).ble 9223372036854775807 then
 ((M.aI (r413++[32])).bind λaT1=>
 ((idx mV 0).bind λavN=>
 ((fB .i64 avN 0).bind λaT2=>
 ((M.fH n324 n325 Rq WY mV 0 p p1 p2 p3 p4).bind λaof=>
 ((dH w w1 aT2 aof.1 aof.2.1 aof.2.2.1 aof.2.2.2.1 aof.2.2.2.2).bind λaT3=>
 ((M.aS 6 0 (bM [[D.sl true 4 aT1],[D.sl true 4 aT3]])).bind λaCf=>(bif[[D.sl true 4 aCf]].all dQ then(k aCf) else none))))))) else none) else
 ((M.aI r413).bind λaT4=>
 ((idx mV 0).bind λavO=>
 ((fB .i64 avO 0).bind λaT5=>
 ((M.fH n324 n325 Rq WY mV 0 p p1 p2 p3 p4).bind λaog=>
 ((dH w w1 aT5 aog.1 aog.2.1 aog.2.2.1 aog.2.2.2.1 aog.2.2.2.2).bind λaT6=>
 ((M.aS 6 0 (bM [[D.sl true 4 aT4],[D.sl true 4 aT6]])).bind λaCg=>(bif[[D.sl true 4 aCg]].all dQ then(k aCg) else none)))))))))))))))))))) else
 (bif n324==14 then
 ((idx mV 0).bind λavP=>
 ((fB .i64 avP 0).bind λaT7=>
 ((M.fH n324 n325 Rq WY mV 0 p p1 p2 p3 p4).bind λaoh=>
 ((dH w w1 aT7 aoh.1 aoh.2.1 aoh.2.2.1 aoh.2.2.2.1 aoh.2.2.2.2).bind λaT8=>
 ((M.aI [32,63,32]).bind λaT9=>
 ((idx mV 1).bind λavQ=>
 ((fB .i64 avQ 0).bind λaUa=>
 ((M.fH n324 n325 Rq WY mV 1 p p1 p2 p3 p4).bind λaoi=>
 ((dH w w1 aUa aoi.1 aoi.2.1 aoi.2.2.1 aoi.2.2.2.1 aoi.2.2.2.2).bind λaUb=>
 ((M.aI [32,58,32]).bind λaUc=>
 ((idx mV 2).bind λavR=>
 ((fB .i64 avR 0).bind λaUd=>
 ((M.fH n324 n325 Rq WY mV 2 p p1 p2 p3 p4).bind λaoj=>
 ((dH w w1 aUd aoj.1 aoj.2.1 aoj.2.2.1 aoj.2.2.2.1 aoj.2.2.2.2).bind λaUe=>
 ((M.aS 6 0 (bM [[D.sl true 4 aT8],[D.sl true 4 aT9],[D.sl true 4 aUb],[D.sl true 4 aUc],[D.sl true 4 aUe]])).bind λaCh=>(bif[[D.sl true 4 aCh]].all dQ then(k aCh) else none)))))))))))))))) else
 (bif n324==13 then
 (bif(↑mV.length:Int)==1 then
 ((idx mV 0).bind λavS=>
 ((fB .i64 avS 0).bind λaUf=>
 ((M.fH n324 n325 Rq WY mV 0 p p1 p2 p3 p4).bind λaok=>
 ((dH w w1 aUf aok.1 aok.2.1 aok.2.2.1 aok.2.2.2.1 aok.2.2.2.2).bind λaUg=>
 (bif(4+Rq.length).ble 9223372036854775807 then
 ((M.aI ([32,105,110,32]++Rq)).bind λaUh=>
 ((M.aS 6 0 (bM [[D.sl true 4 aUg],[D.sl true 4 aUh]])).bind λaCi=>(bif[[D.sl true 4 aCi]].all dQ then(k aCi) else none))) else none))))) else
 ((M.aI [40]).bind λaUi=>
 (M.iw.bind λaol=>
 ((lq w w1 mV aol.1 aol.2.1 aol.2.2.1 aol.2.2.2.1 aol.2.2.2.2).bind λaUj=>
 (bif(5+Rq.length).ble 9223372036854775807 then
 ((M.aI ([41,32,105,110,32]++Rq)).bind λaUk=>
 ((M.aS 6 0 (bM [[D.sl true 4 aUi],[D.sl true 4 aUj],[D.sl true 4 aUk]])).bind λaCj=>(bif[[D.sl true 4 aCj]].all dQ then(k aCj) else none))) else none))))) else
 ((CV w w1 n324 n325 Rq WY mV p p1 p2 p3 p4).bind λaUl=>(k aUl)))))))))))))))
def C.ZA{qh:au->Bool->Int->Int->aC->aC->au->aC->aC->Option (au)}{oJ:au->Bool->Int->Option (au)}{dH:au->Bool->Int->Int->Bool->Bool->Bool->Bool->Option (au)}{lq:au->Bool->au->Int->Bool->Bool->Bool->Bool->Option (au)}{CV:au->Bool->Int->Int->aC->aC->au->Int->Bool->Bool->Bool->Bool->Option (au)}(ZB:S.yV.ok X0 λx=>qh x.1.1.1 x.1.1.2.1 x.1.2.1.1 x.1.2.1.2.1 x.1.2.1.2.2.1 x.1.2.1.2.2.2.1 x.1.2.1.2.2.2.2.1 x.1.2.2.1 x.1.2.2.2.1)(X6:S.vM.ok X0 λx=>oJ x.1.1.1 x.1.1.2.1 x.1.2.1)(BI:S.eX.ok X0 λx=>dH x.1.1.1 x.1.1.2.1 x.1.2.1 x.1.2.2.1.1 x.1.2.2.1.2.1 x.1.2.2.1.2.2.1 x.1.2.2.1.2.2.2.1 x.1.2.2.1.2.2.2.2.1)(Ot:S.jC.ok X0 λx=>lq x.1.1.1 x.1.1.2.1 x.1.2.1 x.1.2.2.1.1 x.1.2.2.1.2.1 x.1.2.2.1.2.2.1 x.1.2.2.1.2.2.2.1 x.1.2.2.1.2.2.2.2.1)(adl:S.Ep.ok X0 λx=>CV x.1.1.1 x.1.1.2.1 x.1.2.1.1 x.1.2.1.2.1 x.1.2.1.2.2.1 x.1.2.1.2.2.2.1 x.1.2.1.2.2.2.2.1 x.1.2.2.1.1 x.1.2.2.1.2.1 x.1.2.2.1.2.2.1 x.1.2.2.1.2.2.2.1 x.1.2.2.1.2.2.2.2.1):S.xJ.ok X0 λx=>M.gU qh oJ dH lq CV x.1.1.1 x.1.1.2.1 x.1.2.1 x.1.2.2.1.1 x.1.2.2.1.2.1 x.1.2.2.1.2.2.1 x.1.2.2.1.2.2.2.1 x.1.2.2.1.2.2.2.2.1 some:=fnS (λx=>M.gU qh oJ dH lq CV x.1.1.1 x.1.1.2.1 x.1.2.1 x.1.2.2.1.1 x.1.2.2.1.2.1 x.1.2.2.1.2.2.1 x.1.2.2.1.2.2.2.1 x.1.2.2.1.2.2.2.2.1) [fe C.dN,fe C.aI,fe ZB,fe C.jI,fe X6,fe C.aS,fe C.fH,fe BI,fe C.dZ,fe C.pV,fe C.rP,fe C.iw,fe Ot,fe adl] [] (by intros;simp only[M.gU,iK];repeat' first|with_reducible apply gZ|with_reducible apply GV|with_reducible apply GX|with_reducible apply GY|with_reducible apply GZ|(intro _)|apply gZ|rfl)
def M.Fq{R:Type}(kF:au->Bool->Int->Int->Bool->Bool->Bool->Bool->Option (au))(w:au)(w1:Bool)(i p:Int)(p1 p2 p3 p4:Bool)(k:au->Option R):Option R:=
 (idx w i).bind λavT=>
 (iK 1 avT λn289 n290 aUm aUn ari=>
 ((M.Dh n289 n290 aUm aUn ari p p1 p2 p3 p4).bind λaUo=>
 (bif aUo then((kF w w1 i p p1 p2 p3 p4).bind λaUp=>(k aUp)) else
 ((M.aI [40]).bind λaUq=>
 (M.iw.bind λaom=>
 ((kF w w1 i aom.1 aom.2.1 aom.2.2.1 aom.2.2.2.1 aom.2.2.2.2).bind λaUr=>
 ((M.aI [41]).bind λaUs=>
 ((M.aS 6 0 (bM [[D.sl true 4 aUq],[D.sl true 4 aUr],[D.sl true 4 aUs]])).bind λaCk=>(bif[[D.sl true 4 aCk]].all dQ then(k aCk) else none)))))))))
def C.adn{kF:au->Bool->Int->Int->Bool->Bool->Bool->Bool->Option (au)}(Ou:S.xJ.ok X0 λx=>kF x.1.1.1 x.1.1.2.1 x.1.2.1 x.1.2.2.1.1 x.1.2.2.1.2.1 x.1.2.2.1.2.2.1 x.1.2.2.1.2.2.2.1 x.1.2.2.1.2.2.2.2.1):S.eX.ok X0 λx=>M.Fq kF x.1.1.1 x.1.1.2.1 x.1.2.1 x.1.2.2.1.1 x.1.2.2.1.2.1 x.1.2.2.1.2.2.1 x.1.2.2.1.2.2.2.1 x.1.2.2.1.2.2.2.2.1 some:=fnS (λx=>M.Fq kF x.1.1.1 x.1.1.2.1 x.1.2.1 x.1.2.2.1.1 x.1.2.2.1.2.1 x.1.2.2.1.2.2.1 x.1.2.2.1.2.2.2.1 x.1.2.2.1.2.2.2.2.1) [fe C.Dh,fe Ou,fe C.aI,fe C.iw,fe C.aS] [] (by intros;simp only[M.Fq,iK];repeat' first|with_reducible apply gZ|with_reducible apply GV|with_reducible apply GX|with_reducible apply GY|with_reducible apply GZ|(intro _)|apply gZ|rfl)
def M.kV:Nat->(au->Bool->Int->Int->Bool->Bool->Bool->Bool->Option (au))×(au->Bool->au->Int->Bool->Bool->Bool->Bool->Option (au))×(au->Bool->Int->Int->aC->aC->au->aC->aC->Option (au))×(au->Bool->Int->Option (au))×(au->Bool->Int->Int->aC->aC->au->Int->Bool->Bool->Bool->Bool->Option (au))×(au->Bool->Int->Int->Bool->Bool->Bool->Bool->Option (au)):=
 Nat.rec (λ_ _ _ _ _ _ _ _=>none,λ_ _ _ _ _ _ _ _=>none,λ_ _ _ _ _ _ _ _ _=>none,λ_ _ _=>none,λ_ _ _ _ _ _ _ _ _ _ _ _=>none,λ_ _ _ _ _ _ _ _=>none) λ_ qz=>(λw w1 i p p1 p2 p3 p4=>M.Fq qz.2.2.2.2.2 w w1 i p p1 p2 p3 p4 some,λw w1 kids p p1 p2 p3 p4=>M.zM qz.1 w w1 kids p p1 p2 p3 p4 some,λw w1 n' gX jf iP iM open' end'=>M.wW qz.2.1 w w1 n' gX jf iP iM open' end' some,λw w1 i=>M.vH qz.2.2.2.2.2 w w1 i some,λw w1 n' gX jf iP iM p p1 p2 p3 p4=>M.rY qz.1 w w1 n' gX jf iP iM p p1 p2 p3 p4 some,λw w1 i p p1 p2 p3 p4=>M.gU qz.2.2.1 qz.2.2.2.1 qz.1 qz.2.1 qz.2.2.2.2.1 w w1 i p p1 p2 p3 p4 some)
def M.qj(n:Nat):au->Bool->Int->Int->Bool->Bool->Bool->Bool->Option (au):=(M.kV n).1
def M.vW(n:Nat):au->Bool->au->Int->Bool->Bool->Bool->Bool->Option (au):=(M.kV n).2.1
def M.CW(n:Nat):au->Bool->Int->Int->aC->aC->au->aC->aC->Option (au):=(M.kV n).2.2.1
def M.zT(n:Nat):au->Bool->Int->Option (au):=(M.kV n).2.2.2.1
def M.GN(n:Nat):au->Bool->Int->Int->aC->aC->au->Int->Bool->Bool->Bool->Bool->Option (au):=(M.kV n).2.2.2.2.1
def M.zU(n:Nat):au->Bool->Int->Int->Bool->Bool->Bool->Bool->Option (au):=(M.kV n).2.2.2.2.2
def M.afq(n:Nat):M.qj (n+1)=λw w1 i p p1 p2 p3 p4=>M.Fq (M.zU n) w w1 i p p1 p2 p3 p4 some:=rfl
def M.abC(n:Nat):M.vW (n+1)=λw w1 kids p p1 p2 p3 p4=>M.zM (M.qj n) w w1 kids p p1 p2 p3 p4 some:=rfl
def M.ZC(n:Nat):M.CW (n+1)=λw w1 n' gX jf iP iM open' end'=>M.wW (M.vW n) w w1 n' gX jf iP iM open' end' some:=rfl
def M.X7(n:Nat):M.zT (n+1)=λw w1 i=>M.vH (M.zU n) w w1 i some:=rfl
def M.ado(n:Nat):M.GN (n+1)=λw w1 n' gX jf iP iM p p1 p2 p3 p4=>M.rY (M.qj n) w w1 n' gX jf iP iM p p1 p2 p3 p4 some:=rfl
def M.abD(n:Nat):M.zU (n+1)=λw w1 i p p1 p2 p3 p4=>M.gU (M.CW n) (M.zT n) (M.qj n) (M.vW n) (M.GN n) w w1 i p p1 p2 p3 p4 some:=rfl
def M.eX(w:au)(w1:Bool)(i p:Int)(p1 p2 p3 p4:Bool):Option (au):=lim λn=>M.qj n w w1 i p p1 p2 p3 p4
def M.jC(w:au)(w1:Bool)(kids:au)(p:Int)(p1 p2 p3 p4:Bool):Option (au):=lim λn=>M.vW n w w1 kids p p1 p2 p3 p4
def M.yV(w:au)(w1:Bool)(n' gX:Int)(jf iP:aC)(iM:au)(open' end':aC):Option (au):=lim λn=>M.CW n w w1 n' gX jf iP iM open' end'
def M.vM(w:au)(w1:Bool)(i:Int):Option (au):=lim λn=>M.zT n w w1 i
def M.Ep(w:au)(w1:Bool)(n' gX:Int)(jf iP:aC)(iM:au)(p:Int)(p1 p2 p3 p4:Bool):Option (au):=lim λn=>M.GN n w w1 n' gX jf iP iM p p1 p2 p3 p4
def M.xJ(w:au)(w1:Bool)(i p:Int)(p1 p2 p3 p4:Bool):Option (au):=lim λn=>M.zU n w w1 i p p1 p2 p3 p4
def C.kV:∀n,(S.eX.ok X0 λx=>M.qj n x.1.1.1 x.1.1.2.1 x.1.2.1 x.1.2.2.1.1 x.1.2.2.1.2.1 x.1.2.2.1.2.2.1 x.1.2.2.1.2.2.2.1 x.1.2.2.1.2.2.2.2.1)∧(S.jC.ok X0 λx=>M.vW n x.1.1.1 x.1.1.2.1 x.1.2.1 x.1.2.2.1.1 x.1.2.2.1.2.1 x.1.2.2.1.2.2.1 x.1.2.2.1.2.2.2.1 x.1.2.2.1.2.2.2.2.1)∧(S.yV.ok X0 λx=>M.CW n x.1.1.1 x.1.1.2.1 x.1.2.1.1 x.1.2.1.2.1 x.1.2.1.2.2.1 x.1.2.1.2.2.2.1 x.1.2.1.2.2.2.2.1 x.1.2.2.1 x.1.2.2.2.1)∧(S.vM.ok X0 λx=>M.zT n x.1.1.1 x.1.1.2.1 x.1.2.1)∧(S.Ep.ok X0 λx=>M.GN n x.1.1.1 x.1.1.2.1 x.1.2.1.1 x.1.2.1.2.1 x.1.2.1.2.2.1 x.1.2.1.2.2.2.1 x.1.2.1.2.2.2.2.1 x.1.2.2.1.1 x.1.2.2.1.2.1 x.1.2.2.1.2.2.1 x.1.2.2.1.2.2.2.1 x.1.2.2.1.2.2.2.2.1)∧(S.xJ.ok X0 λx=>M.zU n x.1.1.1 x.1.1.2.1 x.1.2.1 x.1.2.2.1.1 x.1.2.2.1.2.1 x.1.2.2.1.2.2.1 x.1.2.2.1.2.2.2.1 x.1.2.2.1.2.2.2.2.1)
 |0=>⟨fK.zero,fK.zero,fK.zero,fK.zero,fK.zero,fK.zero⟩
 |n+1=>have h:=C.kV n;⟨C.adn h.2.2.2.2.2,C.Zt h.1,C.XY h.2.1,C.WV h.2.2.2.2.2,C.abB h.1,C.ZA h.2.2.1 h.2.2.2.1 h.1 h.2.1 h.2.2.2.2.1⟩
def C.eX:S.eX.ok X0 λx=>M.eX x.1.1.1 x.1.1.2.1 x.1.2.1 x.1.2.2.1.1 x.1.2.2.1.2.1 x.1.2.2.1.2.2.1 x.1.2.2.1.2.2.2.1 x.1.2.2.1.2.2.2.2.1:=fK.lim λn=>(C.kV n).1
def M.adp{n:Nat}{w:au}{w1:Bool}{i p:Int}{p1 p2 p3 p4:Bool}{r:au}(h:M.qj n w w1 i p p1 p2 p3 p4=some r):M.eX w w1 i p p1 p2 p3 p4=some r:=
 fK.Em (λn=>(C.kV n).1) (by intro a b h;simp[S.eX,sg] at h;first|exact h|simp[Prod.ext_iff,h]) (x:=(((w,w1,()),i,(p,p1,p2,p3,p4,()),()),())) h
def C.jC:S.jC.ok X0 λx=>M.jC x.1.1.1 x.1.1.2.1 x.1.2.1 x.1.2.2.1.1 x.1.2.2.1.2.1 x.1.2.2.1.2.2.1 x.1.2.2.1.2.2.2.1 x.1.2.2.1.2.2.2.2.1:=fK.lim λn=>(C.kV n).2.1
def M.ZE{n:Nat}{w:au}{w1:Bool}{kids:au}{p:Int}{p1 p2 p3 p4:Bool}{r:au}(h:M.vW n w w1 kids p p1 p2 p3 p4=some r):M.jC w w1 kids p p1 p2 p3 p4=some r:=
 fK.Em (λn=>(C.kV n).2.1) (by intro a b h;simp[S.jC,sg] at h;first|exact h|simp[Prod.ext_iff,h]) (x:=(((w,w1,()),kids,(p,p1,p2,p3,p4,()),()),())) h
def C.yV:S.yV.ok X0 λx=>M.yV x.1.1.1 x.1.1.2.1 x.1.2.1.1 x.1.2.1.2.1 x.1.2.1.2.2.1 x.1.2.1.2.2.2.1 x.1.2.1.2.2.2.2.1 x.1.2.2.1 x.1.2.2.2.1:=fK.lim λn=>(C.kV n).2.2.1
def C.vM:S.vM.ok X0 λx=>M.vM x.1.1.1 x.1.1.2.1 x.1.2.1:=fK.lim λn=>(C.kV n).2.2.2.1
def C.Ep:S.Ep.ok X0 λx=>M.Ep x.1.1.1 x.1.1.2.1 x.1.2.1.1 x.1.2.1.2.1 x.1.2.1.2.2.1 x.1.2.1.2.2.2.1 x.1.2.1.2.2.2.2.1 x.1.2.2.1.1 x.1.2.2.1.2.1 x.1.2.2.1.2.2.1 x.1.2.2.1.2.2.2.1 x.1.2.2.1.2.2.2.2.1:=fK.lim λn=>(C.kV n).2.2.2.2.1
def C.xJ:S.xJ.ok X0 λx=>M.xJ x.1.1.1 x.1.1.2.1 x.1.2.1 x.1.2.2.1.1 x.1.2.2.1.2.1 x.1.2.2.1.2.2.1 x.1.2.2.1.2.2.2.1 x.1.2.2.1.2.2.2.2.1:=fK.lim λn=>(C.kV n).2.2.2.2.2
def M.H6{R:Type}(w:au)(w1:Bool)(n' gX:Int)(jf iP:aC)(iM:au)(k:au->Option R):Option R:=
 bif gX==1 then
 ((M.aI [112,114,105,110,116,102]).bind λagG=>
 (bif !iP==[] then
 ((cut iM 0 (i64.wrap ((↑iM.length:Int) - 1))).bind λakP=>
 (bif decide ((↑akP.length:Int)>0) then
 ((M.aI [32]).bind λaCl=>
 ((M.jC w w1 akP 1 false false true false).bind λaCm=>
 (bif !iP==[] then
 (bif(1+iP.length).ble 9223372036854775807 then
 (bif(([32]++iP).length+1).ble 9223372036854775807 then
 ((M.aI ([32]++iP++[32])).bind λaUt=>
 ((idx iM (i64.wrap ((↑iM.length:Int) - 1))).bind λavU=>
 ((fB .i64 avU 0).bind λaUu=>
 ((M.eX w w1 aUu 9 false false false false).bind λaUv=>
 ((M.aS 6 0 (bM ([[D.sl true 4 agG]]++[[D.sl true 4 aCl],[D.sl true 4 aCm]]++[[D.sl true 4 aUt],[D.sl true 4 aUv]]))).bind λaCn=>(bif[[D.sl true 4 aCn]].all dQ then(k aCn) else none)))))) else none) else none) else
 ((M.aS 6 0 (bM ([[D.sl true 4 agG]]++[[D.sl true 4 aCl],[D.sl true 4 aCm]]))).bind λaCo=>(bif[[D.sl true 4 aCo]].all dQ then(k aCo) else none))))) else
 (bif !iP==[] then
 (bif(1+iP.length).ble 9223372036854775807 then
 (bif(([32]++iP).length+1).ble 9223372036854775807 then
 ((M.aI ([32]++iP++[32])).bind λaUw=>
 ((idx iM (i64.wrap ((↑iM.length:Int) - 1))).bind λavV=>
 ((fB .i64 avV 0).bind λaUx=>
 ((M.eX w w1 aUx 9 false false false false).bind λaUy=>
 ((M.aS 6 0 (bM ([[D.sl true 4 agG]]++[[D.sl true 4 aUw],[D.sl true 4 aUy]]))).bind λaCp=>(bif[[D.sl true 4 aCp]].all dQ then(k aCp) else none)))))) else none) else none) else
 ((M.aS 6 0 (bM [[D.sl true 4 agG]])).bind λaCq=>(bif[[D.sl true 4 aCq]].all dQ then(k aCq) else none))))) else
 (bif decide ((↑iM.length:Int)>0) then
 ((M.aI [32]).bind λaCr=>
 ((M.jC w w1 iM 1 false false true false).bind λaCs=>
 (bif !iP==[] then
 (bif(1+iP.length).ble 9223372036854775807 then
 (bif(([32]++iP).length+1).ble 9223372036854775807 then
 ((M.aI ([32]++iP++[32])).bind λaUz=>
 ((idx iM (i64.wrap ((↑iM.length:Int) - 1))).bind λavW=>
 ((fB .i64 avW 0).bind λaUA=>
 ((M.eX w w1 aUA 9 false false false false).bind λaUB=>
 ((M.aS 6 0 (bM ([[D.sl true 4 agG]]++[[D.sl true 4 aCr],[D.sl true 4 aCs]]++[[D.sl true 4 aUz],[D.sl true 4 aUB]]))).bind λaCt=>(bif[[D.sl true 4 aCt]].all dQ then(k aCt) else none)))))) else none) else none) else
 ((M.aS 6 0 (bM ([[D.sl true 4 agG]]++[[D.sl true 4 aCr],[D.sl true 4 aCs]]))).bind λaCu=>(bif[[D.sl true 4 aCu]].all dQ then(k aCu) else none))))) else
 (bif !iP==[] then
 (bif(1+iP.length).ble 9223372036854775807 then
 (bif(([32]++iP).length+1).ble 9223372036854775807 then
 ((M.aI ([32]++iP++[32])).bind λaUC=>
 ((idx iM (i64.wrap ((↑iM.length:Int) - 1))).bind λavX=>
 ((fB .i64 avX 0).bind λaUD=>
 ((M.eX w w1 aUD 9 false false false false).bind λaUE=>
 ((M.aS 6 0 (bM ([[D.sl true 4 agG]]++[[D.sl true 4 aUC],[D.sl true 4 aUE]]))).bind λaCv=>(bif[[D.sl true 4 aCv]].all dQ then(k aCv) else none)))))) else none) else none) else
 ((M.aS 6 0 (bM [[D.sl true 4 agG]])).bind λaCw=>(bif[[D.sl true 4 aCw]].all dQ then(k aCw) else none)))))) else
 ((M.aI [112,114,105,110,116]).bind λagH=>
 (bif !iP==[] then
 ((cut iM 0 (i64.wrap ((↑iM.length:Int) - 1))).bind λakQ=>
 (bif decide ((↑akQ.length:Int)>0) then
 ((M.aI [32]).bind λaCx=>
 ((M.jC w w1 akQ 1 false false true false).bind λaCy=>
 (bif !iP==[] then
 (bif(1+iP.length).ble 9223372036854775807 then
 (bif(([32]++iP).length+1).ble 9223372036854775807 then
 ((M.aI ([32]++iP++[32])).bind λaUF=>
 ((idx iM (i64.wrap ((↑iM.length:Int) - 1))).bind λavY=>
 ((fB .i64 avY 0).bind λaUG=>
 ((M.eX w w1 aUG 9 false false false false).bind λaUH=>
 ((M.aS 6 0 (bM ([[D.sl true 4 agH]]++[[D.sl true 4 aCx],[D.sl true 4 aCy]]++[[D.sl true 4 aUF],[D.sl true 4 aUH]]))).bind λaCz=>(bif[[D.sl true 4 aCz]].all dQ then(k aCz) else none)))))) else none) else none) else
 ((M.aS 6 0 (bM ([[D.sl true 4 agH]]++[[D.sl true 4 aCx],[D.sl true 4 aCy]]))).bind λaCA=>(bif[[D.sl true 4 aCA]].all dQ then(k aCA) else none))))) else
 (bif !iP==[] then
 (bif(1+iP.length).ble 9223372036854775807 then
 (bif(([32]++iP).length+1).ble 9223372036854775807 then
 ((M.aI ([32]++iP++[32])).bind λaUI=>
 ((idx iM (i64.wrap ((↑iM.length:Int) - 1))).bind λavZ=>
 ((fB .i64 avZ 0).bind λaUJ=>
 ((M.eX w w1 aUJ 9 false false false false).bind λaUK=>
 ((M.aS 6 0 (bM ([[D.sl true 4 agH]]++[[D.sl true 4 aUI],[D.sl true 4 aUK]]))).bind λaCB=>(bif[[D.sl true 4 aCB]].all dQ then(k aCB) else none)))))) else none) else none) else
 ((M.aS 6 0 (bM [[D.sl true 4 agH]])).bind λaCC=>(bif[[D.sl true 4 aCC]].all dQ then(k aCC) else none))))) else
 (bif decide ((↑iM.length:Int)>0) then
 ((M.aI [32]).bind λaCD=>
 ((M.jC w w1 iM 1 false false true false).bind λaCE=>
 (bif !iP==[] then
 (bif(1+iP.length).ble 9223372036854775807 then
 (bif(([32]++iP).length+1).ble 9223372036854775807 then
 ((M.aI ([32]++iP++[32])).bind λaUL=>
 ((idx iM (i64.wrap ((↑iM.length:Int) - 1))).bind λav1=>
 ((fB .i64 av1 0).bind λaUM=>
 ((M.eX w w1 aUM 9 false false false false).bind λaUN=>
 ((M.aS 6 0 (bM ([[D.sl true 4 agH]]++[[D.sl true 4 aCD],[D.sl true 4 aCE]]++[[D.sl true 4 aUL],[D.sl true 4 aUN]]))).bind λaCF=>(bif[[D.sl true 4 aCF]].all dQ then(k aCF) else none)))))) else none) else none) else
 ((M.aS 6 0 (bM ([[D.sl true 4 agH]]++[[D.sl true 4 aCD],[D.sl true 4 aCE]]))).bind λaCG=>(bif[[D.sl true 4 aCG]].all dQ then(k aCG) else none))))) else
 (bif !iP==[] then
 (bif(1+iP.length).ble 9223372036854775807 then
 (bif(([32]++iP).length+1).ble 9223372036854775807 then
 ((M.aI ([32]++iP++[32])).bind λaUO=>
 ((idx iM (i64.wrap ((↑iM.length:Int) - 1))).bind λav2=>
 ((fB .i64 av2 0).bind λaUP=>
 ((M.eX w w1 aUP 9 false false false false).bind λaUQ=>
 ((M.aS 6 0 (bM ([[D.sl true 4 agH]]++[[D.sl true 4 aUO],[D.sl true 4 aUQ]]))).bind λaCH=>(bif[[D.sl true 4 aCH]].all dQ then(k aCH) else none)))))) else none) else none) else
 ((M.aS 6 0 (bM [[D.sl true 4 agH]])).bind λaCI=>(bif[[D.sl true 4 aCI]].all dQ then(k aCI) else none))))))
def M.uV(w:au)(w1:Bool)(n' gX:Int)(jf iP:aC)(iM:au):Option (au):=M.H6 w w1 n' gX jf iP iM some
def C.uV:S.uV.ok X0 λx=>M.uV x.1.1.1 x.1.1.2.1 x.1.2.1.1 x.1.2.1.2.1 x.1.2.1.2.2.1 x.1.2.1.2.2.2.1 x.1.2.1.2.2.2.2.1:=fnS (λx=>M.H6 x.1.1.1 x.1.1.2.1 x.1.2.1.1 x.1.2.1.2.1 x.1.2.1.2.2.1 x.1.2.1.2.2.2.1 x.1.2.1.2.2.2.2.1) [fe C.aI,fe C.jC,fe C.eX,fe C.aS] [] (by intros;unfold M.H6;repeat' first|with_reducible apply gZ|with_reducible apply GV|with_reducible apply GX|with_reducible apply GY|with_reducible apply GZ|(intro _)|apply gZ|rfl)
def M.JI{R:Type}(w:au)(w1:Bool)(i:Int)(k:au->Option R):Option R:=
 (idx w i).bind λav3=>
 ((fB .i64 av3 0).bind λaUR=>
 (bif aUR==16 then((M.aI []).bind λaUS=>(k aUS)) else
 ((M.aI [32]).bind λaUT=>
 (M.iw.bind λaon=>
 ((M.eX w w1 i aon.1 aon.2.1 aon.2.2.1 aon.2.2.2.1 aon.2.2.2.2).bind λaUU=>
 ((M.aS 6 0 (bM [[D.sl true 4 aUT],[D.sl true 4 aUU]])).bind λaCJ=>(bif[[D.sl true 4 aCJ]].all dQ then(k aCJ) else none)))))))
def M.ny(w:au)(w1:Bool)(i:Int):Option (au):=M.JI w w1 i some
def C.ny:S.ny.ok X0 λx=>M.ny x.1.1.1 x.1.1.2.1 x.1.2.1:=fnS (λx=>M.JI x.1.1.1 x.1.1.2.1 x.1.2.1) [fe C.aI,fe C.iw,fe C.eX,fe C.aS] [] (by intros;unfold M.JI;repeat' first|with_reducible apply gZ|with_reducible apply GV|with_reducible apply GX|with_reducible apply GY|with_reducible apply GZ|(intro _)|apply gZ|rfl)
def M.JJ{R:Type}(w:au)(w1:Bool)(s':aC)(kids:au)(k:au->Option R):Option R:=
 bif(↑kids.length:Int)==0 then((M.aI s').bind λaUV=>(k aUV)) else
 ((M.aI s').bind λaUW=>
 ((idx kids 0).bind λav4=>
 ((fB .i64 av4 0).bind λaUX=>
 ((M.ny w w1 aUX).bind λaUY=>
 ((M.aS 6 0 (bM [[D.sl true 4 aUW],[D.sl true 4 aUY]])).bind λaCK=>(bif[[D.sl true 4 aCK]].all dQ then(k aCK) else none))))))
def M.uN(w:au)(w1:Bool)(s':aC)(kids:au):Option (au):=M.JJ w w1 s' kids some
def C.uN:S.uN.ok X0 λx=>M.uN x.1.1.1 x.1.1.2.1 x.1.2.1 x.1.2.2.1:=fnS (λx=>M.JJ x.1.1.1 x.1.1.2.1 x.1.2.1 x.1.2.2.1) [fe C.aI,fe C.ny,fe C.aS] [] (by intros;unfold M.JJ;repeat' first|with_reducible apply gZ|with_reducible apply GV|with_reducible apply GX|with_reducible apply GY|with_reducible apply GZ|(intro _)|apply gZ|rfl)
def M.vX{R:Type}(aK:au->Bool->Int->Option (au))(x':au)(qR:Bool)(wO zL:Int)(Dp Rh:aC)(NJ:au)(s:Int×au)(kn:Int×au->Option R)(ke:Int×au->Option R):Option R:=match s with
 |(k',VE)=>
 bif decide (k'<(↑NJ.length:Int)) then
 ((idx NJ k').bind λav5=>
 ((fB .i64 av5 0).bind λaUZ=>
 ((idx x' aUZ).bind λav6=>
 ((fB .i64 av6 0).bind λal9=>
 (bif decide (k'>0) then
 (bif al9==33 then
 ((M.aI [32]).bind λaU0=>
 (jc VE [[D.sl true 4 aU0]] 24 λza=>(bif al9==33 then
 ((idx NJ k').bind λav7=>
 ((fB .i64 av7 0).bind λaU1=>
 ((aK x' qR aU1).bind λaU2=>
 (jc za [[D.sl true 4 aU2]] 24 λzb=>(kn ((i64.wrap (k'+1),zb))))))) else
 ((idx NJ k').bind λav8=>
 ((fB .i64 av8 0).bind λaU3=>
 (M.iw.bind λaoo=>
 ((M.eX x' qR aU3 aoo.1 aoo.2.1 aoo.2.2.1 aoo.2.2.2.1 aoo.2.2.2.2).bind λaU4=>
 (jc za [[D.sl true 4 aU4]] 24 λzb=>(kn ((i64.wrap (k'+1),zb))))))))))) else
 (bif decide (k'>0) then
 ((M.aI [44,32]).bind λaU5=>
 (jc VE [[D.sl true 4 aU5]] 24 λza=>(bif al9==33 then
 ((idx NJ k').bind λav9=>
 ((fB .i64 av9 0).bind λaU6=>
 ((aK x' qR aU6).bind λaU7=>
 (jc za [[D.sl true 4 aU7]] 24 λzb=>(kn ((i64.wrap (k'+1),zb))))))) else
 ((idx NJ k').bind λawc=>
 ((fB .i64 awc 0).bind λaU8=>
 (M.iw.bind λaop=>
 ((M.eX x' qR aU8 aop.1 aop.2.1 aop.2.2.1 aop.2.2.2.1 aop.2.2.2.2).bind λaU9=>
 (jc za [[D.sl true 4 aU9]] 24 λzb=>(kn ((i64.wrap (k'+1),zb))))))))))) else
 (bif al9==33 then
 ((idx NJ k').bind λawd=>
 ((fB .i64 awd 0).bind λaVa=>
 ((aK x' qR aVa).bind λaVb=>
 (jc VE [[D.sl true 4 aVb]] 24 λza=>(kn ((i64.wrap (k'+1),za))))))) else
 ((idx NJ k').bind λawe=>
 ((fB .i64 awe 0).bind λaVc=>
 (M.iw.bind λaoq=>
 ((M.eX x' qR aVc aoq.1 aoq.2.1 aoq.2.2.1 aoq.2.2.2.1 aoq.2.2.2.2).bind λaVd=>
 (jc VE [[D.sl true 4 aVd]] 24 λza=>(kn ((i64.wrap (k'+1),za))))))))))) else
 (bif decide (k'>0) then
 ((M.aI [44,32]).bind λaVe=>
 (jc VE [[D.sl true 4 aVe]] 24 λza=>(bif al9==33 then
 ((idx NJ k').bind λawf=>
 ((fB .i64 awf 0).bind λaVf=>
 ((aK x' qR aVf).bind λaVg=>
 (jc za [[D.sl true 4 aVg]] 24 λzb=>(kn ((i64.wrap (k'+1),zb))))))) else
 ((idx NJ k').bind λawg=>
 ((fB .i64 awg 0).bind λaVh=>
 (M.iw.bind λaor=>
 ((M.eX x' qR aVh aor.1 aor.2.1 aor.2.2.1 aor.2.2.2.1 aor.2.2.2.2).bind λaVi=>
 (jc za [[D.sl true 4 aVi]] 24 λzb=>(kn ((i64.wrap (k'+1),zb))))))))))) else
 (bif al9==33 then
 ((idx NJ k').bind λawh=>
 ((fB .i64 awh 0).bind λaVj=>
 ((aK x' qR aVj).bind λaVk=>
 (jc VE [[D.sl true 4 aVk]] 24 λza=>(kn ((i64.wrap (k'+1),za))))))) else
 ((idx NJ k').bind λawi=>
 ((fB .i64 awi 0).bind λaVl=>
 (M.iw.bind λaos=>
 ((M.eX x' qR aVl aos.1 aos.2.1 aos.2.2.1 aos.2.2.2.1 aos.2.2.2.2).bind λaVm=>
 (jc VE [[D.sl true 4 aVm]] 24 λza=>(kn ((i64.wrap (k'+1),za))))))))))))))) else(ke ((k',VE)))
def M.BK(aK:au->Bool->Int->Option (au))(x':au)(qR:Bool)(wO zL:Int)(Dp Rh:aC)(NJ:au)(s:Int×au):=M.vX aK x' qR wO zL Dp Rh NJ s (λs=>some (Sum.inl s)) λt=>some (Sum.inr t)
def M.Fv(aK:au->Bool->Int->Option (au))(x':au)(qR:Bool)(wO zL:Int)(Dp Rh:aC)(NJ:au)(s:Int×au):Option (Int×au):=iT (M.BK aK x' qR wO zL Dp Rh NJ) s
def F.Fv{aK:au->Bool->Int->Option (au)}(jG:S.lG.ok X0 λx=>aK x.1.1.1 x.1.1.2.1 x.1.2.1):LE X0 98:=le 3 (KF [fM 2 (pP 300000 0),fM 3 (pP 300001 0),fM 5 (pO 300002 0),fM 6 pI] [fM 300000 (cB 45 [pL false 5,pB]),fM 300001 (cB 42 [pI,pI,pS,pS,pL false 1]),fM 300002 (cA false false 0 1)]) (λx=>(x.1.2.2.2.1,x.2.2.2.1)) (λx s=>(((),(),(),s.1,()),((x.2.1.1,x.2.1.2.1,()),(x.2.2.1.1,x.2.2.1.2.1,x.2.2.1.2.2.1,x.2.2.1.2.2.2.1,x.2.2.1.2.2.2.2.1,()),s.2,()))) (λx=> .leaf (Int×au) (λt=>(Ex.exit 0,{tm:=[(2,V.ptr 300000 0),(3,V.ptr 300001 0),(5,V.own 300002 0),(6,V.d (D.int .i64 t.1)),(13,V.d (D.bool false))],mem:=[(300000,Cell.box 45 [V.d (D.sl false 5 x.2.1.1),V.d (D.bool x.2.1.2.1)]),(300001,Cell.box 42 [V.d (D.int .i64 x.2.2.1.1),V.d (D.int .i64 x.2.2.1.2.1),V.d (D.str x.2.2.1.2.2.1),V.d (D.str x.2.2.1.2.2.2.1),V.d (D.sl false 1 x.2.2.1.2.2.2.2.1)]),(300002,Cell.arr false false 0 1 t.2)]}))) (λx=>M.vX aK x.2.1.1 x.2.1.2.1 x.2.2.1.1 x.2.2.1.2.1 x.2.2.1.2.2.1 x.2.2.1.2.2.2.1 x.2.2.1.2.2.2.2.1) [fe C.aI,fe jG,fe C.iw,fe C.eX] [] (by rintro _ _ ⟨_,_⟩ _ _<;>unfold M.vX<;>repeat' first|with_reducible apply gZ|with_reducible apply GV|with_reducible apply GX|with_reducible apply GY|with_reducible apply GZ|(intro _)|apply gZ|rfl)
def M.uo{R:Type}(aK:au->Bool->Int->Option (au))(w:au)(w1:Bool)(n' gX:Int)(jf iP:aC)(iM:au)(k:au->Option R):Option R:=
 (M.Fv aK w w1 n' gX jf iP iM ((0,[]))).bind λaVn=>
 ((M.aS 6 0 (bM aVn.2)).bind λaCL=>(bif[[D.sl true 4 aCL]].all dQ then(k aCL) else none))
def C.X8{aK:au->Bool->Int->Option (au)}(jG:S.lG.ok X0 λx=>aK x.1.1.1 x.1.1.2.1 x.1.2.1):S.yZ.ok X0 λx=>M.uo aK x.1.1.1 x.1.1.2.1 x.1.2.1.1 x.1.2.1.2.1 x.1.2.1.2.2.1 x.1.2.1.2.2.2.1 x.1.2.1.2.2.2.2.1 some:=fnS (λx=>M.uo aK x.1.1.1 x.1.1.2.1 x.1.2.1.1 x.1.2.1.2.1 x.1.2.1.2.2.1 x.1.2.1.2.2.2.1 x.1.2.1.2.2.2.2.1) [fe C.aS] [F.Fv jG] (by intros;unfold M.uo;repeat' first|with_reducible apply gZ|with_reducible apply GV|with_reducible apply GX|with_reducible apply GY|with_reducible apply GZ|(intro _)|apply gZ|rfl)
def M.yj{R:Type}(aK:au->Bool->Int->Option (au))(m:Int)(x':au)(qR:Bool)(wO zL:Int)(Dp Rh:aC)(NJ:au)(s:aC×Int)(kn:aC×Int->Option R)(ke:aC×Int->Option R):Option R:=match s with
 |(s',k')=>
 bif decide (k'<m) then
 (bif decide (k'>0) then
 (bif(s'.length+2).ble 9223372036854775807 then
 ((idx NJ k').bind λawj=>
 ((fB .i64 awj 0).bind λaVo=>
 ((idx x' aVo).bind λawk=>
 ((cStr awk 2).bind λaCM=>
 (bif((s'++[44,32]).length+aCM.length).ble 9223372036854775807 then(kn ((s'++[44,32]++aCM,i64.wrap (k'+1)))) else none))))) else none) else
 ((idx NJ k').bind λawl=>
 ((fB .i64 awl 0).bind λaVp=>
 ((idx x' aVp).bind λawm=>
 ((cStr awm 2).bind λaCN=>
 (bif(s'.length+aCN.length).ble 9223372036854775807 then(kn ((s'++aCN,i64.wrap (k'+1)))) else none)))))) else(ke ((s',k')))
def M.DL(aK:au->Bool->Int->Option (au))(m:Int)(x':au)(qR:Bool)(wO zL:Int)(Dp Rh:aC)(NJ:au)(s:aC×Int):=M.yj aK m x' qR wO zL Dp Rh NJ s (λs=>some (Sum.inl s)) λt=>some (Sum.inr t)
def M.H7(aK:au->Bool->Int->Option (au))(m:Int)(x':au)(qR:Bool)(wO zL:Int)(Dp Rh:aC)(NJ:au)(s:aC×Int):Option (aC×Int):=iT (M.DL aK m x' qR wO zL Dp Rh NJ) s
def F.H7{aK:au->Bool->Int->Option (au)}(jG:S.lG.ok X0 λx=>aK x.1.1.1 x.1.1.2.1 x.1.2.1):LE X0 99:=le 4 (KF [fM 2 (pP 300000 0),fM 3 (pP 300001 0),fM 5 pS,fM 6 pI,fM 7 pI] [fM 300000 (cB 45 [pL false 5,pB]),fM 300001 (cB 42 [pI,pI,pS,pS,pL false 1])]) (λx=>(x.1.2.2.1,x.1.2.2.2.2.1)) (λx s=>(((),(),s.1,x.1.2.2.2.1,s.2,()),((x.2.1.1,x.2.1.2.1,()),(x.2.2.1.1,x.2.2.1.2.1,x.2.2.1.2.2.1,x.2.2.1.2.2.2.1,x.2.2.1.2.2.2.2.1,()),()))) (λx=> .leaf (aC×Int) (λt=>(Ex.exit 0,{tm:=[(2,V.ptr 300000 0),(3,V.ptr 300001 0),(5,V.d (D.str t.1)),(6,V.d (D.int .i64 x.1.2.2.2.1)),(7,V.d (D.int .i64 t.2)),(18,V.d (D.bool false))],mem:=[(300000,Cell.box 45 [V.d (D.sl false 5 x.2.1.1),V.d (D.bool x.2.1.2.1)]),(300001,Cell.box 42 [V.d (D.int .i64 x.2.2.1.1),V.d (D.int .i64 x.2.2.1.2.1),V.d (D.str x.2.2.1.2.2.1),V.d (D.str x.2.2.1.2.2.2.1),V.d (D.sl false 1 x.2.2.1.2.2.2.2.1)])]}))) (λx=>M.yj aK x.1.2.2.2.1 x.2.1.1 x.2.1.2.1 x.2.2.1.1 x.2.2.1.2.1 x.2.2.1.2.2.1 x.2.2.1.2.2.2.1 x.2.2.1.2.2.2.2.1) [] [] (by rintro _ _ ⟨_,_⟩ _ _<;>unfold M.yj<;>repeat' first|with_reducible apply gZ|with_reducible apply GV|with_reducible apply GX|with_reducible apply GY|with_reducible apply GZ|(intro _)|apply gZ|rfl)
def M.vY{R:Type}(aK:au->Bool->Int->Option (au))(w:au)(w1:Bool)(n' gX:Int)(jf iP:aC)(iM:au)(k:au->Option R):Option R:=
 bif(9+jf.length).ble 9223372036854775807 then
 (bif(([102,117,110,99,116,105,111,110,32]++jf).length+1).ble 9223372036854775807 then
 ((M.H7 aK (i64.wrap ((↑iM.length:Int) - 1)) w w1 n' gX jf iP iM (([102,117,110,99,116,105,111,110,32]++jf++[40],0))).bind λaCO=>
 (bif(aCO.1.length+2).ble 9223372036854775807 then
 ((M.aI (aCO.1++[41,32])).bind λaVq=>
 ((idx iM (i64.wrap ((↑iM.length:Int) - 1))).bind λawn=>
 ((fB .i64 awn 0).bind λaVr=>
 ((aK w w1 aVr).bind λaVs=>
 ((M.aS 6 0 (bM [[D.sl true 4 aVq],[D.sl true 4 aVs]])).bind λaCP=>(bif[[D.sl true 4 aCP]].all dQ then(k aCP) else none)))))) else none)) else none) else none
def C.ZF{aK:au->Bool->Int->Option (au)}(jG:S.lG.ok X0 λx=>aK x.1.1.1 x.1.1.2.1 x.1.2.1):S.Bo.ok X0 λx=>M.vY aK x.1.1.1 x.1.1.2.1 x.1.2.1.1 x.1.2.1.2.1 x.1.2.1.2.2.1 x.1.2.1.2.2.2.1 x.1.2.1.2.2.2.2.1 some:=fnS (λx=>M.vY aK x.1.1.1 x.1.1.2.1 x.1.2.1.1 x.1.2.1.2.1 x.1.2.1.2.2.1 x.1.2.1.2.2.2.1 x.1.2.1.2.2.2.2.1) [fe C.aI,fe jG,fe C.aS] [F.H7 jG] (by intros;unfold M.vY;repeat' first|with_reducible apply gZ|with_reducible apply GV|with_reducible apply GX|with_reducible apply GY|with_reducible apply GZ|(intro _)|apply gZ|rfl)
def M.ql{R:Type}(aK:au->Bool->Int->Option (au))(tN:au->Bool->Int->Int->aC->aC->au->Option (au))(zV:au->Bool->Int->Int->aC->aC->au->Option (au))(zW:au->Bool->Int->Option (au))(w:au)(w1:Bool)(i:Int)(k:au->Option R):Option R:=
 (idx w i).bind λawo=>
 (iK 1 awo λagI awp awq awr WZ=>
 (bif agI==40 then
 ((M.aI [66,69,71,73,78,32]).bind λaVt=>
 ((idx WZ 0).bind λawt=>
 ((fB .i64 awt 0).bind λaVu=>
 ((aK w w1 aVu).bind λaVv=>
 ((M.aS 6 0 (bM [[D.sl true 4 aVt],[D.sl true 4 aVv]])).bind λaCQ=>(bif[[D.sl true 4 aCQ]].all dQ then(k aCQ) else none)))))) else
 (bif agI==41 then
 ((M.aI [69,78,68,32]).bind λaVw=>
 ((idx WZ 0).bind λawu=>
 ((fB .i64 awu 0).bind λaVx=>
 ((aK w w1 aVx).bind λaVy=>
 ((M.aS 6 0 (bM [[D.sl true 4 aVw],[D.sl true 4 aVy]])).bind λaCR=>(bif[[D.sl true 4 aCR]].all dQ then(k aCR) else none)))))) else
 (bif agI==42 then((tN w w1 agI awp awq awr WZ).bind λaVz=>(k aVz)) else
 (bif agI==43 then((tN w w1 agI awp awq awr WZ).bind λaVA=>(k aVA)) else
 (bif agI==44 then((zV w w1 agI awp awq awr WZ).bind λaVB=>(k aVB)) else((zW w w1 i).bind λaVC=>(k aVC))))))))
def C.ZG{aK:au->Bool->Int->Option (au)}{tN:au->Bool->Int->Int->aC->aC->au->Option (au)}{zV:au->Bool->Int->Int->aC->aC->au->Option (au)}{zW:au->Bool->Int->Option (au)}(jG:S.lG.ok X0 λx=>aK x.1.1.1 x.1.1.2.1 x.1.2.1)(ZH:S.yZ.ok X0 λx=>tN x.1.1.1 x.1.1.2.1 x.1.2.1.1 x.1.2.1.2.1 x.1.2.1.2.2.1 x.1.2.1.2.2.2.1 x.1.2.1.2.2.2.2.1)(abE:S.Bo.ok X0 λx=>zV x.1.1.1 x.1.1.2.1 x.1.2.1.1 x.1.2.1.2.1 x.1.2.1.2.2.1 x.1.2.1.2.2.2.1 x.1.2.1.2.2.2.2.1)(abG:S.Bv.ok X0 λx=>zW x.1.1.1 x.1.1.2.1 x.1.2.1):S.mM.ok X0 λx=>M.ql aK tN zV zW x.1.1.1 x.1.1.2.1 x.1.2.1 some:=fnS (λx=>M.ql aK tN zV zW x.1.1.1 x.1.1.2.1 x.1.2.1) [fe C.aI,fe jG,fe C.aS,fe ZH,fe abE,fe abG] [] (by intros;simp only[M.ql,iK];repeat' first|with_reducible apply gZ|with_reducible apply GV|with_reducible apply GX|with_reducible apply GY|with_reducible apply GZ|(intro _)|apply gZ|rfl)
def M.yt{R:Type}(jD:au->Bool->Int->Option (au))(kids x':au)(qR:Bool)(s:Int×au)(kn:Int×au->Option R)(ke:Int×au->Option R):Option R:=match s with
 |(k',wO)=>
 bif decide (k'<(↑kids.length:Int)) then
 ((idx kids k').bind λawv=>
 ((fB .i64 awv 0).bind λaVD=>
 ((jD x' qR aVD).bind λaVE=>
 (jc wO [[D.sl true 4 aVE]] 24 λza=>(kn ((i64.wrap (k'+1),za))))))) else(ke ((k',wO)))
def M.DN(jD:au->Bool->Int->Option (au))(kids x':au)(qR:Bool)(s:Int×au):=M.yt jD kids x' qR s (λs=>some (Sum.inl s)) λt=>some (Sum.inr t)
def M.H8(jD:au->Bool->Int->Option (au))(kids x':au)(qR:Bool)(s:Int×au):Option (Int×au):=iT (M.DN jD kids x' qR) s
def F.H8{jD:au->Bool->Int->Option (au)}(Oz:S.mM.ok X0 λx=>jD x.1.1.1 x.1.1.2.1 x.1.2.1):LE X0 115:=le 3 (KF [fM 1 (pL false 1),fM 2 (pP 300000 0),fM 5 (pO 300001 0),fM 6 pI] [fM 300000 (cB 45 [pL false 5,pB]),fM 300001 (cA false false 0 1)]) (λx=>(x.1.2.2.2.1,x.2.2.1)) (λx s=>((x.1.1,(),(),s.1,()),((x.2.1.1,x.2.1.2.1,()),s.2,()))) (λx=> .leaf (Int×au) (λt=>(Ex.exit 0,{tm:=[(1,V.d (D.sl false 1 x.1.1)),(2,V.ptr 300000 0),(5,V.own 300001 0),(6,V.d (D.int .i64 t.1)),(11,V.d (D.bool false))],mem:=[(300000,Cell.box 45 [V.d (D.sl false 5 x.2.1.1),V.d (D.bool x.2.1.2.1)]),(300001,Cell.arr false false 0 1 t.2)]}))) (λx=>M.yt jD x.1.1 x.2.1.1 x.2.1.2.1) [fe Oz] [] (by rintro _ _ ⟨_,_⟩ _ _<;>unfold M.yt<;>repeat' first|with_reducible apply gZ|with_reducible apply GV|with_reducible apply GX|with_reducible apply GY|with_reducible apply GZ|(intro _)|apply gZ|rfl)
def M.zX{R:Type}(jD:au->Bool->Int->Option (au))(w:au)(w1:Bool)(kids:au)(k:au->Option R):Option R:=
 (M.H8 jD kids w w1 ((0,[]))).bind λaVF=>(k aVF.2)
def C.ZI{jD:au->Bool->Int->Option (au)}(Oz:S.mM.ok X0 λx=>jD x.1.1.1 x.1.1.2.1 x.1.2.1):S.Bq.ok X0 λx=>M.zX jD x.1.1.1 x.1.1.2.1 x.1.2.1 some:=fnS (λx=>M.zX jD x.1.1.1 x.1.1.2.1 x.1.2.1) [] [F.H8 Oz] (by intros;unfold M.zX;repeat' first|with_reducible apply gZ|with_reducible apply GV|with_reducible apply GX|with_reducible apply GY|with_reducible apply GZ|(intro _)|apply gZ|rfl)
def M.JK{R:Type}(k:au->Option R):Option R:=
 k ([[D.int .i64 3,D.int .i64 0,D.str [],D.sl true 1 []]])
def M.og:Option (au):=M.JK some
def C.og:S.og.ok X0 λx=>M.og:=fnS (λx=>M.JK) [] [] (by intros;simp only[M.JK,nb]<;>rfl)
def M.vZ{R:Type}(parts:au)(s:Int×au)(kn:Int×au->Option R)(ke:Int×au->Option R):Option R:=match s with
 |(k',x')=>
 bif decide (k'<(↑parts.length:Int)) then
 (M.og.bind λaVG=>
 ((idx parts k').bind λaww=>
 ((TL 4 aww 0).bind λarj=>
 (jc x' [[D.sl true 4 aVG],[D.sl false 4 arj]] 24 λza=>(kn ((i64.wrap (k'+1),za))))))) else(ke ((k',x')))
def M.BL(parts:au)(s:Int×au):=M.vZ parts s (λs=>some (Sum.inl s)) λt=>some (Sum.inr t)
def M.Fz(parts:au)(s:Int×au):Option (Int×au):=iT (M.BL parts) s
def F.Fz:LE X0 114:=le 3 (KF [fM 0 (pL false 1),fM 3 (pO 300000 0),fM 4 pI] [fM 300000 (cA false false 0 1)]) (λx=>(x.1.2.2.1,x.2.1)) (λx s=>((x.1.1,(),s.1,()),(s.2,()))) (λx=> .leaf (Int×au) (λt=>(Ex.exit 0,{tm:=[(0,V.d (D.sl false 1 x.1.1)),(3,V.own 300000 0),(4,V.d (D.int .i64 t.1)),(9,V.d (D.bool false))],mem:=[(300000,Cell.arr false false 0 1 t.2)]}))) (λx=>M.vZ x.1.1) [fe C.og] [] (by rintro _ _ ⟨_,_⟩ _ _<;>simp only[jc,M.vZ,nb]<;>rfl)
def M.H9{R:Type}(parts:au)(k:au->Option R):Option R:=
 (M.Fz parts ((0,[]))).bind λaVH=>
 ((M.aS 6 0 (bM aVH.2)).bind λaCS=>(bif[[D.sl true 4 aCS]].all dQ then(k aCS) else none))
def M.uX(parts:au):Option (au):=M.H9 parts some
def C.uX:S.uX.ok X0 λx=>M.uX x.1.1:=fnS (λx=>M.H9 x.1.1) [fe C.aS] [F.Fz] (by intros;simp only[M.H9,nb]<;>rfl)
def M.wY{R:Type}(zY:au->Bool->au->Option (au))(w:au)(w1:Bool)(i:Int)(k:au->Option R):Option R:=
 (M.aI [123]).bind λaVI=>
 ((idx w i).bind λawx=>
 ((TL 1 awx 4).bind λark=>
 ((zY w w1 ark).bind λaVJ=>
 ((M.uX (bM aVJ)).bind λaCT=>
 (bif[[D.sl true 4 aCT]].all dQ then
 ((M.aS 4 4 (bM [[D.sl true 4 aCT]])).bind λaCU=>
 (bif[[D.sl true 4 aCU]].all dQ then
 (M.og.bind λaVK=>
 ((M.aI [125]).bind λaVL=>
 ((M.aS 6 0 (bM [[D.sl true 4 aVI],[D.sl true 4 aCU],[D.sl true 4 aVK],[D.sl true 4 aVL]])).bind λaCV=>(bif[[D.sl true 4 aCV]].all dQ then(k aCV) else none)))) else none)) else none)))))
def C.X9{zY:au->Bool->au->Option (au)}(abH:S.Bq.ok X0 λx=>zY x.1.1.1 x.1.1.2.1 x.1.2.1):S.lG.ok X0 λx=>M.wY zY x.1.1.1 x.1.1.2.1 x.1.2.1 some:=fnS (λx=>M.wY zY x.1.1.1 x.1.1.2.1 x.1.2.1) [fe C.aI,fe abH,fe C.uX,fe C.aS,fe C.og] [] (by intros;unfold M.wY;repeat' first|with_reducible apply gZ|with_reducible apply GV|with_reducible apply GX|with_reducible apply GY|with_reducible apply GZ|(intro _)|apply gZ|rfl)
def M.BM{R:Type}(aK:au->Bool->Int->Option (au))(w:au)(w1:Bool)(n' gX:Int)(jf iP:aC)(iM:au)(k:au->Option R):Option R:=
 (M.aI [105,102,32,40]).bind λaVM=>
 ((idx iM 0).bind λawy=>
 ((fB .i64 awy 0).bind λaVN=>
 (M.iw.bind λaot=>
 ((M.eX w w1 aVN aot.1 aot.2.1 aot.2.2.1 aot.2.2.2.1 aot.2.2.2.2).bind λaVO=>
 ((M.aI [41,32]).bind λaVP=>
 ((idx iM 1).bind λawz=>
 ((fB .i64 awz 0).bind λaVQ=>
 ((aK w w1 aVQ).bind λaVR=>
 ((M.aS 6 0 (bM [[D.sl true 4 aVM],[D.sl true 4 aVO],[D.sl true 4 aVP],[D.sl true 4 aVR]])).bind λawC=>
 (bif[[D.sl true 4 awC]].all dQ then
 (bif(↑iM.length:Int)==2 then(k awC) else
 ((M.aI [32,101,108,115,101,32]).bind λaVS=>
 ((idx iM 2).bind λawD=>
 ((fB .i64 awD 0).bind λaVT=>
 ((aK w w1 aVT).bind λaVU=>
 ((M.aS 6 0 (bM [[D.sl true 4 awC],[D.sl true 4 aVS],[D.sl true 4 aVU]])).bind λaCW=>(bif[[D.sl true 4 aCW]].all dQ then(k aCW) else none))))))) else none))))))))))
def C.adq{aK:au->Bool->Int->Option (au)}(jG:S.lG.ok X0 λx=>aK x.1.1.1 x.1.1.2.1 x.1.2.1):S.IU.ok X0 λx=>M.BM aK x.1.1.1 x.1.1.2.1 x.1.2.1.1 x.1.2.1.2.1 x.1.2.1.2.2.1 x.1.2.1.2.2.2.1 x.1.2.1.2.2.2.2.1 some:=fnS (λx=>M.BM aK x.1.1.1 x.1.1.2.1 x.1.2.1.1 x.1.2.1.2.1 x.1.2.1.2.2.1 x.1.2.1.2.2.2.1 x.1.2.1.2.2.2.2.1) [fe C.aI,fe C.iw,fe C.eX,fe jG,fe C.aS] [] (by intros;unfold M.BM;repeat' first|with_reducible apply gZ|with_reducible apply GV|with_reducible apply GX|with_reducible apply GY|with_reducible apply GZ|(intro _)|apply gZ|rfl)
def M.y8{R:Type}(aK:au->Bool->Int->Option (au))(w:au)(w1:Bool)(n' gX:Int)(jf iP:aC)(iM:au)(k:au->Option R):Option R:=
 (M.aI []).bind λaVV=>
 ((idx iM 0).bind λawE=>
 ((fB .i64 awE 0).bind λaVW=>
 ((idx w aVW).bind λawF=>
 ((fB .i64 awF 0).bind λaVX=>
 (bif aVX !=16 then
 ((idx iM 0).bind λawG=>
 ((fB .i64 awG 0).bind λaVY=>
 ((M.eX w w1 aVY 1 false true false false).bind λaVZ=>
 ((M.aI [102,111,114,32,40]).bind λaV1=>
 ((M.aI [59]).bind λaV2=>
 ((idx iM 1).bind λawH=>
 ((fB .i64 awH 0).bind λaV3=>
 ((M.ny w w1 aV3).bind λaV4=>
 ((M.aI [59]).bind λaV5=>
 ((idx iM 2).bind λawI=>
 ((fB .i64 awI 0).bind λaV6=>
 ((M.ny w w1 aV6).bind λaV7=>
 ((M.aI [41,32]).bind λaV8=>
 ((idx iM 3).bind λawJ=>
 ((fB .i64 awJ 0).bind λaV9=>
 ((aK w w1 aV9).bind λaWa=>
 ((M.aS 6 0 (bM [[D.sl true 4 aV1],[D.sl true 4 aVZ],[D.sl true 4 aV2],[D.sl true 4 aV4],[D.sl true 4 aV5],[D.sl true 4 aV7],[D.sl true 4 aV8],[D.sl true 4 aWa]])).bind λaCX=>(bif[[D.sl true 4 aCX]].all dQ then(k aCX) else none)))))))))))))))))) else
 ((M.aI [102,111,114,32,40]).bind λaWb=>
 ((M.aI [59]).bind λaWc=>
 ((idx iM 1).bind λawK=>
 ((fB .i64 awK 0).bind λaWd=>
 ((M.ny w w1 aWd).bind λaWe=>
 ((M.aI [59]).bind λaWf=>
 ((idx iM 2).bind λawL=>
 ((fB .i64 awL 0).bind λaWg=>
 ((M.ny w w1 aWg).bind λaWh=>
 ((M.aI [41,32]).bind λaWi=>
 ((idx iM 3).bind λawM=>
 ((fB .i64 awM 0).bind λaWj=>
 ((aK w w1 aWj).bind λaWk=>
 ((M.aS 6 0 (bM [[D.sl true 4 aWb],[D.sl true 4 aVV],[D.sl true 4 aWc],[D.sl true 4 aWe],[D.sl true 4 aWf],[D.sl true 4 aWh],[D.sl true 4 aWi],[D.sl true 4 aWk]])).bind λaCY=>(bif[[D.sl true 4 aCY]].all dQ then(k aCY) else none))))))))))))))))))))
def C.abI{aK:au->Bool->Int->Option (au)}(jG:S.lG.ok X0 λx=>aK x.1.1.1 x.1.1.2.1 x.1.2.1):S.Es.ok X0 λx=>M.y8 aK x.1.1.1 x.1.1.2.1 x.1.2.1.1 x.1.2.1.2.1 x.1.2.1.2.2.1 x.1.2.1.2.2.2.1 x.1.2.1.2.2.2.2.1 some:=fnS (λx=>M.y8 aK x.1.1.1 x.1.1.2.1 x.1.2.1.1 x.1.2.1.2.1 x.1.2.1.2.2.1 x.1.2.1.2.2.2.1 x.1.2.1.2.2.2.2.1) [fe C.aI,fe C.eX,fe C.ny,fe jG,fe C.aS] [] (by intros;unfold M.y8;repeat' first|with_reducible apply gZ|with_reducible apply GV|with_reducible apply GX|with_reducible apply GY|with_reducible apply GZ|(intro _)|apply gZ|rfl)
def M.fO{R:Type}(Ez:au->Bool->Int->Int->aC->aC->au->Option (au))(aK:au->Bool->Int->Option (au))(CX:au->Bool->Int->Int->aC->aC->au->Option (au))(w:au)(w1:Bool)(i:Int)(k:au->Option R):Option R:=
 (idx w i).bind λawN=>
 (iK 1 awN λn280 n281 W9 ama FB=>
 (bif n280==20 then
 ((idx FB 0).bind λawO=>
 ((fB .i64 awO 0).bind λn286=>
 (M.iw.bind λaou=>
 ((M.eX w w1 n286 aou.1 aou.2.1 aou.2.2.1 aou.2.2.2.1 aou.2.2.2.2).bind λaWl=>(k aWl))))) else
 (bif n280==21 then((M.uV w w1 n280 n281 W9 ama FB).bind λaWm=>(k aWm)) else
 (bif n280==22 then((M.aI [110,101,120,116]).bind λaWn=>(k aWn)) else
 (bif n280==23 then((M.uN w w1 [101,120,105,116] FB).bind λaWo=>(k aWo)) else
 (bif n280==24 then((M.uN w w1 [114,101,116,117,114,110] FB).bind λaWp=>(k aWp)) else
 (bif n280==25 then((M.aI [98,114,101,97,107]).bind λaWq=>(k aWq)) else
 (bif n280==26 then((M.aI [99,111,110,116,105,110,117,101]).bind λaWr=>(k aWr)) else
 (bif n280==27 then
 (bif(↑FB.length:Int)==0 then
 (bif(7+W9.length).ble 9223372036854775807 then((M.aI ([100,101,108,101,116,101,32]++W9)).bind λaWs=>(k aWs)) else none) else
 (bif(7+W9.length).ble 9223372036854775807 then
 (bif(([100,101,108,101,116,101,32]++W9).length+1).ble 9223372036854775807 then
 ((M.aI ([100,101,108,101,116,101,32]++W9++[91])).bind λaWt=>
 (M.iw.bind λaov=>
 ((M.jC w w1 FB aov.1 aov.2.1 aov.2.2.1 aov.2.2.2.1 aov.2.2.2.2).bind λaWu=>
 ((M.aI [93]).bind λaWv=>
 ((M.aS 6 0 (bM [[D.sl true 4 aWt],[D.sl true 4 aWu],[D.sl true 4 aWv]])).bind λaCZ=>(bif[[D.sl true 4 aCZ]].all dQ then(k aCZ) else none)))))) else none) else none)) else
 (bif n280==28 then((Ez w w1 n280 n281 W9 ama FB).bind λaWw=>(k aWw)) else
 (bif n280==29 then
 ((M.aI [119,104,105,108,101,32,40]).bind λaWx=>
 ((idx FB 0).bind λawP=>
 ((fB .i64 awP 0).bind λaWy=>
 (M.iw.bind λaow=>
 ((M.eX w w1 aWy aow.1 aow.2.1 aow.2.2.1 aow.2.2.2.1 aow.2.2.2.2).bind λaWz=>
 ((M.aI [41,32]).bind λaWA=>
 ((idx FB 1).bind λawQ=>
 ((fB .i64 awQ 0).bind λaWB=>
 ((aK w w1 aWB).bind λaWC=>
 ((M.aS 6 0 (bM [[D.sl true 4 aWx],[D.sl true 4 aWz],[D.sl true 4 aWA],[D.sl true 4 aWC]])).bind λaC0=>(bif[[D.sl true 4 aC0]].all dQ then(k aC0) else none))))))))))) else
 (bif n280==30 then
 ((M.aI [100,111,32]).bind λaWD=>
 ((idx FB 0).bind λawR=>
 ((fB .i64 awR 0).bind λaWE=>
 ((aK w w1 aWE).bind λaWF=>
 ((M.aI [32,119,104,105,108,101,32,40]).bind λaWG=>
 ((idx FB 1).bind λawS=>
 ((fB .i64 awS 0).bind λaWH=>
 (M.iw.bind λaox=>
 ((M.eX w w1 aWH aox.1 aox.2.1 aox.2.2.1 aox.2.2.2.1 aox.2.2.2.2).bind λaWI=>
 ((M.aI [41]).bind λaWJ=>
 ((M.aS 6 0 (bM [[D.sl true 4 aWD],[D.sl true 4 aWF],[D.sl true 4 aWG],[D.sl true 4 aWI],[D.sl true 4 aWJ]])).bind λaC1=>(bif[[D.sl true 4 aC1]].all dQ then(k aC1) else none)))))))))))) else
 (bif n280==31 then((CX w w1 n280 n281 W9 ama FB).bind λaWK=>(k aWK)) else
 (bif n280==32 then
 (bif(5+W9.length).ble 9223372036854775807 then
 (bif(([102,111,114,32,40]++W9).length+4).ble 9223372036854775807 then
 (bif(([102,111,114,32,40]++W9++[32,105,110,32]).length+ama.length).ble 9223372036854775807 then
 (bif(([102,111,114,32,40]++W9++[32,105,110,32]++ama).length+2).ble 9223372036854775807 then
 ((M.aI ([102,111,114,32,40]++W9++[32,105,110,32]++ama++[41,32])).bind λaWL=>
 ((idx FB 0).bind λawT=>
 ((fB .i64 awT 0).bind λaWM=>
 ((aK w w1 aWM).bind λaWN=>
 ((M.aS 6 0 (bM [[D.sl true 4 aWL],[D.sl true 4 aWN]])).bind λaC2=>(bif[[D.sl true 4 aC2]].all dQ then(k aC2) else none)))))) else none) else none) else none) else none) else
 (bif n280==33 then((aK w w1 i).bind λaWO=>(k aWO)) else((M.aI W9).bind λaWP=>(k aWP)))))))))))))))))
def C.ZJ{Ez:au->Bool->Int->Int->aC->aC->au->Option (au)}{aK:au->Bool->Int->Option (au)}{CX:au->Bool->Int->Int->aC->aC->au->Option (au)}(afr:S.IU.ok X0 λx=>Ez x.1.1.1 x.1.1.2.1 x.1.2.1.1 x.1.2.1.2.1 x.1.2.1.2.2.1 x.1.2.1.2.2.2.1 x.1.2.1.2.2.2.2.1)(jG:S.lG.ok X0 λx=>aK x.1.1.1 x.1.1.2.1 x.1.2.1)(adr:S.Es.ok X0 λx=>CX x.1.1.1 x.1.1.2.1 x.1.2.1.1 x.1.2.1.2.1 x.1.2.1.2.2.1 x.1.2.1.2.2.2.1 x.1.2.1.2.2.2.2.1):S.Bv.ok X0 λx=>M.fO Ez aK CX x.1.1.1 x.1.1.2.1 x.1.2.1 some:=fnS (λx=>M.fO Ez aK CX x.1.1.1 x.1.1.2.1 x.1.2.1) [fe C.iw,fe C.eX,fe C.uV,fe C.aI,fe C.uN,fe C.jC,fe C.aS,fe afr,fe jG,fe adr] [] (by intros;simp only[M.fO,iK];repeat' first|with_reducible apply gZ|with_reducible apply GV|with_reducible apply GX|with_reducible apply GY|with_reducible apply GZ|(intro _)|apply gZ|rfl)
def M.iO:Nat->(au->Bool->Int->Option (au))×(au->Bool->Int->Int->aC->aC->au->Option (au))×(au->Bool->Int->Int->aC->aC->au->Option (au))×(au->Bool->Int->Option (au))×(au->Bool->au->Option (au))×(au->Bool->Int->Option (au))×(au->Bool->Int->Int->aC->aC->au->Option (au))×(au->Bool->Int->Int->aC->aC->au->Option (au)):=
 Nat.rec (λ_ _ _=>none,λ_ _ _ _ _ _ _=>none,λ_ _ _ _ _ _ _=>none,λ_ _ _=>none,λ_ _ _=>none,λ_ _ _=>none,λ_ _ _ _ _ _ _=>none,λ_ _ _ _ _ _ _=>none) λ_ qz=>(λw w1 i=>M.fO qz.2.2.2.2.2.2.1 qz.2.2.2.2.2.1 qz.2.2.2.2.2.2.2 w w1 i some,λw w1 n' gX jf iP iM=>M.uo qz.2.2.2.2.2.1 w w1 n' gX jf iP iM some,λw w1 n' gX jf iP iM=>M.vY qz.2.2.2.2.2.1 w w1 n' gX jf iP iM some,λw w1 i=>M.ql qz.2.2.2.2.2.1 qz.2.1 qz.2.2.1 qz.1 w w1 i some,λw w1 kids=>M.zX qz.2.2.2.1 w w1 kids some,λw w1 i=>M.wY qz.2.2.2.2.1 w w1 i some,λw w1 n' gX jf iP iM=>M.BM qz.2.2.2.2.2.1 w w1 n' gX jf iP iM some,λw w1 n' gX jf iP iM=>M.y8 qz.2.2.2.2.2.1 w w1 n' gX jf iP iM some)
def M.EC(n:Nat):au->Bool->Int->Option (au):=(M.iO n).1
def M.Ia(n:Nat):au->Bool->Int->Int->aC->aC->au->Option (au):=(M.iO n).2.1
def M.JL(n:Nat):au->Bool->Int->Int->aC->aC->au->Option (au):=(M.iO n).2.2.1
def M.nU(n:Nat):au->Bool->Int->Option (au):=(M.iO n).2.2.2.1
def M.zZ(n:Nat):au->Bool->au->Option (au):=(M.iO n).2.2.2.2.1
def M.gY(n:Nat):au->Bool->Int->Option (au):=(M.iO n).2.2.2.2.2.1
def M.NM(n:Nat):au->Bool->Int->Int->aC->aC->au->Option (au):=(M.iO n).2.2.2.2.2.2.1
def M.LQ(n:Nat):au->Bool->Int->Int->aC->aC->au->Option (au):=(M.iO n).2.2.2.2.2.2.2
def M.abJ(n:Nat):M.EC (n+1)=λw w1 i=>M.fO (M.NM n) (M.gY n) (M.LQ n) w w1 i some:=rfl
def M.ZK(n:Nat):M.Ia (n+1)=λw w1 n' gX jf iP iM=>M.uo (M.gY n) w w1 n' gX jf iP iM some:=rfl
def M.abK(n:Nat):M.JL (n+1)=λw w1 n' gX jf iP iM=>M.vY (M.gY n) w w1 n' gX jf iP iM some:=rfl
def M.JM(n:Nat):M.nU (n+1)=λw w1 i=>M.ql (M.gY n) (M.Ia n) (M.JL n) (M.EC n) w w1 i some:=rfl
def M.abL(n:Nat):M.zZ (n+1)=λw w1 kids=>M.zX (M.nU n) w w1 kids some:=rfl
def M.ZL(n:Nat):M.gY (n+1)=λw w1 i=>M.wY (M.zZ n) w w1 i some:=rfl
def M.Xa(n:Nat):M.NM (n+1)=λw w1 n' gX jf iP iM=>M.BM (M.gY n) w w1 n' gX jf iP iM some:=rfl
def M.UF(n:Nat):M.LQ (n+1)=λw w1 n' gX jf iP iM=>M.y8 (M.gY n) w w1 n' gX jf iP iM some:=rfl
def M.Bv(w:au)(w1:Bool)(i:Int):Option (au):=lim λn=>M.EC n w w1 i
def M.yZ(w:au)(w1:Bool)(n' gX:Int)(jf iP:aC)(iM:au):Option (au):=lim λn=>M.Ia n w w1 n' gX jf iP iM
def M.Bo(w:au)(w1:Bool)(n' gX:Int)(jf iP:aC)(iM:au):Option (au):=lim λn=>M.JL n w w1 n' gX jf iP iM
def M.mM(w:au)(w1:Bool)(i:Int):Option (au):=lim λn=>M.nU n w w1 i
def M.Bq(w:au)(w1:Bool)(kids:au):Option (au):=lim λn=>M.zZ n w w1 kids
def M.lG(w:au)(w1:Bool)(i:Int):Option (au):=lim λn=>M.gY n w w1 i
def M.IU(w:au)(w1:Bool)(n' gX:Int)(jf iP:aC)(iM:au):Option (au):=lim λn=>M.NM n w w1 n' gX jf iP iM
def M.Es(w:au)(w1:Bool)(n' gX:Int)(jf iP:aC)(iM:au):Option (au):=lim λn=>M.LQ n w w1 n' gX jf iP iM
def C.iO:∀n,(S.Bv.ok X0 λx=>M.EC n x.1.1.1 x.1.1.2.1 x.1.2.1)∧(S.yZ.ok X0 λx=>M.Ia n x.1.1.1 x.1.1.2.1 x.1.2.1.1 x.1.2.1.2.1 x.1.2.1.2.2.1 x.1.2.1.2.2.2.1 x.1.2.1.2.2.2.2.1)∧(S.Bo.ok X0 λx=>M.JL n x.1.1.1 x.1.1.2.1 x.1.2.1.1 x.1.2.1.2.1 x.1.2.1.2.2.1 x.1.2.1.2.2.2.1 x.1.2.1.2.2.2.2.1)∧(S.mM.ok X0 λx=>M.nU n x.1.1.1 x.1.1.2.1 x.1.2.1)∧(S.Bq.ok X0 λx=>M.zZ n x.1.1.1 x.1.1.2.1 x.1.2.1)∧(S.lG.ok X0 λx=>M.gY n x.1.1.1 x.1.1.2.1 x.1.2.1)∧(S.IU.ok X0 λx=>M.NM n x.1.1.1 x.1.1.2.1 x.1.2.1.1 x.1.2.1.2.1 x.1.2.1.2.2.1 x.1.2.1.2.2.2.1 x.1.2.1.2.2.2.2.1)∧(S.Es.ok X0 λx=>M.LQ n x.1.1.1 x.1.1.2.1 x.1.2.1.1 x.1.2.1.2.1 x.1.2.1.2.2.1 x.1.2.1.2.2.2.1 x.1.2.1.2.2.2.2.1)
 |0=>⟨fK.zero,fK.zero,fK.zero,fK.zero,fK.zero,fK.zero,fK.zero,fK.zero⟩
 |n+1=>have h:=C.iO n;⟨C.ZJ h.2.2.2.2.2.2.1 h.2.2.2.2.2.1 h.2.2.2.2.2.2.2,C.X8 h.2.2.2.2.2.1,C.ZF h.2.2.2.2.2.1,C.ZG h.2.2.2.2.2.1 h.2.1 h.2.2.1 h.1,C.ZI h.2.2.2.1,C.X9 h.2.2.2.2.1,C.adq h.2.2.2.2.2.1,C.abI h.2.2.2.2.2.1⟩
def C.Bv:S.Bv.ok X0 λx=>M.Bv x.1.1.1 x.1.1.2.1 x.1.2.1:=fK.lim λn=>(C.iO n).1
def C.yZ:S.yZ.ok X0 λx=>M.yZ x.1.1.1 x.1.1.2.1 x.1.2.1.1 x.1.2.1.2.1 x.1.2.1.2.2.1 x.1.2.1.2.2.2.1 x.1.2.1.2.2.2.2.1:=fK.lim λn=>(C.iO n).2.1
def C.Bo:S.Bo.ok X0 λx=>M.Bo x.1.1.1 x.1.1.2.1 x.1.2.1.1 x.1.2.1.2.1 x.1.2.1.2.2.1 x.1.2.1.2.2.2.1 x.1.2.1.2.2.2.2.1:=fK.lim λn=>(C.iO n).2.2.1
def C.mM:S.mM.ok X0 λx=>M.mM x.1.1.1 x.1.1.2.1 x.1.2.1:=fK.lim λn=>(C.iO n).2.2.2.1
def M.ZM{n:Nat}{w:au}{w1:Bool}{i:Int}{r:au}(h:M.nU n w w1 i=some r):M.mM w w1 i=some r:=
 fK.Em (λn=>(C.iO n).2.2.2.1) (by intro a b h;simp[S.mM,sg] at h;first|exact h|simp[Prod.ext_iff,h]) (x:=(((w,w1,()),i,()),())) h
def C.Bq:S.Bq.ok X0 λx=>M.Bq x.1.1.1 x.1.1.2.1 x.1.2.1:=fK.lim λn=>(C.iO n).2.2.2.2.1
def C.lG:S.lG.ok X0 λx=>M.lG x.1.1.1 x.1.1.2.1 x.1.2.1:=fK.lim λn=>(C.iO n).2.2.2.2.2.1
def C.IU:S.IU.ok X0 λx=>M.IU x.1.1.1 x.1.1.2.1 x.1.2.1.1 x.1.2.1.2.1 x.1.2.1.2.2.1 x.1.2.1.2.2.2.1 x.1.2.1.2.2.2.2.1:=fK.lim λn=>(C.iO n).2.2.2.2.2.2.1
def C.Es:S.Es.ok X0 λx=>M.Es x.1.1.1 x.1.1.2.1 x.1.2.1.1 x.1.2.1.2.1 x.1.2.1.2.2.1 x.1.2.1.2.2.2.1 x.1.2.1.2.2.2.2.1:=fK.lim λn=>(C.iO n).2.2.2.2.2.2.2
def C.jZ:S.jZ.ok X0 λx=>M.jZ x.1.1:=fK.Rx (p:=Prim.jZ)
def M.JO{R:Type}(l:au)(k:Bool->Option R):Option R:=
 (M.jZ l).bind λaWQ=>(k aWQ.2)
def M.xK(l:au):Option (Bool):=M.JO l some
def C.xK:S.xK.ok X0 λx=>M.xK x.1.1:=fnS (λx=>M.JO x.1.1) [fe C.jZ] [] (by intros;simp only[M.JO,nb]<;>rfl)
def M.y9{R:Type}(n' low high:Int)(k:Bool->Option R):Option R:=
 bif decide (n'>=low) then(k (decide (n'<=high))) else(k false)
def M.dX(n' low high:Int):Option (Bool):=M.y9 n' low high some
def C.dX:S.dX.ok X0 λx=>M.dX x.1.1 x.1.2.1 x.1.2.2.1:=fnS (λx=>M.y9 x.1.1 x.1.2.1 x.1.2.2.1) [] [] (by intros;simp only[M.y9,nb]<;>rfl)
def M.bW{R:Type}(kind:Int)(k:Bool->Option R):Option R:=
 (M.dX kind 1 15).bind λaWR=>(k aWR)
def M.bJ(kind:Int):Option (Bool):=M.bW kind some
def C.bJ:S.bJ.ok X0 λx=>M.bJ x.1.1:=fnS (λx=>M.bW x.1.1) [fe C.dX] [] (by intros;simp only[M.bW,nb]<;>rfl)
def M.Ib{R:Type}(b:Int)(k:Bool->Option R):Option R:=
 bif decide (b>=97) then
 (bif decide (b<=122) then(k true) else
 (bif decide (b>=65) then(bif decide (b<=90) then(k true) else(k (b==95))) else(k (b==95)))) else
 (bif decide (b>=65) then(bif decide (b<=90) then(k true) else(k (b==95))) else(k (b==95)))
def M.o7(b:Int):Option (Bool):=M.Ib b some
def C.o7:S.o7.ok X0 λx=>M.o7 x.1.1:=fnS (λx=>M.Ib x.1.1) [] [] (by intros;simp only[M.Ib,nb]<;>rfl)
def M.JQ{R:Type}(b:Int)(k:Bool->Option R):Option R:=
 bif decide (b>=48) then(k (decide (b<=57))) else(k false)
def M.rQ(b:Int):Option (Bool):=M.JQ b some
def C.rQ:S.rQ.ok X0 λx=>M.rQ x.1.1:=fnS (λx=>M.JQ x.1.1) [] [] (by intros;simp only[M.JQ,nb]<;>rfl)
def M.DR{R:Type}(b:Int)(k:Bool->Option R):Option R:=
 (M.o7 b).bind λaWS=>(bif aWS then(k true) else((M.rQ b).bind λaWT=>(k aWT)))
def M.kD(b:Int):Option (Bool):=M.DR b some
def C.kD:S.kD.ok X0 λx=>M.kD x.1.1:=fnS (λx=>M.DR x.1.1) [fe C.o7,fe C.rQ] [] (by intros;simp only[M.DR,nb]<;>rfl)
def M.uD{R:Type}(s':aC)(v5 s:Int)(kn:Int->Option R)(ke:(Unit)⊕(Int)->Option R):Option R:=match s with
 |v6=>
 bif decide (v6<v5) then
 ((idx s' v6).bind λaWU=>
 ((M.kD (i64.wrap (↑aWU.toNat:Int))).bind λaWV=>(bif !aWV then(ke (.inl ())) else(kn (i64.wrap (v6+1)))))) else(ke (.inr v6))
def M.zu(s':aC)(v5 s:Int):=M.uD s' v5 s (λs=>some (Sum.inl s)) λt=>some (Sum.inr t)
def M.DU(s':aC)(v5 s:Int):Option ((Unit)⊕(Int)):=iT (M.zu s' v5) s
def F.DU:LE X0 200:=le 2 (KF [fM 0 pS,fM 5 pI,fM 6 pI] []) (λx=>x.1.2.2.1) (λx s=>((x.1.1,x.1.2.1,s,()),())) (λx=> .sum (.leaf (Unit) (λt=>(Ex.ret,{tm:=[(2,V.d (D.bool false))],mem:=[]}))) (.leaf (Int) (λt=>(Ex.exit 0,{tm:=[(0,V.d (D.str x.1.1)),(5,V.d (D.int .i64 x.1.2.1)),(6,V.d (D.int .i64 t)),(7,V.d (D.bool false))],mem:=[]})))) (λx=>M.uD x.1.1 x.1.2.1) [fe C.kD] [] (by rintro _ _ _ _ _<;>simp only[M.uD,nb]<;>rfl)
def M.FC{R:Type}(s':aC)(k:Bool->Option R):Option R:=
 (M.DU s' ((↑s'.length:Int)) 0).bind λaWW=>
 yS aWW (λaYw=>(k false)) λaWX=>
 letE aWX λaYx=>
 ((M.dX ((↑s'.length:Int)) 1 12).bind λaWY=>
 (bif aWY then
 ((idx s' 0).bind λaWZ=>((M.o7 (i64.wrap (↑aWZ.toNat:Int))).bind λaW0=>(k aW0))) else(k false)))
def M.sN(s':aC):Option (Bool):=M.FC s' some
def C.sN:S.sN.ok X0 λx=>M.sN x.1.1:=fnS (λx=>M.FC x.1.1) [fe C.dX,fe C.o7] [F.DU] (by intros;simp only[M.FC,nb]<;>rfl)
def M.yu{R:Type}(s':au)(v:aC)(v7 s:Int)(kn:Int->Option R)(ke:(Int)⊕(Int)->Option R):Option R:=match s with
 |v8=>
 bif decide (v8<v7) then
 ((idx s' v8).bind λawU=>
 ((cStr awU 0).bind λaW1=>(bif v==aW1 then(ke (.inl v8)) else(kn (i64.wrap (v8+1)))))) else(ke (.inr v8))
def M.DV(s':au)(v:aC)(v7 s:Int):=M.yu s' v v7 s (λs=>some (Sum.inl s)) λt=>some (Sum.inr t)
def M.Ic(s':au)(v:aC)(v7 s:Int):Option ((Int)⊕(Int)):=iT (M.DV s' v v7) s
def F.Ic:LE X0 206:=le 2 (KF [fM 0 (pL false 1),fM 1 pS,fM 7 pI,fM 8 pI] []) (λx=>x.1.2.2.2.1) (λx s=>((x.1.1,x.1.2.1,x.1.2.2.1,s,()),())) (λx=> .sum (.leaf (Int) (λt=>(Ex.ret,{tm:=[(4,V.d (D.int .i64 t))],mem:=[]}))) (.leaf (Int) (λt=>(Ex.exit 0,{tm:=[(0,V.d (D.sl false 1 x.1.1)),(1,V.d (D.str x.1.2.1)),(7,V.d (D.int .i64 x.1.2.2.1)),(8,V.d (D.int .i64 t)),(9,V.d (D.bool false))],mem:=[]})))) (λx=>M.yu x.1.1 x.1.2.1 x.1.2.2.1) [] [] (by rintro _ _ _ _ _<;>simp only[M.yu,nb]<;>rfl)
def M.JR{R:Type}(s':au)(v:aC)(k:Int->Option R):Option R:=
 (M.Ic s' v ((↑s'.length:Int)) 0).bind λaW2=>
 yS aW2 (λaW3=>(k aW3)) λaW4=>
 letE aW4 λaYy=>(k (-1))
def M.slices_Index(s':au)(v:aC):Option (Int):=M.JR s' v some
def C.slices_Index:S.slices_Index.ok X0 λx=>M.slices_Index x.1.1 x.1.2.1:=fnS (λx=>M.JR x.1.1 x.1.2.1) [] [F.Ic] (by intros;simp only[M.JR,nb]<;>rfl)
def M.FD{R:Type}(s':aC)(k:Int->Option R):Option R:=
 (M.slices_Index (List.map (λx=>[x]) Az) s').bind λaC3=>(bif decide (aC3<0) then(k 0) else(k (i64.wrap (10+aC3))))
def M.sO(s':aC):Option (Int):=M.FD s' some
def C.sO:S.sO.ok X0 λx=>M.sO x.1.1:=fnS (λx=>M.FD x.1.1) [fe C.slices_Index] [] (by intros;simp only[M.FD,nb]<;>rfl)
def M.yw{R:Type}(s':au)(v:aC)(k:Bool->Option R):Option R:=
 (M.slices_Index s' v).bind λaW5=>(k (decide (aW5>=0)))
def M.slices_Contains(s':au)(v:aC):Option (Bool):=M.yw s' v some
def C.slices_Contains:S.slices_Contains.ok X0 λx=>M.slices_Contains x.1.1 x.1.2.1:=fnS (λx=>M.yw x.1.1 x.1.2.1) [fe C.slices_Index] [] (by intros;simp only[M.yw,nb]<;>rfl)
def M.FH{R:Type}(s':aC)(k:Bool->Option R):Option R:=
 (M.slices_Contains (List.map (λx=>[x]) Jb) s').bind λaW6=>(k aW6)
def M.lX(s':aC):Option (Bool):=M.FH s' some
def C.lX:S.lX.ok X0 λx=>M.lX x.1.1:=fnS (λx=>M.FH x.1.1) [fe C.slices_Contains] [] (by intros;simp only[M.FH,nb]<;>rfl)
def M.LU{R:Type}(s':aC)(k:Bool->Option R):Option R:=
 (M.sN s').bind λaW7=>
 (bif aW7 then
 ((M.sO s').bind λaW8=>(bif aW8==0 then((M.lX s').bind λaW9=>(k !aW9)) else(k false))) else(k false))
def M.jV(s':aC):Option (Bool):=M.LU s' some
def C.jV:S.jV.ok X0 λx=>M.jV x.1.1:=fnS (λx=>M.LU x.1.1) [fe C.sN,fe C.sO,fe C.lX] [] (by intros;simp only[M.LU,nb]<;>rfl)
def C.strings_Contains:S.strings_Contains.ok X0 λx=>M.strings_Contains x.1.1 x.1.2.1:=fK.Rx (p:=Prim.strings_Contains)
def M.LV{R:Type}(s':aC)(at':Int)(k:Int->Option R):Option R:=
 (M.dX at' 0 (i64.wrap ((↑s'.length:Int) - 1))).bind λaXa=>
 (bif !aXa then(k (-1)) else((idx s' at').bind λaXb=>(k (i64.wrap (↑aXb.toNat:Int)))))
def M.jW(s':aC)(at':Int):Option (Int):=M.LV s' at' some
def C.jW:S.jW.ok X0 λx=>M.jW x.1.1 x.1.2.1:=fnS (λx=>M.LV x.1.1 x.1.2.1) [fe C.dX] [] (by intros;simp only[M.LV,nb]<;>rfl)
def M.zx{R:Type}(s':aC)(s:Int)(kn:Int->Option R)(ke:Int->Option R):Option R:=match s with
 |at'=>
 (M.jW s' at').bind λaXc=>
 ((M.rQ aXc).bind λaXd=>(bif aXd then(kn (i64.wrap (at'+1))) else(ke at')))
def M.Nv(s':aC)(s:Int):=M.zx s' s (λs=>some (Sum.inl s)) λt=>some (Sum.inr t)
def M.DW(s':aC)(s:Int):Option (Int):=iT (M.Nv s') s
def F.DW:LE X0 233:=le 1 (KF [fM 0 pS,fM 1 pI] []) (λx=>x.1.2.1) (λx s=>((x.1.1,s,()),())) (λx=> .leaf (Int) (λt=>(Ex.exit 0,{tm:=[(0,V.d (D.str x.1.1)),(1,V.d (D.int .i64 t)),(8,V.d (D.bool false))],mem:=[]}))) (λx=>M.zx x.1.1) [fe C.jW,fe C.rQ] [] (by rintro _ _ _ _ _<;>simp only[M.zx,nb]<;>rfl)
def M.FI{R:Type}(s':aC)(at':Int)(k:Int->Option R):Option R:=
 (M.DW s' at').bind λaXe=>(k aXe)
def M.eY(s':aC)(at':Int):Option (Int):=M.FI s' at' some
def C.eY:S.eY.ok X0 λx=>M.eY x.1.1 x.1.2.1:=fnS (λx=>M.FI x.1.1 x.1.2.1) [] [F.DW] (by intros;simp only[M.FI,nb]<;>rfl)
def M.LW{R:Type}(s':aC)(at':Int)(k:Int->Option R):Option R:=
 (M.dX at' 0 (i64.wrap ((↑s'.length:Int) - 1))).bind λaXf=>
 (bif !aXf then(k (-1)) else
 ((M.eY s' at').bind λKU=>
 ((M.jW s' KU).bind λaXg=>
 (bif aXg==46 then
 ((M.eY s' (i64.wrap (KU+1))).bind λOA=>
 (bif i64.wrap (i64.wrap (KU - at')+i64.wrap (i64.wrap (OA - KU) - 1))==0 then(k (-1)) else
 ((M.jW s' OA).bind λaC4=>
 (bif aC4==101 then
 ((M.jW s' (i64.wrap (OA+1))).bind λaC5=>
 (bif aC5==43 then
 ((M.eY s' (i64.wrap (i64.wrap (OA+1)+1))).bind λaC6=>
 (bif decide (aC6>i64.wrap (i64.wrap (OA+1)+1)) then(k aC6) else(k OA))) else
 (bif aC5==45 then
 ((M.eY s' (i64.wrap (i64.wrap (OA+1)+1))).bind λaC7=>
 (bif decide (aC7>i64.wrap (i64.wrap (OA+1)+1)) then(k aC7) else(k OA))) else
 ((M.eY s' (i64.wrap (OA+1))).bind λaC8=>(bif decide (aC8>i64.wrap (OA+1)) then(k aC8) else(k OA)))))) else
 (bif aC4==69 then
 ((M.jW s' (i64.wrap (OA+1))).bind λaC9=>
 (bif aC9==43 then
 ((M.eY s' (i64.wrap (i64.wrap (OA+1)+1))).bind λaDa=>
 (bif decide (aDa>i64.wrap (i64.wrap (OA+1)+1)) then(k aDa) else(k OA))) else
 (bif aC9==45 then
 ((M.eY s' (i64.wrap (i64.wrap (OA+1)+1))).bind λaDb=>
 (bif decide (aDb>i64.wrap (i64.wrap (OA+1)+1)) then(k aDb) else(k OA))) else
 ((M.eY s' (i64.wrap (OA+1))).bind λaDc=>(bif decide (aDc>i64.wrap (OA+1)) then(k aDc) else(k OA)))))) else(k OA)))))) else
 (bif i64.wrap (KU - at')==0 then(k (-1)) else
 ((M.jW s' KU).bind λaDd=>
 (bif aDd==101 then
 ((M.jW s' (i64.wrap (KU+1))).bind λaDe=>
 (bif aDe==43 then
 ((M.eY s' (i64.wrap (i64.wrap (KU+1)+1))).bind λaDf=>
 (bif decide (aDf>i64.wrap (i64.wrap (KU+1)+1)) then(k aDf) else(k KU))) else
 (bif aDe==45 then
 ((M.eY s' (i64.wrap (i64.wrap (KU+1)+1))).bind λaDg=>
 (bif decide (aDg>i64.wrap (i64.wrap (KU+1)+1)) then(k aDg) else(k KU))) else
 ((M.eY s' (i64.wrap (KU+1))).bind λaDh=>(bif decide (aDh>i64.wrap (KU+1)) then(k aDh) else(k KU)))))) else
 (bif aDd==69 then
 ((M.jW s' (i64.wrap (KU+1))).bind λaDi=>
 (bif aDi==43 then
 ((M.eY s' (i64.wrap (i64.wrap (KU+1)+1))).bind λaDj=>
 (bif decide (aDj>i64.wrap (i64.wrap (KU+1)+1)) then(k aDj) else(k KU))) else
 (bif aDi==45 then
 ((M.eY s' (i64.wrap (i64.wrap (KU+1)+1))).bind λaDk=>
 (bif decide (aDk>i64.wrap (i64.wrap (KU+1)+1)) then(k aDk) else(k KU))) else
 ((M.eY s' (i64.wrap (KU+1))).bind λaDl=>(bif decide (aDl>i64.wrap (KU+1)) then(k aDl) else(k KU)))))) else(k KU)))))))))
def M.AY(s':aC)(at':Int):Option (Int):=M.LW s' at' some
def C.AY:S.AY.ok X0 λx=>M.AY x.1.1 x.1.2.1:=fnS (λx=>M.LW x.1.1 x.1.2.1) [fe C.dX,fe C.eY,fe C.jW] [] (by intros;unfold M.LW;repeat' first|with_reducible apply gZ|with_reducible apply GV|with_reducible apply GX|with_reducible apply GY|with_reducible apply GZ|(intro _)|apply gZ|rfl)
def M.qA{R:Type}(s':aC)(quote s:Int)(kn:Int->Option R)(ke:(Int)⊕(Int)->Option R):Option R:=match s with
 |i=>
 bif decide (i<(↑s'.length:Int)) then
 ((idx s' i).bind λaXh=>
 (bif(↑aXh.toNat:Int) !=10 then
 ((idx s' i).bind λaXi=>
 (bif i64.wrap (↑aXi.toNat:Int)==quote then(ke (.inl (i64.wrap (i+1)))) else
 ((idx s' i).bind λaXj=>
 (bif(↑aXj.toNat:Int)==92 then
 ((M.jW s' (i64.wrap (i+1))).bind λaXk=>
 (bif aXk !=10 then(kn (i64.wrap (i64.wrap (i+1)+1))) else(kn (i64.wrap (i+1))))) else(kn (i64.wrap (i+1))))))) else(ke (.inr i)))) else(ke (.inr i))
def M.uF(s':aC)(quote s:Int):=M.qA s' quote s (λs=>some (Sum.inl s)) λt=>some (Sum.inr t)
def M.qm(s':aC)(quote s:Int):Option ((Int)⊕(Int)):=iT (M.uF s' quote) s
def F.qm:LE X0 235:=le 4 (KF [fM 0 pS,fM 2 pI,fM 7 pI] []) (λx=>x.1.2.2.1) (λx s=>((x.1.1,x.1.2.1,s,()),())) (λx=> .sum (.leaf (Int) (λt=>(Ex.ret,{tm:=[(6,V.d (D.int .i64 t))],mem:=[]}))) (.leaf (Int) (λt=>(Ex.exit 0,{tm:=[(0,V.d (D.str x.1.1)),(2,V.d (D.int .i64 x.1.2.1)),(7,V.d (D.int .i64 t)),(24,V.d (D.bool false))],mem:=[]})))) (λx=>M.qA x.1.1 x.1.2.1) [fe C.jW] [] (by rintro _ _ _ _ _<;>simp only[M.qA,nb]<;>rfl)
def M.FK{R:Type}(s':aC)(at' quote:Int)(k:Int->Option R):Option R:=
 (M.jW s' at').bind λaXl=>
 (bif aXl !=quote then(k (-1)) else
 ((M.qm s' quote (i64.wrap (at'+1))).bind λaDm=>
 yS aDm (λaXm=>(k aXm)) λaDn=>
 letE aDn λaYz=>(k (-1))))
def M.nS(s':aC)(at' quote:Int):Option (Int):=M.FK s' at' quote some
def C.nS:S.nS.ok X0 λx=>M.nS x.1.1 x.1.2.1 x.1.2.2.1:=fnS (λx=>M.FK x.1.1 x.1.2.1 x.1.2.2.1) [fe C.jW] [F.qm] (by intros;simp only[M.FK,nb]<;>rfl)
def M.LX{R:Type}(s':aC)(at':Int)(k:Int->Option R):Option R:=
 (M.nS s' at' 34).bind λaDo=>(k aDo)
def M.AZ(s':aC)(at':Int):Option (Int):=M.LX s' at' some
def C.AZ:S.AZ.ok X0 λx=>M.AZ x.1.1 x.1.2.1:=fnS (λx=>M.LX x.1.1 x.1.2.1) [fe C.nS] [] (by intros;simp only[M.LX,nb]<;>rfl)
def M.LY{R:Type}(s':aC)(at':Int)(k:Int->Option R):Option R:=
 (M.nS s' at' 47).bind λasT=>(bif asT==i64.wrap (at'+2) then(k (-1)) else(k asT))
def M.A8(s':aC)(at':Int):Option (Int):=M.LY s' at' some
def C.A8:S.A8.ok X0 λx=>M.A8 x.1.1 x.1.2.1:=fnS (λx=>M.LY x.1.1 x.1.2.1) [fe C.nS] [] (by intros;simp only[M.LY,nb]<;>rfl)
def M.yx{R:Type}(kind:Int)(k:Bool->Option R):Option R:=
 (M.dX kind 10 26).bind λaDp=>(k aDp)
def M.oH(kind:Int):Option (Bool):=M.yx kind some
def C.oH:S.oH.ok X0 λx=>M.oH x.1.1:=fnS (λx=>M.yx x.1.1) [fe C.dX] [] (by intros;simp only[M.yx,nb]<;>rfl)
def M.yA{R:Type}(kind:Int)(k:Bool->Option R):Option R:=
 (M.dX kind 30 68).bind λaDq=>(k aDq)
def M.iU(kind:Int):Option (Bool):=M.yA kind some
def C.iU:S.iU.ok X0 λx=>M.iU x.1.1:=fnS (λx=>M.yA x.1.1) [fe C.dX] [] (by intros;simp only[M.yA,nb]<;>rfl)
def M.JU{R:Type}(kind:Int)(k:aC->Option R):Option R:=
 bif kind==1 then(k [10]) else
 ((M.oH kind).bind λaDr=>
 (bif aDr then
 (bif decide (0<=i64.wrap (kind - 10)) && decide (i64.wrap (kind - 10)<17) then
 ((cStr Az (0+(i64.wrap (kind - 10)).toNat * 1)).bind λaDs=>(k aDs)) else none) else
 ((M.iU kind).bind λaDt=>
 (bif aDt then
 (bif decide (0<=i64.wrap (kind - 30)) && decide (i64.wrap (kind - 30)<39) then
 ((cStr Ol (0+(i64.wrap (kind - 30)).toNat * 1)).bind λaDu=>(k aDu)) else none) else(k [])))))
def M.iL(kind:Int):Option (aC):=M.JU kind some
def C.iL:S.iL.ok X0 λx=>M.iL x.1.1:=fnS (λx=>M.JU x.1.1) [fe C.oH,fe C.iU] [] (by intros;simp only[M.JU,nb]<;>rfl)
def M.JV{R:Type}(t':Int)(gW:aC)(iG:Int)(k:Bool->Option R):Option R:=
 bif gW==[] then(k false) else
 (bif t'==2 then
 ((idx gW 0).bind λaXn=>
 (bif(↑aXn.toNat:Int)==35 then((M.strings_Contains gW [10]).bind λaXo=>(k !aXo)) else(k false))) else
 (bif t'==3 then((M.AY gW 0).bind λaXp=>(k (aXp==(↑gW.length:Int)))) else
 (bif t'==4 then((M.AZ gW 0).bind λaDv=>(k (aDv==(↑gW.length:Int)))) else
 (bif t'==5 then((M.A8 gW 0).bind λaDw=>(k (aDw==(↑gW.length:Int)))) else
 (bif t'==6 then((M.jV gW).bind λaDx=>(k aDx)) else
 (bif t'==7 then((M.jV gW).bind λaDy=>(k aDy)) else
 (bif t'==8 then((M.lX gW).bind λaDz=>(k aDz)) else((M.iL t').bind λaDA=>(k (gW==aDA))))))))))
def M.oh(t':Int)(gW:aC)(iG:Int):Option (Bool):=M.JV t' gW iG some
def C.oh:S.oh.ok X0 λx=>M.oh x.1.1.1 x.1.1.2.1 x.1.1.2.2.1:=fnS (λx=>M.JV x.1.1.1 x.1.1.2.1 x.1.1.2.2.1) [fe C.strings_Contains,fe C.AY,fe C.AZ,fe C.A8,fe C.jV,fe C.lX,fe C.iL] [] (by intros;simp only[M.JV,nb]<;>rfl)
def M.cu{R:Type}(kind:Int)(k:Bool->Option R):Option R:=
 bif kind==51 then(k true) else(k (kind==52))
def M.dA(kind:Int):Option (Bool):=M.cu kind some
def C.dA:S.dA.ok X0 λx=>M.dA x.1.1:=fnS (λx=>M.cu x.1.1) [] [] (by intros;simp only[M.cu,nb]<;>rfl)
def M.ED{R:Type}(op':Int)(k:Int->Option R):Option R:=
 bif op'==44 then(k 3) else
 (bif op'==45 then(k 4) else
 (bif op'==67 then(k 6) else
 (bif op'==46 then(k 6) else
 (bif op'==63 then(k 7) else
 (bif op'==48 then(k 7) else
 (bif op'==47 then(k 7) else
 (bif op'==50 then(k 7) else
 (bif op'==62 then(k 7) else
 (bif op'==49 then(k 7) else
 (bif op'==99 then(k 8) else
 (bif op'==55 then(k 9) else
 (bif op'==56 then(k 9) else
 (bif op'==57 then(k 10) else
 (bif op'==58 then(k 10) else(bif op'==59 then(k 10) else(bif op'==60 then(k 12) else(k 0)))))))))))))))))
def M.mO(op':Int):Option (Int):=M.ED op' some
def C.mO:S.mO.ok X0 λx=>M.mO x.1.1:=fnS (λx=>M.ED x.1.1) [] [] (by intros;unfold M.ED;repeat' first|with_reducible apply gZ|with_reducible apply GV|with_reducible apply GX|with_reducible apply GY|with_reducible apply GZ|(intro _)|apply gZ|rfl)
def M.Ie{R:Type}(kind:Int)(k:Bool->Option R):Option R:=
 bif kind==54 then(k true) else((M.dX kind 38 43).bind λaDB=>(k aDB))
def M.uY(kind:Int):Option (Bool):=M.Ie kind some
def C.uY:S.uY.ok X0 λx=>M.uY x.1.1:=fnS (λx=>M.Ie x.1.1) [fe C.dX] [] (by intros;simp only[M.Ie,nb]<;>rfl)
def M.bG{R:Type}(n' gX:Int)(jf iP:aC)(iM:au)(k:Bool×Bool×Bool×Int×Int->Option R):Option R:=
 bif n'==1 then((M.jV jf).bind λaXq=>(k ((gX==0,aXq,false,0,0)))) else
 (bif n'==2 then
 (bif decide (0<=i64.wrap (n' - 2)) && decide (i64.wrap (n' - 2)<3) then
 ((fB .i64 [D.int .i64 3,D.int .i64 4,D.int .i64 5] (i64.wrap (n' - 2)).toNat).bind λaXr=>((M.oh aXr jf 0).bind λaDC=>(k ((gX==0,aDC,false,0,0))))) else none) else
 (bif n'==3 then
 (bif decide (0<=i64.wrap (n' - 2)) && decide (i64.wrap (n' - 2)<3) then
 ((fB .i64 [D.int .i64 3,D.int .i64 4,D.int .i64 5] (i64.wrap (n' - 2)).toNat).bind λaDD=>((M.oh aDD jf 0).bind λaDE=>(k ((gX==0,aDE,false,0,0))))) else none) else
 (bif n'==4 then
 (bif decide (0<=i64.wrap (n' - 2)) && decide (i64.wrap (n' - 2)<3) then
 ((fB .i64 [D.int .i64 3,D.int .i64 4,D.int .i64 5] (i64.wrap (n' - 2)).toNat).bind λaDF=>((M.oh aDF jf 0).bind λaDG=>(k ((gX==0,aDG,false,0,0))))) else none) else
 (bif n'==5 then((M.jV jf).bind λaDH=>(k ((gX==0,aDH,false,1,6)))) else
 (bif n'==13 then((M.jV jf).bind λaDI=>(k ((gX==0,aDI,false,1,6)))) else
 (bif n'==6 then(k ((gX==0,jf==[],false,1,1))) else
 (bif n'==7 then((M.jV jf).bind λaDJ=>(k ((gX==0,aDJ,false,0,6)))) else
 (bif n'==8 then((M.lX jf).bind λaDK=>(k ((gX==0,aDK,false,0,6)))) else
 (bif n'==9 then((M.dA gX).bind λaDL=>(k ((aDL,jf==[],false,1,1)))) else
 (bif n'==10 then((M.dA gX).bind λaDM=>(k ((aDM,jf==[],false,1,1)))) else
 (bif n'==11 then
 (bif gX==55 then(k ((true,jf==[],false,1,1))) else
 (bif gX==56 then(k ((true,jf==[],false,1,1))) else(k ((gX==61,jf==[],false,1,1))))) else
 (bif n'==12 then((M.mO gX).bind λaDN=>(k ((aDN !=0,jf==[],false,2,2)))) else
 (bif n'==14 then(k ((gX==0,jf==[],false,3,3))) else((M.uY gX).bind λaDO=>(k ((aDO,jf==[],false,2,2)))))))))))))))))
def M.bQ(n' gX:Int)(jf iP:aC)(iM:au):Option (Bool×Bool×Bool×Int×Int):=M.bG n' gX jf iP iM some
def C.bQ:S.bQ.ok X0 λx=>M.bQ x.1.1.1 x.1.1.2.1 x.1.1.2.2.1 x.1.1.2.2.2.1 x.1.1.2.2.2.2.1:=fnS (λx=>M.bG x.1.1.1 x.1.1.2.1 x.1.1.2.2.1 x.1.1.2.2.2.1 x.1.1.2.2.2.2.1) [fe C.jV,fe C.oh,fe C.lX,fe C.dA,fe C.mO,fe C.uY] [] (by intros;unfold M.bG;repeat' first|with_reducible apply gZ|with_reducible apply GV|with_reducible apply GX|with_reducible apply GY|with_reducible apply GZ|(intro _)|apply gZ|rfl)
def M.bY{R:Type}(kind:Int)(k:Bool->Option R):Option R:=
 (M.dX kind 20 34).bind λaDP=>(k aDP)
def M.cZ(kind:Int):Option (Bool):=M.bY kind some
def C.cZ:S.cZ.ok X0 λx=>M.cZ x.1.1:=fnS (λx=>M.bY x.1.1) [fe C.dX] [] (by intros;simp only[M.bY,nb]<;>rfl)
def M.bH{R:Type}(n' gX:Int)(jf iP:aC)(iM:au)(k:Bool×Bool×Bool×Int×Int->Option R):Option R:=
 bif n'==20 then(k ((gX==0,jf==[],iP==[],1,1))) else
 (bif n'==21 then
 (bif gX==0 then
 ((M.slices_Contains ([[D.str []],[D.str [62]],[D.str [62,62]],[D.str [124]]]) iP).bind λasU=>
 (bif !iP==[] then(k ((true,jf==[],asU,i64.wrap (gX+1),7))) else(k ((true,jf==[],asU,gX,6))))) else
 ((M.slices_Contains ([[D.str []],[D.str [62]],[D.str [62,62]],[D.str [124]]]) iP).bind λasV=>
 (bif !iP==[] then(k ((gX==1,jf==[],asV,i64.wrap (gX+1),7))) else(k ((gX==1,jf==[],asV,gX,6)))))) else
 (bif n'==23 then(k ((gX==0,jf==[],iP==[],0,1))) else
 (bif n'==24 then(k ((gX==0,jf==[],iP==[],0,1))) else
 (bif n'==27 then((M.jV jf).bind λaDQ=>(k ((gX==0,aDQ,iP==[],0,6)))) else
 (bif n'==28 then(k ((gX==0,jf==[],iP==[],2,3))) else
 (bif n'==29 then(k ((gX==0,jf==[],iP==[],2,2))) else
 (bif n'==30 then(k ((gX==0,jf==[],iP==[],2,2))) else
 (bif n'==31 then(k ((gX==0,jf==[],iP==[],4,4))) else
 (bif n'==32 then
 ((M.jV jf).bind λaDR=>((M.jV iP).bind λaDS=>(k ((gX==0,aDR,aDS,1,1))))) else
 (bif n'==33 then(k ((gX==0,jf==[],iP==[],0,400))) else
 (bif n'==34 then((M.oh 2 jf 0).bind λaDT=>(k ((gX==0,aDT,iP==[],0,0)))) else(k ((gX==0,jf==[],iP==[],0,0))))))))))))))
def M.bT(n' gX:Int)(jf iP:aC)(iM:au):Option (Bool×Bool×Bool×Int×Int):=M.bH n' gX jf iP iM some
def C.bT:S.bT.ok X0 λx=>M.bT x.1.1.1 x.1.1.2.1 x.1.1.2.2.1 x.1.1.2.2.2.1 x.1.1.2.2.2.2.1:=fnS (λx=>M.bH x.1.1.1 x.1.1.2.1 x.1.1.2.2.1 x.1.1.2.2.2.1 x.1.1.2.2.2.2.1) [fe C.slices_Contains,fe C.jV,fe C.oh] [] (by intros;unfold M.bH;repeat' first|with_reducible apply gZ|with_reducible apply GV|with_reducible apply GX|with_reducible apply GY|with_reducible apply GZ|(intro _)|apply gZ|rfl)
def M.bI{R:Type}(n' gX:Int)(jf iP:aC)(iM:au)(k:Bool×Bool×Bool×Int×Int->Option R):Option R:=
 bif n'==40 then(k ((gX==0,jf==[],iP==[],1,1))) else
 (bif n'==41 then(k ((gX==0,jf==[],iP==[],1,1))) else
 (bif n'==42 then
 ((M.dX gX 1 3).bind λasW=>
 (bif gX==3 then(k ((asW,jf==[],iP==[],2,2))) else(k ((asW,jf==[],iP==[],1,1))))) else
 (bif n'==43 then
 (bif gX==1 then
 (bif gX==3 then(k ((true,jf==[],iP==[],3,3))) else(k ((true,jf==[],iP==[],2,2)))) else
 (bif gX==3 then(k ((gX==3,jf==[],iP==[],3,3))) else(k ((gX==3,jf==[],iP==[],2,2))))) else
 (bif n'==44 then((M.jV jf).bind λaDU=>(k ((gX==0,aDU,iP==[],1,7)))) else(k ((gX==0,jf==[],iP==[],0,400)))))))
def M.bU(n' gX:Int)(jf iP:aC)(iM:au):Option (Bool×Bool×Bool×Int×Int):=M.bI n' gX jf iP iM some
def C.bU:S.bU.ok X0 λx=>M.bU x.1.1.1 x.1.1.2.1 x.1.1.2.2.1 x.1.1.2.2.2.1 x.1.1.2.2.2.2.1:=fnS (λx=>M.bI x.1.1.1 x.1.1.2.1 x.1.1.2.2.1 x.1.1.2.2.2.1 x.1.1.2.2.2.2.1) [fe C.dX,fe C.jV] [] (by intros;simp only[M.bI,nb]<;>rfl)
def M.bg{R:Type}(n' gX:Int)(jf iP:aC)(iM:au)(k:Bool->Option R):Option R:=
 (M.bJ n').bind λaXs=>
 (bif aXs then
 ((M.bQ n' gX jf iP iM).bind λakR=>
 (bif akR.1 then
 (bif akR.2.1 then
 (bif iP==[] then
 ((M.dX ((↑iM.length:Int)) akR.2.2.2.1 akR.2.2.2.2).bind λaDV=>(k aDV)) else(k false)) else(k false)) else(k false))) else
 (bif n'==16 then
 (bif gX==0 then
 (bif jf==[] then
 (bif iP==[] then((M.dX ((↑iM.length:Int)) 0 0).bind λaDW=>(k aDW)) else(k false)) else(k false)) else(k false)) else
 ((M.cZ n').bind λaDX=>
 (bif aDX then
 ((M.bT n' gX jf iP iM).bind λagJ=>
 (bif agJ.1 then
 (bif agJ.2.1 then
 (bif agJ.2.2.1 then
 ((M.dX ((↑iM.length:Int)) agJ.2.2.2.1 agJ.2.2.2.2).bind λaDY=>(k aDY)) else(k false)) else(k false)) else(k false))) else
 ((M.dX n' 40 45).bind λaDZ=>
 (bif aDZ then
 ((M.bU n' gX jf iP iM).bind λagK=>
 (bif agK.1 then
 (bif agK.2.1 then
 (bif agK.2.2.1 then
 ((M.dX ((↑iM.length:Int)) agK.2.2.2.1 agK.2.2.2.2).bind λaD0=>(k aD0)) else(k false)) else(k false)) else(k false))) else(k false)))))))
def M.bK(n' gX:Int)(jf iP:aC)(iM:au):Option (Bool):=M.bg n' gX jf iP iM some
def C.bK:S.bK.ok X0 λx=>M.bK x.1.1.1 x.1.1.2.1 x.1.1.2.2.1 x.1.1.2.2.2.1 x.1.1.2.2.2.2.1:=fnS (λx=>M.bg x.1.1.1 x.1.1.2.1 x.1.1.2.2.1 x.1.1.2.2.2.1 x.1.1.2.2.2.2.1) [fe C.bJ,fe C.bQ,fe C.dX,fe C.cZ,fe C.bT,fe C.bU] [] (by intros;unfold M.bg;repeat' first|with_reducible apply gZ|with_reducible apply GV|with_reducible apply GX|with_reducible apply GY|with_reducible apply GZ|(intro _)|apply gZ|rfl)
def M.Ig{R:Type}(kind:Int)(k:Bool->Option R):Option R:=
 bif kind==1 then(k true) else(bif kind==5 then(k true) else(k (kind==6)))
def M.o8(kind:Int):Option (Bool):=M.Ig kind some
def C.o8:S.o8.ok X0 λx=>M.o8 x.1.1:=fnS (λx=>M.Ig x.1.1) [] [] (by intros;simp only[M.Ig,nb]<;>rfl)
def M.LZ{R:Type}(kind:Int)(k:Bool->Option R):Option R:=
 (M.dX kind 40 44).bind λaD1=>(k aD1)
def M.Ba(kind:Int):Option (Bool):=M.LZ kind some
def C.Ba:S.Ba.ok X0 λx=>M.Ba x.1.1:=fnS (λx=>M.LZ x.1.1) [fe C.dX] [] (by intros;simp only[M.LZ,nb]<;>rfl)
def M.bV{R:Type}(n' gX:Int)(jf iP:aC)(iM:au)(k' kid:Int)(k:Bool->Option R):Option R:=
 bif n'==9 then((M.o8 kid).bind λaD2=>(k aD2)) else
 (bif n'==10 then((M.o8 kid).bind λaD3=>(k aD3)) else
 (bif n'==15 then
 (bif k'==0 then
 ((M.o8 kid).bind λaD4=>
 (bif aD4 then(k true) else(bif decide (k'>0) then((M.bJ kid).bind λaD5=>(k aD5)) else(k false)))) else(bif decide (k'>0) then((M.bJ kid).bind λaD6=>(k aD6)) else(k false))) else
 (bif n'==28 then
 (bif decide (k'>0) then(k (kid==33)) else((M.bJ kid).bind λaD7=>(k aD7))) else
 (bif n'==29 then
 (bif decide (k'>0) then(k (kid==33)) else((M.bJ kid).bind λaD8=>(k aD8))) else
 (bif n'==31 then
 (bif decide (k'<3) then
 (bif kid==16 then(k true) else
 (bif k'==i64.wrap ((↑iM.length:Int) - 1) then(k (kid==33)) else((M.bJ kid).bind λaD9=>(k aD9)))) else
 (bif k'==i64.wrap ((↑iM.length:Int) - 1) then(k (kid==33)) else((M.bJ kid).bind λaEa=>(k aEa)))) else
 (bif n'==30 then(bif k'==0 then(k (kid==33)) else((M.bJ kid).bind λaEb=>(k aEb))) else
 (bif n'==32 then(k (kid==33)) else
 (bif n'==40 then(k (kid==33)) else
 (bif n'==41 then(k (kid==33)) else
 (bif n'==33 then((M.cZ kid).bind λaEc=>(k aEc)) else
 (bif n'==42 then
 (bif k'==i64.wrap ((↑iM.length:Int) - 1) then
 (bif decide (gX>=2) then(k (kid==33)) else((M.bJ kid).bind λaEd=>(k aEd))) else((M.bJ kid).bind λaEe=>(k aEe))) else
 (bif n'==43 then
 (bif k'==i64.wrap ((↑iM.length:Int) - 1) then(bif gX==3 then(k (kid==33)) else((M.bJ kid).bind λaEf=>(k aEf))) else((M.bJ kid).bind λaEg=>(k aEg))) else
 (bif n'==44 then
 (bif !k'==i64.wrap ((↑iM.length:Int) - 1) then(k (kid==1)) else(k (kid==33))) else
 (bif n'==45 then((M.Ba kid).bind λaEh=>(bif aEh then(k true) else(k (kid==34)))) else((M.bJ kid).bind λaEi=>(k aEi))))))))))))))))
def M.dw(n' gX:Int)(jf iP:aC)(iM:au)(k' kid:Int):Option (Bool):=M.bV n' gX jf iP iM k' kid some
def C.dw:S.dw.ok X0 λx=>M.dw x.1.1.1 x.1.1.2.1 x.1.1.2.2.1 x.1.1.2.2.2.1 x.1.1.2.2.2.2.1 x.1.2.1 x.1.2.2.1:=fnS (λx=>M.bV x.1.1.1 x.1.1.2.1 x.1.1.2.2.1 x.1.1.2.2.2.1 x.1.1.2.2.2.2.1 x.1.2.1 x.1.2.2.1) [fe C.o8,fe C.bJ,fe C.cZ,fe C.Ba] [] (by intros;unfold M.bV;repeat' first|with_reducible apply gZ|with_reducible apply GV|with_reducible apply GX|with_reducible apply GY|with_reducible apply GZ|(intro _)|apply gZ|rfl)
def M.lC{R:Type}(jH:au->Int->Option (Int×Int×aC×aC×au))(s:(au×au×Int×Int×Int×Int×aC×aC×Int×Int×aC×aC)⊕(au×au×Int×Int×Int×Int×aC×aC×Int×Int×aC×aC×au))(kn:(au×au×Int×Int×Int×Int×aC×aC×Int×Int×aC×aC)⊕(au×au×Int×Int×Int×Int×aC×aC×Int×Int×aC×aC×au)->Option R)(ke:(au×au×Int×Int×Int×Int×aC×aC×Int×Int×aC×aC)⊕(au×au×Int×Int×Int×Int×aC×aC×Int×Int×aC×aC×au)->Option R):Option R:=match s with
 | .inl ((l,v23,v24,v25,x',qR,wO,zL,Dp,Rh,NJ,VE))=>
 bif decide (v25<v24) then
 ((idx v23 v25).bind λarl=>
 ((fB .i64 arl 0).bind λaEj=>
 ((jH l aEj).bind λagL=>
 (kn (.inr ((l,v23,v24,i64.wrap (v25+1),x',qR,wO,zL,Dp,Rh,NJ,VE,[[D.int .i64 agL.1,D.int .i64 agL.2.1,D.str agL.2.2.1,D.str agL.2.2.2.1,D.sl true 5 agL.2.2.2.2]]))))))) else(ke (.inl ((l,v23,v24,v25,x',qR,wO,zL,Dp,Rh,NJ,VE))))
 | .inr ((l,v23,v24,v25,x',qR,wO,zL,Dp,Rh,NJ,VE,x'8))=>
 bif decide (v25<v24) then
 ((idx v23 v25).bind λarn=>
 ((fB .i64 arn 0).bind λaEk=>
 ((jH l aEk).bind λagM=>
 (jc x'8 [[D.int .i64 agM.1,D.int .i64 agM.2.1,D.str agM.2.2.1,D.str agM.2.2.2.1,D.sl true 5 agM.2.2.2.2]] 72 λza=>(kn (.inr ((l,v23,v24,i64.wrap (v25+1),x',qR,wO,zL,Dp,Rh,NJ,VE,za)))))))) else(ke (.inr ((l,v23,v24,v25,x',qR,wO,zL,Dp,Rh,NJ,VE,x'8))))
def M.lD(jH:au->Int->Option (Int×Int×aC×aC×au))(s:(au×au×Int×Int×Int×Int×aC×aC×Int×Int×aC×aC)⊕(au×au×Int×Int×Int×Int×aC×aC×Int×Int×aC×aC×au)):=M.lC jH s (λs=>some (Sum.inl s)) λt=>some (Sum.inr t)
def M.EF(jH:au->Int->Option (Int×Int×aC×aC×au))(s:(au×au×Int×Int×Int×Int×aC×aC×Int×Int×aC×aC)⊕(au×au×Int×Int×Int×Int×aC×aC×Int×Int×aC×aC×au)):Option ((au×au×Int×Int×Int×Int×aC×aC×Int×Int×aC×aC)⊕(au×au×Int×Int×Int×Int×aC×aC×Int×Int×aC×aC×au)):=iT (M.lD jH) s
def F.EF{jH:au->Int->Option (Int×Int×aC×aC×au)}(Pq:S.oL.ok X0 λx=>jH x.1.1 x.1.2.1):LE X0 88:=le 4 (pOr (KF [fM 0 (pL false 5),fM 4 (pP 300000 0),fM 6 (pP 300001 0),fM 23 (pL false 1),fM 24 pI,fM 25 pI] [fM 300000 (cB 53 [pI,pI,pS,pS,Zr 5]),fM 300001 (cB 53 [pI,pI,pS,pS,Zr 5])]) (KF [fM 0 (pL false 5),fM 4 (pP 300000 0),fM 6 (pP 300001 0),fM 23 (pL false 1),fM 24 pI,fM 25 pI] [fM 300000 (cB 53 [pI,pI,pS,pS,Zr 5]),fM 300001 (cB 53 [pI,pI,pS,pS,pO 300002 0]),fM 300002 (cA false false 0 5)])) (σ:=(au×au×Int×Int×Int×Int×aC×aC×Int×Int×aC×aC)⊕(au×au×Int×Int×Int×Int×aC×aC×Int×Int×aC×aC×au)) (λx=>(match x with| .inl x=> .inl ((x.1.1,x.1.2.2.2.1,x.1.2.2.2.2.1,x.1.2.2.2.2.2.1,x.2.1.1,x.2.1.2.1,x.2.1.2.2.1,x.2.1.2.2.2.1,x.2.2.1.1,x.2.2.1.2.1,x.2.2.1.2.2.1,x.2.2.1.2.2.2.1))| .inr x=> .inr ((x.1.1,x.1.2.2.2.1,x.1.2.2.2.2.1,x.1.2.2.2.2.2.1,x.2.1.1,x.2.1.2.1,x.2.1.2.2.1,x.2.1.2.2.2.1,x.2.2.1.1,x.2.2.1.2.1,x.2.2.1.2.2.1,x.2.2.1.2.2.2.1,x.2.2.2.1)))) (λx s=>(match s with| .inl s=> .inl (((s.1,(),(),s.2.1,s.2.2.1,s.2.2.2.1,()),((s.2.2.2.2.1,s.2.2.2.2.2.1,s.2.2.2.2.2.2.1,s.2.2.2.2.2.2.2.1,(),()),(s.2.2.2.2.2.2.2.2.1,s.2.2.2.2.2.2.2.2.2.1,s.2.2.2.2.2.2.2.2.2.2.1,s.2.2.2.2.2.2.2.2.2.2.2,(),()),())))| .inr s=> .inr (((s.1,(),(),s.2.1,s.2.2.1,s.2.2.2.1,()),((s.2.2.2.2.1,s.2.2.2.2.2.1,s.2.2.2.2.2.2.1,s.2.2.2.2.2.2.2.1,(),()),(s.2.2.2.2.2.2.2.2.1,s.2.2.2.2.2.2.2.2.2.1,s.2.2.2.2.2.2.2.2.2.2.1,s.2.2.2.2.2.2.2.2.2.2.2.1,(),()),s.2.2.2.2.2.2.2.2.2.2.2.2,()))))) (λx=> .sum (.leaf (au×au×Int×Int×Int×Int×aC×aC×Int×Int×aC×aC) (λt=>(Ex.exit 0,{tm:=[(0,V.d (D.sl false 5 t.1)),(4,V.ptr 300000 0),(6,V.ptr 300001 0),(23,V.d (D.sl false 1 t.2.1)),(24,V.d (D.int .i64 t.2.2.1)),(25,V.d (D.int .i64 t.2.2.2.1)),(26,V.d (D.bool false))],mem:=[(300000,Cell.box 53 [V.d (D.int .i64 t.2.2.2.2.1),V.d (D.int .i64 t.2.2.2.2.2.1),V.d (D.str t.2.2.2.2.2.2.1),V.d (D.str t.2.2.2.2.2.2.2.1),V.nil 5]),(300001,Cell.box 53 [V.d (D.int .i64 t.2.2.2.2.2.2.2.2.1),V.d (D.int .i64 t.2.2.2.2.2.2.2.2.2.1),V.d (D.str t.2.2.2.2.2.2.2.2.2.2.1),V.d (D.str t.2.2.2.2.2.2.2.2.2.2.2),V.nil 5])]}))) (.leaf (au×au×Int×Int×Int×Int×aC×aC×Int×Int×aC×aC×au) (λt=>(Ex.exit 0,{tm:=[(0,V.d (D.sl false 5 t.1)),(4,V.ptr 300000 0),(6,V.ptr 300001 0),(23,V.d (D.sl false 1 t.2.1)),(24,V.d (D.int .i64 t.2.2.1)),(25,V.d (D.int .i64 t.2.2.2.1)),(26,V.d (D.bool false))],mem:=[(300000,Cell.box 53 [V.d (D.int .i64 t.2.2.2.2.1),V.d (D.int .i64 t.2.2.2.2.2.1),V.d (D.str t.2.2.2.2.2.2.1),V.d (D.str t.2.2.2.2.2.2.2.1),V.nil 5]),(300001,Cell.box 53 [V.d (D.int .i64 t.2.2.2.2.2.2.2.2.1),V.d (D.int .i64 t.2.2.2.2.2.2.2.2.2.1),V.d (D.str t.2.2.2.2.2.2.2.2.2.2.1),V.d (D.str t.2.2.2.2.2.2.2.2.2.2.2.1),V.own 300002 0]),(300002,Cell.arr false false 0 5 t.2.2.2.2.2.2.2.2.2.2.2.2)]})))) (λx=>M.lC jH) [fe Pq] [] (by rintro _ _ (⟨_,_,_,_,_,_,_,_,_,_,_,_⟩|⟨_,_,_,_,_,_,_,_,_,_,_,_,_⟩) _ _<;>simp only[jc,M.lC,nb]<;>rfl) (hE:=by intro _ _ s _;rcases s with s|s<;>kernel_rfl)
def M.Dj{R:Type}(jH:au->Int->Option (Int×Int×aC×aC×au))(l:au)(i:Int)(k:Int×Int×aC×aC×au->Option R):Option R:=
 (idx l i).bind λaro=>
 (iK 1 aro λaEl aEm aEn aEo agN=>
 ((M.EF jH (.inl ((l,agN,(↑agN.length:Int),0,0,0,[],[],aEl,aEm,aEn,aEo)))).bind λaEp=>
 yS aEp (λakS=>
 (k ((akS.2.2.2.2.2.2.2.2.1,akS.2.2.2.2.2.2.2.2.2.1,akS.2.2.2.2.2.2.2.2.2.2.1,akS.2.2.2.2.2.2.2.2.2.2.2,[])))) λaEq=>
 letE aEq λagO=>
 (k ((agO.2.2.2.2.2.2.2.2.1,agO.2.2.2.2.2.2.2.2.2.1,agO.2.2.2.2.2.2.2.2.2.2.1,agO.2.2.2.2.2.2.2.2.2.2.2.1,agO.2.2.2.2.2.2.2.2.2.2.2.2)))))
def M.jK:Nat->au->Int->Option (Int×Int×aC×aC×au)
 |0=>λ_ _=>none
 |n+1=>λl i=>M.Dj (M.jK n) l i some
def M.oL(l:au)(i:Int):Option (Int×Int×aC×aC×au):=lim λn=>M.jK n l i
def C.abM{jH:au->Int->Option (Int×Int×aC×aC×au)}(Pq:S.oL.ok X0 λx=>jH x.1.1 x.1.2.1):S.oL.ok X0 λx=>M.Dj jH x.1.1 x.1.2.1 some:=fnS (λx=>M.Dj jH x.1.1 x.1.2.1) [] [F.EF Pq] (by intros;simp only[iK,M.Dj,nb]<;>rfl)
def C.jK:∀n,S.oL.ok X0 λx=>M.jK n x.1.1 x.1.2.1
 |0=>fK.zero
 |n+1=>C.abM (C.jK n)
def C.oL:S.oL.ok X0 λx=>M.oL x.1.1 x.1.2.1:=fK.lim C.jK
def M.SC{n:Nat}{l:au}{i:Int}{r:Int×Int×aC×aC×au}(h:M.jK n l i=some r):M.oL l i=some r:=
 fK.Em C.jK (by intro a b h;simp[S.oL,sg] at h;first|exact h|simp[Prod.ext_iff,h]) (x:=((l,i,()),())) h
def M.GR{R:Type}(l:au)(k:Int×Int×aC×aC×au->Option R):Option R:=
 (M.oL l (i64.wrap ((↑l.length:Int) - 1))).bind λagP=>
 (k ((agP.1,agP.2.1,agP.2.2.1,agP.2.2.2.1,agP.2.2.2.2)))
def M.sQ(l:au):Option (Int×Int×aC×aC×au):=M.GR l some
def C.sQ:S.sQ.ok X0 λx=>M.sQ x.1.1:=fnS (λx=>M.GR x.1.1) [fe C.oL] [] (by intros;simp only[M.GR,nb]<;>rfl)
def M.sU{R:Type}(ig:Int->Int->aC->aC->au->Option (Int))(v7:au)(v8:Int)(s:Int×Int)(kn:Int×Int->Option R)(ke:Int×Int->Option R):Option R:=match s with
 |(most,v9)=>
 bif decide (v9<v8) then
 ((idx v7 v9).bind λarp=>
 (iK 5 arp λaEr aEs aEt aEu aoy=>
 ((ig aEr aEs aEt aEu aoy).bind λasX=>(kn ((bif decide (most<asX) then asX else most,i64.wrap (v9+1))))))) else(ke ((most,v9)))
def M.yB(ig:Int->Int->aC->aC->au->Option (Int))(v7:au)(v8:Int)(s:Int×Int):=M.sU ig v7 v8 s (λs=>some (Sum.inl s)) λt=>some (Sum.inr t)
def M.BN(ig:Int->Int->aC->aC->au->Option (Int))(v7:au)(v8:Int)(s:Int×Int):Option (Int×Int):=iT (M.yB ig v7 v8) s
def F.BN{ig:Int->Int->aC->aC->au->Option (Int)}(JW:S.kX.ok X0 λx=>ig x.1.1.1 x.1.1.2.1 x.1.1.2.2.1 x.1.1.2.2.2.1 x.1.1.2.2.2.2.1):LE X0 78:=le 3 (KF [fM 3 pI,fM 7 (pL false 5),fM 8 pI,fM 9 pI] []) (λx=>(x.1.1,x.1.2.2.2.1)) (λx s=>((s.1,x.1.2.1,x.1.2.2.1,s.2,()),())) (λx=> .leaf (Int×Int) (λt=>(Ex.exit 0,{tm:=[(3,V.d (D.int .i64 t.1)),(7,V.d (D.sl false 5 x.1.2.1)),(8,V.d (D.int .i64 x.1.2.2.1)),(9,V.d (D.int .i64 t.2)),(10,V.d (D.bool false))],mem:=[]}))) (λx=>M.sU ig x.1.2.1 x.1.2.2.1) [fe JW] [] (by rintro _ _ ⟨_,_⟩ _ _<;>simp only[iK,M.sU,nb]<;>rfl)
def M.yC{R:Type}(ig:Int->Int->aC->aC->au->Option (Int))(t' gW:Int)(iG jA:aC)(iC:au)(k:Int->Option R):Option R:=
 (M.BN ig iC ((↑iC.length:Int)) ((0,0))).bind λaEv=>(k (i64.wrap (aEv.1+1)))
def M.jR:Nat->Int->Int->aC->aC->au->Option (Int)
 |0=>λ_ _ _ _ _=>none
 |n+1=>λt' gW iG jA iC=>M.yC (M.jR n) t' gW iG jA iC some
def M.kX(t' gW:Int)(iG jA:aC)(iC:au):Option (Int):=lim λn=>M.jR n t' gW iG jA iC
def C.VG{ig:Int->Int->aC->aC->au->Option (Int)}(JW:S.kX.ok X0 λx=>ig x.1.1.1 x.1.1.2.1 x.1.1.2.2.1 x.1.1.2.2.2.1 x.1.1.2.2.2.2.1):S.kX.ok X0 λx=>M.yC ig x.1.1.1 x.1.1.2.1 x.1.1.2.2.1 x.1.1.2.2.2.1 x.1.1.2.2.2.2.1 some:=fnS (λx=>M.yC ig x.1.1.1 x.1.1.2.1 x.1.1.2.2.1 x.1.1.2.2.2.1 x.1.1.2.2.2.2.1) [] [F.BN JW] (by intros;simp only[M.yC,nb]<;>rfl)
def C.jR:∀n,S.kX.ok X0 λx=>M.jR n x.1.1.1 x.1.1.2.1 x.1.1.2.2.1 x.1.1.2.2.2.1 x.1.1.2.2.2.2.1
 |0=>fK.zero
 |n+1=>C.VG (C.jR n)
def C.kX:S.kX.ok X0 λx=>M.kX x.1.1.1 x.1.1.2.1 x.1.1.2.2.1 x.1.1.2.2.2.1 x.1.1.2.2.2.2.1:=fK.lim C.jR
def M.VH{n:Nat}{t' gW:Int}{iG jA:aC}{iC:au}{r:Int}(h:M.jR n t' gW iG jA iC=some r):M.kX t' gW iG jA iC=some r:=
 fK.Em C.jR (by intro a b h;simp[S.kX,sg] at h;first|exact h|simp[Prod.ext_iff,h]) (x:=(((t',gW,iG,jA,iC,()),()),())) h
def M.Aa{R:Type}(l v10:au)(v11 v12:Int)(v20:au)(v21 x' qR:Int)(wO zL:aC)(Dp:au)(s:Int)(kn:Int->Option R)(ke:(Unit)⊕(Int)->Option R):Option R:=match s with
 |v22=>
 bif decide (v22<v21) then
 ((idx v20 v22).bind λarq=>
 ((fB .i64 arq 0).bind λaEw=>
 ((idx l aEw).bind λars=>
 ((fB .i64 ars 0).bind λaEx=>
 ((M.dw x' qR wO zL Dp v22 aEx).bind λaEy=>(bif !aEy then(ke (.inl ())) else(kn (i64.wrap (v22+1))))))))) else(ke (.inr v22))
def M.KW(l v10:au)(v11 v12:Int)(v20:au)(v21 x' qR:Int)(wO zL:aC)(Dp:au)(s:Int):=M.Aa l v10 v11 v12 v20 v21 x' qR wO zL Dp s (λs=>some (Sum.inl s)) λt=>some (Sum.inr t)
def M.EH(l v10:au)(v11 v12:Int)(v20:au)(v21 x' qR:Int)(wO zL:aC)(Dp:au)(s:Int):Option ((Unit)⊕(Int)):=iT (M.KW l v10 v11 v12 v20 v21 x' qR wO zL Dp) s
def F.EH:LE X0 33:=le 9 (KF [fM 0 (pL false 5),fM 4 (pP 300000 0),fM 10 (pL false 5),fM 11 pI,fM 12 pI,fM 20 (pL false 1),fM 21 pI,fM 22 pI] [fM 300000 (cB 42 [pI,pI,pS,pS,pL false 1])]) (λx=>x.1.2.2.2.2.2.2.2.1) (λx s=>((x.1.1,(),x.1.2.2.1,x.1.2.2.2.1,x.1.2.2.2.2.1,x.1.2.2.2.2.2.1,x.1.2.2.2.2.2.2.1,s,()),((x.2.1.1,x.2.1.2.1,x.2.1.2.2.1,x.2.1.2.2.2.1,x.2.1.2.2.2.2.1,()),()))) (λx=> .sum (.leaf (Unit) (λt=>(Ex.ret,{tm:=[(2,V.d (D.bool false))],mem:=[]}))) (.leaf (Int) (λt=>(Ex.exit 2,{tm:=[(0,V.d (D.sl false 5 x.1.1)),(4,V.ptr 300000 0),(10,V.d (D.sl false 5 x.1.2.2.1)),(11,V.d (D.int .i64 x.1.2.2.2.1)),(12,V.d (D.int .i64 x.1.2.2.2.2.1)),(20,V.d (D.sl false 1 x.1.2.2.2.2.2.1)),(21,V.d (D.int .i64 x.1.2.2.2.2.2.2.1)),(22,V.d (D.int .i64 t)),(23,V.d (D.bool false))],mem:=[(300000,Cell.box 42 [V.d (D.int .i64 x.2.1.1),V.d (D.int .i64 x.2.1.2.1),V.d (D.str x.2.1.2.2.1),V.d (D.str x.2.1.2.2.2.1),V.d (D.sl false 1 x.2.1.2.2.2.2.1)])]})))) (λx=>M.Aa x.1.1 x.1.2.2.1 x.1.2.2.2.1 x.1.2.2.2.2.1 x.1.2.2.2.2.2.1 x.1.2.2.2.2.2.2.1 x.2.1.1 x.2.1.2.1 x.2.1.2.2.1 x.2.1.2.2.2.1 x.2.1.2.2.2.2.1) [fe C.dw] [] (by rintro _ _ _ _ _<;>simp only[M.Aa,nb]<;>rfl)
def M.Ac{R:Type}(l v10:au)(v11 s:Int)(kn:Int->Option R)(ke:(Unit)⊕(Int)->Option R):Option R:=match s with
 |v12=>
 bif decide (v12<v11) then
 ((idx v10 v12).bind λawV=>
 (iK 1 awV λaEz aEA aEB aEC aao=>
 ((M.bK aEz aEA aEB aEC aao).bind λaED=>
 (bif !aED then(ke (.inl ())) else
 ((M.EH l v10 v11 v12 aao ((↑aao.length:Int)) aEz aEA aEB aEC aao 0).bind λaEE=>
 yS aEE (λaX6=>(ke (.inl ()))) λaEF=>
 letE aEF λaX7=>(kn (i64.wrap (v12+1)))))))) else(ke (.inr v12))
def M.KX(l v10:au)(v11 s:Int):=M.Ac l v10 v11 s (λs=>some (Sum.inl s)) λt=>some (Sum.inr t)
def M.EI(l v10:au)(v11 s:Int):Option ((Unit)⊕(Int)):=iT (M.KX l v10 v11) s
def F.EI:LE X0 33:=le 4 (KF [fM 0 (pL false 5),fM 10 (pL false 5),fM 11 pI,fM 12 pI] []) (λx=>x.1.2.2.2.1) (λx s=>((x.1.1,x.1.2.1,x.1.2.2.1,s,()),())) (λx=> .sum (.leaf (Unit) (λt=>(Ex.ret,{tm:=[(2,V.d (D.bool false))],mem:=[]}))) (.leaf (Int) (λt=>(Ex.exit 0,{tm:=[(0,V.d (D.sl false 5 x.1.1)),(10,V.d (D.sl false 5 x.1.2.1)),(11,V.d (D.int .i64 x.1.2.2.1)),(12,V.d (D.int .i64 t)),(13,V.d (D.bool false))],mem:=[]})))) (λx=>M.Ac x.1.1 x.1.2.1 x.1.2.2.1) [fe C.bK] [F.EH] (by rintro _ _ _ _ _<;>simp only[iK,M.Ac,nb]<;>rfl)
def M.L6{R:Type}(l:au)(k:Bool->Option R):Option R:=
 (M.xK l).bind λaXt=>
 (bif !aXt then(k false) else
 ((M.EI l l ((↑l.length:Int)) 0).bind λaEG=>
 yS aEG (λaX8=>(k false)) λaEH=>
 letE aEH λaX9=>
 ((M.sQ l).bind λagQ=>
 ((M.kX agQ.1 agQ.2.1 agQ.2.2.1 agQ.2.2.2.1 (bM agQ.2.2.2.2)).bind λaEI=>(k (decide (aEI<=40)))))))
def M.Bc(l:au):Option (Bool):=M.L6 l some
def C.Bc:S.Bc.ok X0 λx=>M.Bc x.1.1:=fnS (λx=>M.L6 x.1.1) [fe C.xK,fe C.sQ,fe C.kX] [F.EI] (by intros;simp only[M.L6,nb]<;>rfl)
def M.VI{R:Type}(k:Int×Bool×Bool×Bool×Bool->Option R):Option R:=
 k ((1,false,false,false,false))
def M.qN:Option (Int×Bool×Bool×Bool×Bool):=M.VI some
def C.qN:S.qN.ok X0 λx=>M.qN:=fnS (λx=>M.VI) [] [] (by intros;simp only[M.VI,nb]<;>rfl)
def M.nI{R:Type}(s:(Int×Int×Int×Int×aC×aC×Int×Int×aC×aC)⊕(Int×Int×Int×Int×aC×aC×Int×Int×aC×aC×au))(kn:(Int×Int×Int×Int×aC×aC×Int×Int×aC×aC)⊕(Int×Int×Int×Int×aC×aC×Int×Int×aC×aC×au)->Option R)(ke:(Int×Int×Int×Int×aC×aC×Int×Int×aC×aC)⊕(Int×Int×Int×Int×aC×aC×Int×Int×aC×aC×au)->Option R):Option R:=match s with
 | .inl ((v16,v17,x',qR,wO,zL,Dp,Rh,NJ,VE))=>
 bif decide (v17<v16) then
 (kn (.inr ((v16,i64.wrap (v17+1),x',qR,wO,zL,Dp,Rh,NJ,VE,[[D.int .i64 v17]])))) else(ke (.inl ((v16,v17,x',qR,wO,zL,Dp,Rh,NJ,VE))))
 | .inr ((v16,v17,x',qR,wO,zL,Dp,Rh,NJ,VE,x'8))=>
 bif decide (v17<v16) then
 (jc x'8 [[D.int .i64 v17]] 8 λza=>(kn (.inr ((v16,i64.wrap (v17+1),x',qR,wO,zL,Dp,Rh,NJ,VE,za))))) else(ke (.inr ((v16,v17,x',qR,wO,zL,Dp,Rh,NJ,VE,x'8))))
def M.qB(s:(Int×Int×Int×Int×aC×aC×Int×Int×aC×aC)⊕(Int×Int×Int×Int×aC×aC×Int×Int×aC×aC×au)):=M.nI s (λs=>some (Sum.inl s)) λt=>some (Sum.inr t)
def M.DX(s:(Int×Int×Int×Int×aC×aC×Int×Int×aC×aC)⊕(Int×Int×Int×Int×aC×aC×Int×Int×aC×aC×au)):Option ((Int×Int×Int×Int×aC×aC×Int×Int×aC×aC)⊕(Int×Int×Int×Int×aC×aC×Int×Int×aC×aC×au)):=iT (M.qB) s
def F.DX:LE X0 140:=le 3 (pOr (KF [fM 2 (pP 300000 0),fM 3 (pP 300001 0),fM 16 pI,fM 17 pI] [fM 300000 (cB 42 [pI,pI,pS,pS,Zr 1]),fM 300001 (cB 42 [pI,pI,pS,pS,Zr 1])]) (KF [fM 2 (pP 300000 0),fM 3 (pP 300001 0),fM 16 pI,fM 17 pI] [fM 300000 (cB 42 [pI,pI,pS,pS,Zr 1]),fM 300001 (cB 42 [pI,pI,pS,pS,pO 300002 0]),fM 300002 (cA false true 0 1)])) (σ:=(Int×Int×Int×Int×aC×aC×Int×Int×aC×aC)⊕(Int×Int×Int×Int×aC×aC×Int×Int×aC×aC×au)) (λx=>(match x with| .inl x=> .inl ((x.1.2.2.1,x.1.2.2.2.1,x.2.1.1,x.2.1.2.1,x.2.1.2.2.1,x.2.1.2.2.2.1,x.2.2.1.1,x.2.2.1.2.1,x.2.2.1.2.2.1,x.2.2.1.2.2.2.1))| .inr x=> .inr ((x.1.2.2.1,x.1.2.2.2.1,x.2.1.1,x.2.1.2.1,x.2.1.2.2.1,x.2.1.2.2.2.1,x.2.2.1.1,x.2.2.1.2.1,x.2.2.1.2.2.1,x.2.2.1.2.2.2.1,x.2.2.2.1)))) (λx s=>(match s with| .inl s=> .inl ((((),(),s.1,s.2.1,()),((s.2.2.1,s.2.2.2.1,s.2.2.2.2.1,s.2.2.2.2.2.1,(),()),(s.2.2.2.2.2.2.1,s.2.2.2.2.2.2.2.1,s.2.2.2.2.2.2.2.2.1,s.2.2.2.2.2.2.2.2.2,(),()),())))| .inr s=> .inr ((((),(),s.1,s.2.1,()),((s.2.2.1,s.2.2.2.1,s.2.2.2.2.1,s.2.2.2.2.2.1,(),()),(s.2.2.2.2.2.2.1,s.2.2.2.2.2.2.2.1,s.2.2.2.2.2.2.2.2.1,s.2.2.2.2.2.2.2.2.2.1,(),()),s.2.2.2.2.2.2.2.2.2.2,()))))) (λx=> .sum (.leaf (Int×Int×Int×Int×aC×aC×Int×Int×aC×aC) (λt=>(Ex.exit 0,{tm:=[(2,V.ptr 300000 0),(3,V.ptr 300001 0),(16,V.d (D.int .i64 t.1)),(17,V.d (D.int .i64 t.2.1)),(18,V.d (D.bool false))],mem:=[(300000,Cell.box 42 [V.d (D.int .i64 t.2.2.1),V.d (D.int .i64 t.2.2.2.1),V.d (D.str t.2.2.2.2.1),V.d (D.str t.2.2.2.2.2.1),V.nil 1]),(300001,Cell.box 42 [V.d (D.int .i64 t.2.2.2.2.2.2.1),V.d (D.int .i64 t.2.2.2.2.2.2.2.1),V.d (D.str t.2.2.2.2.2.2.2.2.1),V.d (D.str t.2.2.2.2.2.2.2.2.2),V.nil 1])]}))) (.leaf (Int×Int×Int×Int×aC×aC×Int×Int×aC×aC×au) (λt=>(Ex.exit 0,{tm:=[(2,V.ptr 300000 0),(3,V.ptr 300001 0),(16,V.d (D.int .i64 t.1)),(17,V.d (D.int .i64 t.2.1)),(18,V.d (D.bool false))],mem:=[(300000,Cell.box 42 [V.d (D.int .i64 t.2.2.1),V.d (D.int .i64 t.2.2.2.1),V.d (D.str t.2.2.2.2.1),V.d (D.str t.2.2.2.2.2.1),V.nil 1]),(300001,Cell.box 42 [V.d (D.int .i64 t.2.2.2.2.2.2.1),V.d (D.int .i64 t.2.2.2.2.2.2.2.1),V.d (D.str t.2.2.2.2.2.2.2.2.1),V.d (D.str t.2.2.2.2.2.2.2.2.2.1),V.own 300002 0]),(300002,Cell.arr false true 0 1 t.2.2.2.2.2.2.2.2.2.2)]})))) (λx=>M.nI) [] [] (by rintro _ _ (⟨_,_,_,_,_,_,_,_,_,_⟩|⟨_,_,_,_,_,_,_,_,_,_,_⟩) _ _<;>simp only[jc,M.nI,nb]<;>rfl) (hE:=by intro _ _ s _;rcases s with s|s<;>kernel_rfl)
def M.FM{R:Type}(t' gW:Int)(iG jA:aC)(iC:au)(k:Int×Int×aC×aC×au->Option R):Option R:=
 (M.DX (.inl (((↑iC.length:Int),0,0,0,[],[],t',gW,iG,jA)))).bind λaEJ=>
 yS aEJ (λakT=>
 (k ((akT.2.2.2.2.2.2.1,akT.2.2.2.2.2.2.2.1,akT.2.2.2.2.2.2.2.2.1,akT.2.2.2.2.2.2.2.2.2,[])))) λaEK=>
 letE aEK λaei=>
 (bif aA aei.2.2.2.2.2.2.2.2.2.2 then
 (k ((aei.2.2.2.2.2.2.1,aei.2.2.2.2.2.2.2.1,aei.2.2.2.2.2.2.2.2.1,aei.2.2.2.2.2.2.2.2.2.1,aei.2.2.2.2.2.2.2.2.2.2))) else none)
def M.jS(t' gW:Int)(iG jA:aC)(iC:au):Option (Int×Int×aC×aC×au):=M.FM t' gW iG jA iC some
def C.jS:S.jS.ok X0 λx=>M.jS x.1.1.1 x.1.1.2.1 x.1.1.2.2.1 x.1.1.2.2.2.1 x.1.1.2.2.2.2.1:=fnS (λx=>M.FM x.1.1.1 x.1.1.2.1 x.1.1.2.2.1 x.1.1.2.2.2.1 x.1.1.2.2.2.2.1) [] [F.DX] (by intros;simp only[M.FM,nb]<;>rfl)
def M.JX{R:Type}(n' gX:Int)(jf iP:aC)(iM:au)(k:Int->Option R):Option R:=
 bif n'==15 then(k 1) else
 (bif n'==14 then(k 2) else
 (bif n'==13 then(k 5) else
 (bif n'==12 then((M.mO gX).bind λaEL=>(k aEL)) else
 (bif n'==11 then(k 11) else
 (bif n'==9 then(k 13) else
 (bif n'==10 then(k 13) else
 (bif n'==6 then(k 14) else
 (bif n'==1 then(k 15) else
 (bif n'==2 then(k 15) else
 (bif n'==3 then(k 15) else
 (bif n'==4 then(k 15) else
 (bif n'==5 then(k 15) else(bif n'==7 then(k 15) else(bif n'==8 then(k 15) else(k 0)))))))))))))))
def M.nC(n' gX:Int)(jf iP:aC)(iM:au):Option (Int):=M.JX n' gX jf iP iM some
def C.nC:S.nC.ok X0 λx=>M.nC x.1.1.1 x.1.1.2.1 x.1.1.2.2.1 x.1.1.2.2.2.1 x.1.1.2.2.2.2.1:=fnS (λx=>M.JX x.1.1.1 x.1.1.2.1 x.1.1.2.2.1 x.1.1.2.2.2.1 x.1.1.2.2.2.2.1) [fe C.mO] [] (by intros;unfold M.JX;repeat' first|with_reducible apply gZ|with_reducible apply GV|with_reducible apply GX|with_reducible apply GY|with_reducible apply GZ|(intro _)|apply gZ|rfl)
def M.NP{R:Type}(p:Int)(p1 p2 p3 p4:Bool)(k:Bool->Option R):Option R:=
 (M.dX p 1 15).bind λaEM=>(bif aEM then(bif !p1 then(k true) else(k (p==14))) else(k false))
def M.y5(p:Int)(p1 p2 p3 p4:Bool):Option (Bool):=M.NP p p1 p2 p3 p4 some
def C.y5:S.y5.ok X0 λx=>M.y5 x.1.1.1 x.1.1.2.1 x.1.1.2.2.1 x.1.1.2.2.2.1 x.1.1.2.2.2.2.1:=fnS (λx=>M.NP x.1.1.1 x.1.1.2.1 x.1.1.2.2.1 x.1.1.2.2.2.1 x.1.1.2.2.2.2.1) [fe C.dX] [] (by intros;unfold M.NP;repeat' first|with_reducible apply gZ|with_reducible apply GV|with_reducible apply GX|with_reducible apply GY|with_reducible apply GZ|(intro _)|apply gZ|rfl)
def M.O5{R:Type}(n' gX:Int)(jf iP:aC)(iM:au)(p:Int)(p1 p2 p3 p4:Bool)(k:Bool->Option R):Option R:=
 (M.nC n' gX jf iP iM).bind λCY=>
 ((M.y5 p p1 p2 p3 p4).bind λaEN=>
 (bif !aEN then(k false) else
 (bif CY==0 then(k false) else
 (bif p2 then
 (bif n'==13 then(k false) else
 (bif p3 then
 (bif n'==12 then
 (bif gX==62 then(k false) else
 (bif p4 then
 (bif n'==11 then(k false) else
 (bif n'==9 then(k false) else
 (bif n'==4 then(k false) else
 (bif p1 then(bif n'==9 then(k true) else(k (decide (CY>=p)))) else(k (decide (CY>=p))))))) else
 (bif p1 then(bif n'==9 then(k true) else(k (decide (CY>=p)))) else(k (decide (CY>=p)))))) else
 (bif p4 then
 (bif n'==11 then(k false) else
 (bif n'==9 then(k false) else
 (bif n'==4 then(k false) else
 (bif p1 then(bif n'==9 then(k true) else(k (decide (CY>=p)))) else(k (decide (CY>=p))))))) else
 (bif p1 then(bif n'==9 then(k true) else(k (decide (CY>=p)))) else(k (decide (CY>=p)))))) else
 (bif p4 then
 (bif n'==11 then(k false) else
 (bif n'==9 then(k false) else
 (bif n'==4 then(k false) else
 (bif p1 then(bif n'==9 then(k true) else(k (decide (CY>=p)))) else(k (decide (CY>=p))))))) else
 (bif p1 then(bif n'==9 then(k true) else(k (decide (CY>=p)))) else(k (decide (CY>=p))))))) else
 (bif p3 then
 (bif n'==12 then
 (bif gX==62 then(k false) else
 (bif p4 then
 (bif n'==11 then(k false) else
 (bif n'==9 then(k false) else
 (bif n'==4 then(k false) else
 (bif p1 then(bif n'==9 then(k true) else(k (decide (CY>=p)))) else(k (decide (CY>=p))))))) else
 (bif p1 then(bif n'==9 then(k true) else(k (decide (CY>=p)))) else(k (decide (CY>=p)))))) else
 (bif p4 then
 (bif n'==11 then(k false) else
 (bif n'==9 then(k false) else
 (bif n'==4 then(k false) else
 (bif p1 then(bif n'==9 then(k true) else(k (decide (CY>=p)))) else(k (decide (CY>=p))))))) else
 (bif p1 then(bif n'==9 then(k true) else(k (decide (CY>=p)))) else(k (decide (CY>=p)))))) else
 (bif p4 then
 (bif n'==11 then(k false) else
 (bif n'==9 then(k false) else
 (bif n'==4 then(k false) else
 (bif p1 then(bif n'==9 then(k true) else(k (decide (CY>=p)))) else(k (decide (CY>=p))))))) else
 (bif p1 then(bif n'==9 then(k true) else(k (decide (CY>=p)))) else(k (decide (CY>=p))))))))))
def M.Di(n' gX:Int)(jf iP:aC)(iM:au)(p:Int)(p1 p2 p3 p4:Bool):Option (Bool):=M.O5 n' gX jf iP iM p p1 p2 p3 p4 some
def C.Di:S.Di.ok X0 λx=>M.Di x.1.1.1 x.1.1.2.1 x.1.1.2.2.1 x.1.1.2.2.2.1 x.1.1.2.2.2.2.1 x.1.2.1.1 x.1.2.1.2.1 x.1.2.1.2.2.1 x.1.2.1.2.2.2.1 x.1.2.1.2.2.2.2.1:=fnS (λx=>M.O5 x.1.1.1 x.1.1.2.1 x.1.1.2.2.1 x.1.1.2.2.2.1 x.1.1.2.2.2.2.1 x.1.2.1.1 x.1.2.1.2.1 x.1.2.1.2.2.1 x.1.2.1.2.2.2.1 x.1.2.1.2.2.2.2.1) [fe C.nC,fe C.y5] [] (by intros;unfold M.O5;repeat' first|with_reducible apply gZ|with_reducible apply GV|with_reducible apply GX|with_reducible apply GY|with_reducible apply GZ|(intro _)|apply gZ|rfl)
def M.SE{R:Type}(s':aC)(k:Int×Int×aC×au×Int->Option R):Option R:=
 k ((1,0,s',[],0))
def M.aX(s':aC):Option (Int×Int×aC×au×Int):=M.SE s' some
def C.aX:S.aX.ok X0 λx=>M.aX x.1.1:=fnS (λx=>M.SE x.1.1) [] [] (by intros;simp only[M.SE,nb]<;>rfl)
def M.SG{R:Type}(k:Int×Int×aC×au×Int->Option R):Option R:=
 k ((2,0,[],[],0))
def M.tH:Option (Int×Int×aC×au×Int):=M.SG some
def C.tH:S.tH.ok X0 λx=>M.tH:=fnS (λx=>M.SG) [] [] (by intros;simp only[M.SG,nb]<;>rfl)
def M.NQ{R:Type}(v0:Int)(k:Int×Bool×Bool×Bool×Bool->Option R):Option R:=
 M.qN.bind λagR=>
 (k ((agR.1,agR.2.1,agR.2.2.1,agR.2.2.2.1,agR.2.2.2.2)))
def M.Et(v0:Int):Option (Int×Bool×Bool×Bool×Bool):=M.NQ v0 some
def C.Et:S.Et.ok X0 λx=>M.Et x.1.1:=fnS (λx=>M.NQ x.1.1) [fe C.qN] [] (by intros;simp only[M.NQ,nb]<;>rfl)
def M.VJ{R:Type}(list:au)(k:Int×Int×aC×au×Int->Option R):Option R:=
 k ((6,0,[],list,0))
def M.dD(list:au):Option (Int×Int×aC×au×Int):=M.VJ list some
def C.dD:S.dD.ok X0 λx=>M.dD x.1.1:=fnS (λx=>M.VJ x.1.1) [] [] (by intros;simp only[M.VJ,nb]<;>rfl)
def M.SH{R:Type}(d d1:Int)(d2:aC)(d3:au)(d4:Int)(k:Int×Int×aC×au×Int->Option R):Option R:=
 k ((4,4,[],[[D.int .i64 d,D.int .i64 d1,D.str d2,D.sl false 5 d3,D.int .i64 d4]],0))
def M.qy(d d1:Int)(d2:aC)(d3:au)(d4:Int):Option (Int×Int×aC×au×Int):=M.SH d d1 d2 d3 d4 some
def C.qy:S.qy.ok X0 λx=>M.qy x.1.1.1 x.1.1.2.1 x.1.1.2.2.1 x.1.1.2.2.2.1 x.1.1.2.2.2.2.1:=fnS (λx=>M.SH x.1.1.1 x.1.1.2.1 x.1.1.2.2.1 x.1.1.2.2.2.1 x.1.1.2.2.2.2.1) [] [] (by intros;simp only[M.SH,nb]<;>rfl)
def M.QN{R:Type}(d d1:Int)(d2:aC)(d3:au)(d4:Int)(k:Int×Int×aC×au×Int->Option R):Option R:=
 k ((5,0,[],[[D.int .i64 d,D.int .i64 d1,D.str d2,D.sl false 5 d3,D.int .i64 d4]],0))
def M.pW(d d1:Int)(d2:aC)(d3:au)(d4:Int):Option (Int×Int×aC×au×Int):=M.QN d d1 d2 d3 d4 some
def C.pW:S.pW.ok X0 λx=>M.pW x.1.1.1 x.1.1.2.1 x.1.1.2.2.1 x.1.1.2.2.2.1 x.1.1.2.2.2.2.1:=fnS (λx=>M.QN x.1.1.1 x.1.1.2.1 x.1.1.2.2.1 x.1.1.2.2.2.1 x.1.1.2.2.2.2.1) [] [] (by intros;simp only[M.QN,nb]<;>rfl)
def M.yD{R:Type}(fA:Int->Int->aC->aC->au->Int->Bool->Bool->Bool->Bool->Option (Int×Int×aC×au×Int))(v9:au)(v10 x' qR:Int)(wO:aC)(zL:Int)(s:Int×au)(kn:Int×au->Option R)(ke:Int×au->Option R):Option R:=match s with
 |(v11,Dp)=>
 bif decide (v11<v10) then
 ((idx v9 v11).bind λaru=>
 (iK 5 aru λasY asZ as1 as2 agS=>
 (bif decide (v11>0) then
 ((M.aX [44]).bind λaEO=>
 (M.tH.bind λaEP=>
 (jc Dp [eH aEO,eH aEP] 64 λza=>((M.Et v11).bind λagT=>
 ((fA asY asZ as1 as2 agS agT.1 agT.2.1 agT.2.2.1 agT.2.2.2.1 agT.2.2.2.2).bind λaEQ=>
 (jc za [eH aEQ] 64 λzb=>(kn ((i64.wrap (v11+1),zb))))))))) else
 ((M.Et v11).bind λagU=>
 ((fA asY asZ as1 as2 agS agU.1 agU.2.1 agU.2.2.1 agU.2.2.2.1 agU.2.2.2.2).bind λaER=>
 (jc Dp [eH aER] 64 λza=>(kn ((i64.wrap (v11+1),za))))))))) else(ke ((v11,Dp)))
def M.JY(fA:Int->Int->aC->aC->au->Int->Bool->Bool->Bool->Bool->Option (Int×Int×aC×au×Int))(v9:au)(v10 x' qR:Int)(wO:aC)(zL:Int)(s:Int×au):=M.yD fA v9 v10 x' qR wO zL s (λs=>some (Sum.inl s)) λt=>some (Sum.inr t)
def M.Ih(fA:Int->Int->aC->aC->au->Int->Bool->Bool->Bool->Bool->Option (Int×Int×aC×au×Int))(v9:au)(v10 x' qR:Int)(wO:aC)(zL:Int)(s:Int×au):Option (Int×au):=iT (M.JY fA v9 v10 x' qR wO zL) s
def F.Ih{fA:Int->Int->aC->aC->au->Int->Bool->Bool->Bool->Bool->Option (Int×Int×aC×au×Int)}(EJ:S.iF.ok X0 λx=>fA x.1.1.1 x.1.1.2.1 x.1.1.2.2.1 x.1.1.2.2.2.1 x.1.1.2.2.2.2.1 x.1.2.1.1 x.1.2.1.2.1 x.1.2.1.2.2.1 x.1.2.1.2.2.2.1 x.1.2.1.2.2.2.2.1):LE X0 83:=le 3 (KF [fM 1 (aqT 84 [] []),fM 4 (pP 300000 0),fM 5 (pO 300001 0),fM 9 (pL false 5),fM 10 pI,fM 11 pI] [fM 300000 (cB 49 [pI,pI,pS,Zr 5,pI]),fM 300001 (cA false false 0 5)]) (λx=>(x.1.2.2.2.2.2.1,x.2.2.1)) (λx s=>((((),()),(),(),x.1.2.2.2.1,x.1.2.2.2.2.1,s.1,()),((x.2.1.1,x.2.1.2.1,x.2.1.2.2.1,(),x.2.1.2.2.2.2.1,()),s.2,()))) (λx=> .leaf (Int×au) (λt=>(Ex.exit 0,{tm:=[(1,V.clo 84 [] []),(4,V.ptr 300000 0),(5,V.own 300001 0),(9,V.d (D.sl false 5 x.1.2.2.2.1)),(10,V.d (D.int .i64 x.1.2.2.2.2.1)),(11,V.d (D.int .i64 t.1)),(12,V.d (D.bool false))],mem:=[(300000,Cell.box 49 [V.d (D.int .i64 x.2.1.1),V.d (D.int .i64 x.2.1.2.1),V.d (D.str x.2.1.2.2.1),V.nil 5,V.d (D.int .i64 x.2.1.2.2.2.2.1)]),(300001,Cell.arr false false 0 5 t.2)]}))) (λx=>M.yD fA x.1.2.2.2.1 x.1.2.2.2.2.1 x.2.1.1 x.2.1.2.1 x.2.1.2.2.1 x.2.1.2.2.2.2.1) [fe C.aX,fe C.tH,fe C.Et,fe EJ] [] (by rintro _ _ ⟨_,_⟩ _ _<;>simp only[jc,eH,iK,M.yD,nb]<;>rfl)
def M.Ad{R:Type}(fA:Int->Int->aC->aC->au->Int->Bool->Bool->Bool->Bool->Option (Int×Int×aC×au×Int))(kids:au)(k:Int×Int×aC×au×Int->Option R):Option R:=
 (M.Ih fA kids ((↑kids.length:Int)) 0 0 [] 0 ((0,[]))).bind λaES=>
 ((M.dD aES.2).bind λagV=>
 ((M.qy agV.1 agV.2.1 agV.2.2.1 (bM agV.2.2.2.1) agV.2.2.2.2).bind λagW=>
 ((M.pW agW.1 agW.2.1 agW.2.2.1 (bM agW.2.2.2.1) agW.2.2.2.2).bind λaET=>
 (k ((kK aET))))))
def C.ZN{fA:Int->Int->aC->aC->au->Int->Bool->Bool->Bool->Bool->Option (Int×Int×aC×au×Int)}(EJ:S.iF.ok X0 λx=>fA x.1.1.1 x.1.1.2.1 x.1.1.2.2.1 x.1.1.2.2.2.1 x.1.1.2.2.2.2.1 x.1.2.1.1 x.1.2.1.2.1 x.1.2.1.2.2.1 x.1.2.1.2.2.2.1 x.1.2.1.2.2.2.2.1):S.oq.ok X0 λx=>M.Ad fA x.1.1 some:=fnS (λx=>M.Ad fA x.1.1) [fe C.dD,fe C.qy,fe C.pW] [F.Ih EJ] (by intros;simp only[kK,M.Ad,nb]<;>rfl)
def M.Ii{R:Type}(op' k':Int)(k:Int->Option R):Option R:=
 (M.mO op').bind λabN=>
 (bif abN==3 then(bif k'==0 then(k 3) else(k 4)) else
 (bif abN==4 then(bif k'==0 then(k 4) else(k 5)) else
 (bif abN==6 then(bif k'==0 then(k 7) else(k 7)) else
 (bif abN==7 then(bif k'==0 then(k 8) else(k 8)) else
 (bif abN==8 then(bif k'==0 then(k 8) else(k 9)) else
 (bif abN==9 then(bif k'==0 then(k 9) else(k 10)) else
 (bif abN==10 then(bif k'==0 then(k 10) else(k 11)) else(bif k'==0 then(k 13) else(k 11)))))))))
def M.uZ(op' k':Int):Option (Int):=M.Ii op' k' some
def C.uZ:S.uZ.ok X0 λx=>M.uZ x.1.1 x.1.2.1:=fnS (λx=>M.Ii x.1.1 x.1.2.1) [fe C.mO] [] (by intros;unfold M.Ii;repeat' first|with_reducible apply gZ|with_reducible apply GV|with_reducible apply GX|with_reducible apply GY|with_reducible apply GZ|(intro _)|apply gZ|rfl)
def M.Ij{R:Type}(n' gX:Int)(jf iP:aC)(iM:au)(k':Int)(k:Int->Option R):Option R:=
 bif n'==15 then(bif decide (k'>0) then(k 1) else(k 14)) else
 (bif n'==14 then(bif decide (k'>0) then(k 2) else(k 3)) else
 (bif n'==13 then(k 5) else
 (bif n'==11 then(k 11) else(bif n'==12 then((M.uZ gX k').bind λaEU=>(k aEU)) else(k 14)))))
def M.rU(n' gX:Int)(jf iP:aC)(iM:au)(k':Int):Option (Int):=M.Ij n' gX jf iP iM k' some
def C.rU:S.rU.ok X0 λx=>M.rU x.1.1.1 x.1.1.2.1 x.1.1.2.2.1 x.1.1.2.2.2.1 x.1.1.2.2.2.2.1 x.1.2.1:=fnS (λx=>M.Ij x.1.1.1 x.1.1.2.1 x.1.1.2.2.1 x.1.1.2.2.2.1 x.1.1.2.2.2.2.1 x.1.2.1) [fe C.uZ] [] (by intros;simp only[M.Ij,nb]<;>rfl)
def M.L8{R:Type}(n' gX:Int)(jf iP:aC)(iM:au)(k' p:Int)(p1 p2 p3 p4:Bool)(k:Int×Bool×Bool×Bool×Bool->Option R):Option R:=
 (M.y5 p p1 p2 p3 p4).bind λaEV=>
 (bif !aEV then(k ((0,false,false,false,false))) else
 ((M.dX k' 0 (i64.wrap ((↑iM.length:Int) - 1))).bind λaEW=>
 (bif !aEW then(k ((0,false,false,false,false))) else
 ((M.nC n' gX jf iP iM).bind λaEX=>
 (bif aEX==0 then(k ((0,false,false,false,false))) else
 ((M.nC n' gX jf iP iM).bind λaEY=>
 (bif aEY==15 then
 (M.qN.bind λagX=>
 (k ((agX.1,agX.2.1,agX.2.2.1,agX.2.2.2.1,agX.2.2.2.2)))) else
 (bif n'==13 then
 (bif decide ((↑iM.length:Int)>1) then
 (M.qN.bind λagY=>
 (k ((agY.1,agY.2.1,agY.2.2.1,agY.2.2.2.1,agY.2.2.2.2)))) else
 ((M.rU n' gX jf iP iM k').bind λSI=>
 (bif n'==11 then(k ((SI,n'==6,p2,p3,false))) else
 (bif n'==9 then(k ((SI,n'==6,p2,p3,false))) else
 (bif n'==10 then(k ((SI,n'==6,p2,p3,false))) else
 (bif n'==6 then(k ((SI,n'==6,p2,p3,false))) else
 (bif k'==0 then
 (bif p4 then(k ((SI,n'==6,p2,p3,true))) else
 (bif k'==1 then
 (bif n'==12 then(k ((SI,n'==6,p2,p3,gX==99))) else(k ((SI,n'==6,p2,p3,false)))) else(k ((SI,n'==6,p2,p3,false))))) else
 (bif k'==1 then
 (bif n'==12 then(k ((SI,n'==6,p2,p3,gX==99))) else(k ((SI,n'==6,p2,p3,false)))) else(k ((SI,n'==6,p2,p3,false))))))))))) else
 ((M.rU n' gX jf iP iM k').bind λSK=>
 (bif n'==11 then(k ((SK,n'==6,p2,p3,false))) else
 (bif n'==9 then(k ((SK,n'==6,p2,p3,false))) else
 (bif n'==10 then(k ((SK,n'==6,p2,p3,false))) else
 (bif n'==6 then(k ((SK,n'==6,p2,p3,false))) else
 (bif k'==0 then
 (bif p4 then(k ((SK,n'==6,p2,p3,true))) else
 (bif k'==1 then
 (bif n'==12 then(k ((SK,n'==6,p2,p3,gX==99))) else(k ((SK,n'==6,p2,p3,false)))) else(k ((SK,n'==6,p2,p3,false))))) else
 (bif k'==1 then
 (bif n'==12 then(k ((SK,n'==6,p2,p3,gX==99))) else(k ((SK,n'==6,p2,p3,false)))) else(k ((SK,n'==6,p2,p3,false))))))))))))))))))
def M.vg(n' gX:Int)(jf iP:aC)(iM:au)(k' p:Int)(p1 p2 p3 p4:Bool):Option (Int×Bool×Bool×Bool×Bool):=M.L8 n' gX jf iP iM k' p p1 p2 p3 p4 some
def C.vg:S.vg.ok X0 λx=>M.vg x.1.1.1 x.1.1.2.1 x.1.1.2.2.1 x.1.1.2.2.2.1 x.1.1.2.2.2.2.1 x.1.2.1 x.1.2.2.1.1 x.1.2.2.1.2.1 x.1.2.2.1.2.2.1 x.1.2.2.1.2.2.2.1 x.1.2.2.1.2.2.2.2.1:=fnS (λx=>M.L8 x.1.1.1 x.1.1.2.1 x.1.1.2.2.1 x.1.1.2.2.2.1 x.1.1.2.2.2.2.1 x.1.2.1 x.1.2.2.1.1 x.1.2.2.1.2.1 x.1.2.2.1.2.2.1 x.1.2.2.1.2.2.2.1 x.1.2.2.1.2.2.2.2.1) [fe C.y5,fe C.dX,fe C.nC,fe C.qN,fe C.rU] [] (by intros;unfold M.L8;repeat' first|with_reducible apply gZ|with_reducible apply GV|with_reducible apply GX|with_reducible apply GY|with_reducible apply GZ|(intro _)|apply gZ|rfl)
def M.Ik{R:Type}(n' gX:Int)(jf iP:aC)(iM:au)(k':Int)(k:Bool->Option R):Option R:=
 bif k'==0 then(bif n'==9 then(k true) else(bif n'==10 then(k true) else(k (n'==15)))) else(k false)
def M.o9(n' gX:Int)(jf iP:aC)(iM:au)(k':Int):Option (Bool):=M.Ik n' gX jf iP iM k' some
def C.o9:S.o9.ok X0 λx=>M.o9 x.1.1.1 x.1.1.2.1 x.1.1.2.2.1 x.1.1.2.2.2.1 x.1.1.2.2.2.2.1 x.1.2.1:=fnS (λx=>M.Ik x.1.1.1 x.1.1.2.1 x.1.1.2.2.1 x.1.1.2.2.2.1 x.1.1.2.2.2.2.1 x.1.2.1) [] [] (by intros;simp only[M.Ik,nb]<;>rfl)
def M.Dk{R:Type}(kG:Int->Int->aC->aC->au->Int->Bool->Bool->Bool->Bool->Option (Int×Int×aC×au×Int))(fA:Int->Int->aC->aC->au->Int->Bool->Bool->Bool->Bool->Option (Int×Int×aC×au×Int))(t' gW:Int)(iG jA:aC)(iC:au)(k' p:Int)(p1 p2 p3 p4:Bool)(k:Int×Int×aC×au×Int->Option R):Option R:=
 (M.jS t' gW iG jA iC).bind λUG=>
 ((M.vg UG.1 UG.2.1 UG.2.2.1 UG.2.2.2.1 UG.2.2.2.2 k' p p1 p2 p3 p4).bind λUH=>
 ((M.o9 UG.1 UG.2.1 UG.2.2.1 UG.2.2.2.1 UG.2.2.2.2 k').bind λaEZ=>
 (bif aEZ then
 ((idx iC k').bind λarv=>
 (iK 5 arv λaE0 aE1 aE2 aE3 aoz=>
 ((kG aE0 aE1 aE2 aE3 aoz UH.1 UH.2.1 UH.2.2.1 UH.2.2.2.1 UH.2.2.2.2).bind λaE4=>
 (k ((kK aE4)))))) else
 ((idx iC k').bind λarw=>
 (iK 5 arw λaE5 aE6 aE7 aE8 aoA=>
 ((fA aE5 aE6 aE7 aE8 aoA UH.1 UH.2.1 UH.2.2.1 UH.2.2.2.1 UH.2.2.2.2).bind λaE9=>
 (k ((kK aE9)))))))))
def C.abO{kG:Int->Int->aC->aC->au->Int->Bool->Bool->Bool->Bool->Option (Int×Int×aC×au×Int)}{fA:Int->Int->aC->aC->au->Int->Bool->Bool->Bool->Bool->Option (Int×Int×aC×au×Int)}(OB:S.xM.ok X0 λx=>kG x.1.1.1 x.1.1.2.1 x.1.1.2.2.1 x.1.1.2.2.2.1 x.1.1.2.2.2.2.1 x.1.2.1.1 x.1.2.1.2.1 x.1.2.1.2.2.1 x.1.2.1.2.2.2.1 x.1.2.1.2.2.2.2.1)(EJ:S.iF.ok X0 λx=>fA x.1.1.1 x.1.1.2.1 x.1.1.2.2.1 x.1.1.2.2.2.1 x.1.1.2.2.2.2.1 x.1.2.1.1 x.1.2.1.2.1 x.1.2.1.2.2.1 x.1.2.1.2.2.2.1 x.1.2.1.2.2.2.2.1):S.Bd.ok X0 λx=>M.Dk kG fA x.1.1.1 x.1.1.2.1 x.1.1.2.2.1 x.1.1.2.2.2.1 x.1.1.2.2.2.2.1 x.1.2.1 x.1.2.2.1.1 x.1.2.2.1.2.1 x.1.2.2.1.2.2.1 x.1.2.2.1.2.2.2.1 x.1.2.2.1.2.2.2.2.1 some:=fnS (λx=>M.Dk kG fA x.1.1.1 x.1.1.2.1 x.1.1.2.2.1 x.1.1.2.2.2.1 x.1.1.2.2.2.2.1 x.1.2.1 x.1.2.2.1.1 x.1.2.2.1.2.1 x.1.2.2.1.2.2.1 x.1.2.2.1.2.2.2.1 x.1.2.2.1.2.2.2.2.1) [fe C.jS,fe C.vg,fe C.o9,fe OB,fe EJ] [] (by intros;simp only[M.Dk,kK,iK];repeat' first|with_reducible apply gZ|with_reducible apply GV|with_reducible apply GX|with_reducible apply GY|with_reducible apply GZ|(intro _)|apply gZ|rfl)
def M.BO{R:Type}(tokens c c1:au)(c2:Bool)(k:au×au×Bool->Option R):Option R:=
 bif((c.length+tokens.length) * 32).ble 140737488355328 then
 (bif(c.length+tokens.length).ble 140737488355328 then
 (bif aA (c++tokens) then(bif aA c1 then(k ((c++tokens,c1,c2))) else none) else none) else none) else none
def M.bZ(tokens c c1:au)(c2:Bool):Option (au×au×Bool):=M.BO tokens c c1 c2 some
def C.bZ:S.bZ.ok X0 λx=>M.bZ x.1.2.1 x.2.1.1 x.2.1.2.1 x.2.1.2.2.1:=fnS (λx=>M.BO x.1.2.1 x.2.1.1 x.2.1.2.1 x.2.1.2.2.1) [] [] (by intros;unfold M.BO;repeat' first|with_reducible apply gZ|with_reducible apply GV|with_reducible apply GX|with_reducible apply GY|with_reducible apply GZ|(intro _)|apply gZ|rfl)
def M.O6{R:Type}(kind:Int)(k:Int×aC×Int->Option R):Option R:=
 (M.iL kind).bind λaFa=>(k ((kind,aFa,0)))
def M.jr(kind:Int):Option (Int×aC×Int):=M.O6 kind some
def C.jr:S.jr.ok X0 λx=>M.jr x.1.1:=fnS (λx=>M.O6 x.1.1) [fe C.iL] [] (by intros;simp only[M.O6,nb]<;>rfl)
def M.nD{R:Type}(bP:Int->Int->aC->aC->au->Int->Int->Bool->Bool->Bool->Bool->au->au->Bool->Option (au×au×Bool))(shut v18 x' qR:Int)(wO zL:aC)(Dp:au)(Rh:Int)(NJ VE x'8 x'9:Bool)(s:Int×Bool×au×au)(kn:Int×Bool×au×au->Option R)(ke:Int×Bool×au×au->Option R):Option R:=match s with
 |(v19,v,aoB,aoC)=>
 bif decide (v19<v18) then
 (bif decide (v19>0) then
 ((M.jr 36).bind λaoD=>
 (bif aA aoB then
 (bif aA aoC then
 ((M.bZ ([[D.int .i64 aoD.1,D.str aoD.2.1,D.int .i64 aoD.2.2]]) aoB aoC v).bind λagZ=>
 (bif aA agZ.1 then
 (bif aA agZ.2.1 then
 ((bP x' qR wO zL Dp v19 Rh NJ VE x'8 x'9 agZ.1 agZ.2.1 agZ.2.2).bind λaoE=>(kn ((i64.wrap (v19+1),aoE.2.2,aoE.1,aoE.2.1)))) else none) else none)) else none) else none)) else
 (bif aA aoB then
 (bif aA aoC then
 ((bP x' qR wO zL Dp v19 Rh NJ VE x'8 x'9 aoB aoC v).bind λaoF=>(kn ((i64.wrap (v19+1),aoF.2.2,aoF.1,aoF.2.1)))) else none) else none)) else(ke ((v19,v,aoB,aoC)))
def M.nG(bP:Int->Int->aC->aC->au->Int->Int->Bool->Bool->Bool->Bool->au->au->Bool->Option (au×au×Bool))(shut v18 x' qR:Int)(wO zL:aC)(Dp:au)(Rh:Int)(NJ VE x'8 x'9:Bool)(s:Int×Bool×au×au):=M.nD bP shut v18 x' qR wO zL Dp Rh NJ VE x'8 x'9 s (λs=>some (Sum.inl s)) λt=>some (Sum.inr t)
def M.kM(bP:Int->Int->aC->aC->au->Int->Int->Bool->Bool->Bool->Bool->au->au->Bool->Option (au×au×Bool))(shut v18 x' qR:Int)(wO zL:aC)(Dp:au)(Rh:Int)(NJ VE x'8 x'9:Bool)(s:Int×Bool×au×au):Option (Int×Bool×au×au):=iT (M.nG bP shut v18 x' qR wO zL Dp Rh NJ VE x'8 x'9) s
def F.kM{bP:Int->Int->aC->aC->au->Int->Int->Bool->Bool->Bool->Bool->au->au->Bool->Option (au×au×Bool)}(wo:S.jM.ok X0 λx=>bP x.1.2.1.1 x.1.2.1.2.1 x.1.2.1.2.2.1 x.1.2.1.2.2.2.1 x.1.2.1.2.2.2.2.1 x.1.2.2.1 x.1.2.2.2.1.1 x.1.2.2.2.1.2.1 x.1.2.2.2.1.2.2.1 x.1.2.2.2.1.2.2.2.1 x.1.2.2.2.1.2.2.2.2.1 x.2.1.1 x.2.1.2.1 x.2.1.2.2.1):LE X0 256:=le 3 (KF [fM 0 (pP 100000 0),fM 3 pI,fM 6 (pP 300000 0),fM 9 (pP 300001 0),fM 18 pI,fM 19 pI] [fM 100000 (cB 182 [pO 300002 0,pO 300003 0,pB]),fM 300000 (cB 53 [pI,pI,pS,pS,pL false 5]),fM 300001 (cB 65 [pI,pB,pB,pB,pB]),fM 300002 (cA false true 0 3),fM 300003 (cA false true 0 2)]) (λx=>(x.1.2.2.2.2.2.1,x.2.1.2.2.1,x.2.2.2.2.1,x.2.2.2.2.2.1)) (λx s=>(((),x.1.2.1,(),(),x.1.2.2.2.2.1,s.1,()),(((),(),s.2.1,()),(x.2.2.1.1,x.2.2.1.2.1,x.2.2.1.2.2.1,x.2.2.1.2.2.2.1,x.2.2.1.2.2.2.2.1,()),(x.2.2.2.1.1,x.2.2.2.1.2.1,x.2.2.2.1.2.2.1,x.2.2.2.1.2.2.2.1,x.2.2.2.1.2.2.2.2.1,()),s.2.2.1,s.2.2.2,()))) (λx=> .leaf (Int×Bool×au×au) (λt=>(Ex.exit 0,{tm:=[(0,V.ptr 100000 0),(3,V.d (D.int .i64 x.1.2.1)),(6,V.ptr 300000 0),(9,V.ptr 300001 0),(18,V.d (D.int .i64 x.1.2.2.2.2.1)),(19,V.d (D.int .i64 t.1)),(20,V.d (D.bool false))],mem:=[(100000,Cell.box 182 [V.own 300002 0,V.own 300003 0,V.d (D.bool t.2.1)]),(300000,Cell.box 53 [V.d (D.int .i64 x.2.2.1.1),V.d (D.int .i64 x.2.2.1.2.1),V.d (D.str x.2.2.1.2.2.1),V.d (D.str x.2.2.1.2.2.2.1),V.d (D.sl false 5 x.2.2.1.2.2.2.2.1)]),(300001,Cell.box 65 [V.d (D.int .i64 x.2.2.2.1.1),V.d (D.bool x.2.2.2.1.2.1),V.d (D.bool x.2.2.2.1.2.2.1),V.d (D.bool x.2.2.2.1.2.2.2.1),V.d (D.bool x.2.2.2.1.2.2.2.2.1)]),(300002,Cell.arr false true 0 3 t.2.2.1),(300003,Cell.arr false true 0 2 t.2.2.2)]}))) (λx=>M.nD bP x.1.2.1 x.1.2.2.2.2.1 x.2.2.1.1 x.2.2.1.2.1 x.2.2.1.2.2.1 x.2.2.1.2.2.2.1 x.2.2.1.2.2.2.2.1 x.2.2.2.1.1 x.2.2.2.1.2.1 x.2.2.2.1.2.2.1 x.2.2.2.1.2.2.2.1 x.2.2.2.1.2.2.2.2.1) [fe C.jr,fe C.bZ,fe wo] [] (by rintro _ _ ⟨_,_,_,_⟩ _ _<;>unfold M.nD<;>repeat' first|with_reducible apply gZ|with_reducible apply GV|with_reducible apply GX|with_reducible apply GY|with_reducible apply GZ|(intro _)|apply gZ|rfl)
def M.qC{R:Type}(bP:Int->Int->aC->aC->au->Int->Int->Bool->Bool->Bool->Bool->au->au->Bool->Option (au×au×Bool))(t' gW:Int)(iG jA:aC)(iC:au)(open' shut p:Int)(p1 p2 p3 p4:Bool)(c c1:au)(c2:Bool)(k:au×au×Bool->Option R):Option R:=
 (M.jr open').bind λaoG=>
 (bif aA c then
 (bif aA c1 then
 ((M.bZ ([[D.int .i64 aoG.1,D.str aoG.2.1,D.int .i64 aoG.2.2]]) c c1 c2).bind λaoH=>
 ((M.kM bP shut ((↑iC.length:Int)) t' gW iG jA iC p p1 p2 p3 p4 ((0,aoH.2.2,aoH.1,aoH.2.1))).bind λag0=>
 ((M.jr shut).bind λaoI=>
 (bif aA ag0.2.2.1 then
 (bif aA ag0.2.2.2 then
 ((M.bZ ([[D.int .i64 aoI.1,D.str aoI.2.1,D.int .i64 aoI.2.2]]) ag0.2.2.1 ag0.2.2.2 ag0.2.1).bind λag1=>
 (bif aA ag1.1 then(bif aA ag1.2.1 then(k ((ag1.1,ag1.2.1,ag1.2.2))) else none) else none)) else none) else none)))) else none) else none)
def C.SL{bP:Int->Int->aC->aC->au->Int->Int->Bool->Bool->Bool->Bool->au->au->Bool->Option (au×au×Bool)}(wo:S.jM.ok X0 λx=>bP x.1.2.1.1 x.1.2.1.2.1 x.1.2.1.2.2.1 x.1.2.1.2.2.2.1 x.1.2.1.2.2.2.2.1 x.1.2.2.1 x.1.2.2.2.1.1 x.1.2.2.2.1.2.1 x.1.2.2.2.1.2.2.1 x.1.2.2.2.1.2.2.2.1 x.1.2.2.2.1.2.2.2.2.1 x.2.1.1 x.2.1.2.1 x.2.1.2.2.1):S.nJ.ok X0 λx=>M.qC bP x.1.2.1.1 x.1.2.1.2.1 x.1.2.1.2.2.1 x.1.2.1.2.2.2.1 x.1.2.1.2.2.2.2.1 x.1.2.2.1 x.1.2.2.2.1 x.1.2.2.2.2.1.1 x.1.2.2.2.2.1.2.1 x.1.2.2.2.2.1.2.2.1 x.1.2.2.2.2.1.2.2.2.1 x.1.2.2.2.2.1.2.2.2.2.1 x.2.1.1 x.2.1.2.1 x.2.1.2.2.1 some:=fnS (λx=>M.qC bP x.1.2.1.1 x.1.2.1.2.1 x.1.2.1.2.2.1 x.1.2.1.2.2.2.1 x.1.2.1.2.2.2.2.1 x.1.2.2.1 x.1.2.2.2.1 x.1.2.2.2.2.1.1 x.1.2.2.2.2.1.2.1 x.1.2.2.2.2.1.2.2.1 x.1.2.2.2.2.1.2.2.2.1 x.1.2.2.2.2.1.2.2.2.2.1 x.2.1.1 x.2.1.2.1 x.2.1.2.2.1) [fe C.jr,fe C.bZ] [F.kM wo] (by intros;unfold M.qC;repeat' first|with_reducible apply gZ|with_reducible apply GV|with_reducible apply GX|with_reducible apply GY|with_reducible apply GZ|(intro _)|apply gZ|rfl)
def M.eu{R:Type}(bP:Int->Int->aC->aC->au->Int->Int->Bool->Bool->Bool->Bool->au->au->Bool->Option (au×au×Bool))(gI:Int->Int->aC->aC->au->Int->Int->Int->Bool->Bool->Bool->Bool->au->au->Bool->Option (au×au×Bool))(t' gW:Int)(iG jA:aC)(iC:au)(p:Int)(p1 p2 p3 p4:Bool)(c c1:au)(c2:Bool)(k:au×au×Bool->Option R):Option R:=
 bif t'==9 then
 ((M.jr gW).bind λaoJ=>
 (bif aA c then
 (bif aA c1 then
 ((M.bZ ([[D.int .i64 aoJ.1,D.str aoJ.2.1,D.int .i64 aoJ.2.2]]) c c1 c2).bind λag2=>
 (bif aA ag2.1 then
 (bif aA ag2.2.1 then
 ((bP t' gW iG jA iC 0 p p1 p2 p3 p4 ag2.1 ag2.2.1 ag2.2.2).bind λag3=>
 (bif aA ag3.1 then(bif aA ag3.2.1 then(k ((ag3.1,ag3.2.1,ag3.2.2))) else none) else none)) else none) else none)) else none) else none)) else
 (bif t'==11 then
 ((M.jr gW).bind λaoK=>
 (bif aA c then
 (bif aA c1 then
 ((M.bZ ([[D.int .i64 aoK.1,D.str aoK.2.1,D.int .i64 aoK.2.2]]) c c1 c2).bind λag4=>
 (bif aA ag4.1 then
 (bif aA ag4.2.1 then
 ((bP t' gW iG jA iC 0 p p1 p2 p3 p4 ag4.1 ag4.2.1 ag4.2.2).bind λag5=>
 (bif aA ag5.1 then(bif aA ag5.2.1 then(k ((ag5.1,ag5.2.1,ag5.2.2))) else none) else none)) else none) else none)) else none) else none)) else
 (bif t'==6 then
 ((M.jr 68).bind λaoL=>
 (bif aA c then
 (bif aA c1 then
 ((M.bZ ([[D.int .i64 aoL.1,D.str aoL.2.1,D.int .i64 aoL.2.2]]) c c1 c2).bind λag6=>
 (bif aA ag6.1 then
 (bif aA ag6.2.1 then
 ((bP t' gW iG jA iC 0 p p1 p2 p3 p4 ag6.1 ag6.2.1 ag6.2.2).bind λag7=>
 (bif aA ag7.1 then(bif aA ag7.2.1 then(k ((ag7.1,ag7.2.1,ag7.2.2))) else none) else none)) else none) else none)) else none) else none)) else
 (bif t'==10 then
 (bif aA c then
 (bif aA c1 then
 ((bP t' gW iG jA iC 0 p p1 p2 p3 p4 c c1 c2).bind λag8=>
 ((M.jr gW).bind λaoM=>
 (bif aA ag8.1 then
 (bif aA ag8.2.1 then
 ((M.bZ ([[D.int .i64 aoM.1,D.str aoM.2.1,D.int .i64 aoM.2.2]]) ag8.1 ag8.2.1 ag8.2.2).bind λag9=>
 (bif aA ag9.1 then(bif aA ag9.2.1 then(k ((ag9.1,ag9.2.1,ag9.2.2))) else none) else none)) else none) else none))) else none) else none) else
 (bif t'==13 then
 (bif decide ((↑iC.length:Int)>1) then
 (bif aA c then
 (bif aA c1 then
 ((gI t' gW iG jA iC 32 33 p p1 p2 p3 p4 c c1 c2).bind λaha=>
 ((M.jr 24).bind λaoN=>
 (bif aA aha.1 then
 (bif aA aha.2.1 then
 ((M.bZ ([[D.int .i64 aoN.1,D.str aoN.2.1,D.int .i64 aoN.2.2],[D.int .i64 6,D.str iG,D.int .i64 0]]) aha.1 aha.2.1 aha.2.2).bind λahb=>
 (bif aA ahb.1 then(bif aA ahb.2.1 then(k ((ahb.1,ahb.2.1,ahb.2.2))) else none) else none)) else none) else none))) else none) else none) else
 (bif aA c then
 (bif aA c1 then
 ((bP t' gW iG jA iC 0 p p1 p2 p3 p4 c c1 c2).bind λahc=>
 ((M.jr 24).bind λaoO=>
 (bif aA ahc.1 then
 (bif aA ahc.2.1 then
 ((M.bZ ([[D.int .i64 aoO.1,D.str aoO.2.1,D.int .i64 aoO.2.2],[D.int .i64 6,D.str iG,D.int .i64 0]]) ahc.1 ahc.2.1 ahc.2.2).bind λahd=>
 (bif aA ahd.1 then(bif aA ahd.2.1 then(k ((ahd.1,ahd.2.1,ahd.2.2))) else none) else none)) else none) else none))) else none) else none)) else
 (bif t'==14 then
 (bif aA c then
 (bif aA c1 then
 ((bP t' gW iG jA iC 0 p p1 p2 p3 p4 c c1 c2).bind λahe=>
 ((M.jr 65).bind λaoP=>
 (bif aA ahe.1 then
 (bif aA ahe.2.1 then
 ((M.bZ ([[D.int .i64 aoP.1,D.str aoP.2.1,D.int .i64 aoP.2.2]]) ahe.1 ahe.2.1 ahe.2.2).bind λahf=>
 (bif aA ahf.1 then
 (bif aA ahf.2.1 then
 ((bP t' gW iG jA iC 1 p p1 p2 p3 p4 ahf.1 ahf.2.1 ahf.2.2).bind λahg=>
 ((M.jr 66).bind λaoQ=>
 (bif aA ahg.1 then
 (bif aA ahg.2.1 then
 ((M.bZ ([[D.int .i64 aoQ.1,D.str aoQ.2.1,D.int .i64 aoQ.2.2]]) ahg.1 ahg.2.1 ahg.2.2).bind λahh=>
 (bif aA ahh.1 then
 (bif aA ahh.2.1 then
 ((bP t' gW iG jA iC 2 p p1 p2 p3 p4 ahh.1 ahh.2.1 ahh.2.2).bind λahi=>
 (bif aA ahi.1 then(bif aA ahi.2.1 then(k ((ahi.1,ahi.2.1,ahi.2.2))) else none) else none)) else none) else none)) else none) else none))) else none) else none)) else none) else none))) else none) else none) else
 (bif aA c then
 (bif aA c1 then
 ((bP t' gW iG jA iC 0 p p1 p2 p3 p4 c c1 c2).bind λUJ=>
 (bif gW !=99 then
 ((M.jr gW).bind λaoR=>
 (bif aA UJ.1 then
 (bif aA UJ.2.1 then
 ((M.bZ ([[D.int .i64 aoR.1,D.str aoR.2.1,D.int .i64 aoR.2.2]]) UJ.1 UJ.2.1 UJ.2.2).bind λahj=>
 (bif aA ahj.1 then
 (bif aA ahj.2.1 then
 ((bP t' gW iG jA iC 1 p p1 p2 p3 p4 ahj.1 ahj.2.1 ahj.2.2).bind λahk=>
 (bif aA ahk.1 then(bif aA ahk.2.1 then(k ((ahk.1,ahk.2.1,ahk.2.2))) else none) else none)) else none) else none)) else none) else none)) else
 (bif aA UJ.1 then
 (bif aA UJ.2.1 then
 ((bP t' gW iG jA iC 1 p p1 p2 p3 p4 UJ.1 UJ.2.1 UJ.2.2).bind λahl=>
 (bif aA ahl.1 then(bif aA ahl.2.1 then(k ((ahl.1,ahl.2.1,ahl.2.2))) else none) else none)) else none) else none))) else none) else none))))))
def C.Pv{bP:Int->Int->aC->aC->au->Int->Int->Bool->Bool->Bool->Bool->au->au->Bool->Option (au×au×Bool)}{gI:Int->Int->aC->aC->au->Int->Int->Int->Bool->Bool->Bool->Bool->au->au->Bool->Option (au×au×Bool)}(wo:S.jM.ok X0 λx=>bP x.1.2.1.1 x.1.2.1.2.1 x.1.2.1.2.2.1 x.1.2.1.2.2.2.1 x.1.2.1.2.2.2.2.1 x.1.2.2.1 x.1.2.2.2.1.1 x.1.2.2.2.1.2.1 x.1.2.2.2.1.2.2.1 x.1.2.2.2.1.2.2.2.1 x.1.2.2.2.1.2.2.2.2.1 x.2.1.1 x.2.1.2.1 x.2.1.2.2.1)(Gv:S.nJ.ok X0 λx=>gI x.1.2.1.1 x.1.2.1.2.1 x.1.2.1.2.2.1 x.1.2.1.2.2.2.1 x.1.2.1.2.2.2.2.1 x.1.2.2.1 x.1.2.2.2.1 x.1.2.2.2.2.1.1 x.1.2.2.2.2.1.2.1 x.1.2.2.2.2.1.2.2.1 x.1.2.2.2.2.1.2.2.2.1 x.1.2.2.2.2.1.2.2.2.2.1 x.2.1.1 x.2.1.2.1 x.2.1.2.2.1):S.mF.ok X0 λx=>M.eu bP gI x.1.2.1.1 x.1.2.1.2.1 x.1.2.1.2.2.1 x.1.2.1.2.2.2.1 x.1.2.1.2.2.2.2.1 x.1.2.2.1.1 x.1.2.2.1.2.1 x.1.2.2.1.2.2.1 x.1.2.2.1.2.2.2.1 x.1.2.2.1.2.2.2.2.1 x.2.1.1 x.2.1.2.1 x.2.1.2.2.1 some:=fnS (λx=>M.eu bP gI x.1.2.1.1 x.1.2.1.2.1 x.1.2.1.2.2.1 x.1.2.1.2.2.2.1 x.1.2.1.2.2.2.2.1 x.1.2.2.1.1 x.1.2.2.1.2.1 x.1.2.2.1.2.2.1 x.1.2.2.1.2.2.2.1 x.1.2.2.1.2.2.2.2.1 x.2.1.1 x.2.1.2.1 x.2.1.2.2.1) [fe C.jr,fe C.bZ,fe wo,fe Gv] [] (by intros;unfold M.eu;repeat' first|with_reducible apply gZ|with_reducible apply GV|with_reducible apply GX|with_reducible apply GY|with_reducible apply GZ|(intro _)|apply gZ|rfl)
end
end Go.Proofs.YtbpldgeajbfgnaaGreatDoor
