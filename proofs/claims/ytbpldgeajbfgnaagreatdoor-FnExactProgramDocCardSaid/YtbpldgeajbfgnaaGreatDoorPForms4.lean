import Derived.Test.YtbpldgeajbfgnaaGreatDoorPForms3
set_option linter.defProp false
namespace Go.Proofs.YtbpldgeajbfgnaaGreatDoor
open Go Go.Vm
open Go.IntKind (i64)
set_option linter.unusedVariables false
set_option linter.unusedSimpArgs false
noncomputable section
def C.strings_Repeat:S.strings_Repeat.ok X0 λx=>M.strings_Repeat x.1.1 x.1.2.1:=fK.Rx (p:=Prim.strings_Repeat)
abbrev S.wI:fK:=sg 49 [pL false 5] [] (ρ:=Bool) λr=>([[D.bool r]],[])
abbrev S.mY:fK:=sg 20 [pL false 5] [] (ρ:=au) λr=>([[D.sl true 4 r]],[])
abbrev S.wJ:fK:=sg 53 [pL false 5] [] (ρ:=Bool) λr=>([[D.bool r]],[])
abbrev S.uP:fK:=sg 101 [je [pI,pI,pS,pS,pL false 5]] [] (ρ:=Int×Int×aC×au×Int) λr=>([[D.int .i64 r.1,D.int .i64 r.2.1,D.str r.2.2.1,D.sl false 5 r.2.2.2.1,D.int .i64 r.2.2.2.2]],[])
abbrev S.strings_Join:fK:=sg 142 [pL false 1,pS] [] (ρ:=aC) λr=>([[D.str r]],[])
abbrev S.Bg:fK:=sg 102 [je [pI,pI,pS,pS,pL false 5]] [] (ρ:=aC) λr=>([[D.str r]],[])
abbrev S.yI:fK:=sg 54 [je [pI,pI,pS,pS,pL false 5]] [] (ρ:=Int×Int×aC×au×Int) λr=>([[D.int .i64 r.1,D.int .i64 r.2.1,D.str r.2.2.1,D.sl false 5 r.2.2.2.1,D.int .i64 r.2.2.2.2]],[])
abbrev S.lZ:fK:=sg 21 [pL false 5] [] (ρ:=au) λr=>([[D.sl true 4 r]],[])
abbrev S.lN:fK:=sg 5 [pL false 5] [] (ρ:=Bool) λr=>([[D.bool r]],[])
def M.FY{R:Type}(l:au)(k:Bool->Option R):Option R:=
 (M.AX l).bind λaKG=>
 (bif aKG then
 ((idx l (i64.wrap ((↑l.length:Int) - 1))).bind λar9=>((fB .i64 ar9 0).bind λaKH=>(k (aKH==45)))) else(k false))
def M.wI(l:au):Option (Bool):=M.FY l some
def C.wI:S.wI.ok X0 λx=>M.wI x.1.1:=fnS (λx=>M.FY x.1.1) [fe C.AX] [] (by intros;simp only[M.FY,nb]<;>rfl)
def M.tq{R:Type}(l x':au)(qR:Bool)(s:Int×au)(kn:Int×au->Option R)(ke:Int×au->Option R):Option R:=match s with
 |(k',wO)=>
 (idx l (i64.wrap ((↑l.length:Int) - 1))).bind λasa=>
 ((TL 1 asa 4).bind λapH=>
 (bif decide (k'<(↑apH.length:Int)) then
 ((idx l (i64.wrap ((↑l.length:Int) - 1))).bind λasb=>
 ((TL 1 asb 4).bind λapI=>
 ((idx apI k').bind λasc=>
 ((fB .i64 asc 0).bind λaKI=>
 ((M.mM x' qR aKI).bind λaKJ=>
 (M.og.bind λaKK=>
 (jc wO [[D.sl true 4 aKJ],[D.sl true 4 aKK]] 24 λza=>(kn ((i64.wrap (k'+1),za)))))))))) else(ke ((k',wO)))))
def M.yJ(l x':au)(qR:Bool)(s:Int×au):=M.tq l x' qR s (λs=>some (Sum.inl s)) λt=>some (Sum.inr t)
def M.Ce(l x':au)(qR:Bool)(s:Int×au):Option (Int×au):=iT (M.yJ l x' qR) s
def F.Ce:LE X0 20:=le 6 (KF [fM 0 (pL false 5),fM 3 (pP 300000 0),fM 4 (pO 300001 0),fM 5 pI] [fM 300000 (cB 45 [pL false 5,pB]),fM 300001 (cA false false 0 1)]) (λx=>(x.1.2.2.2.1,x.2.2.1)) (λx s=>((x.1.1,(),(),s.1,()),((x.2.1.1,x.2.1.2.1,()),s.2,()))) (λx=> .leaf (Int×au) (λt=>(Ex.exit 0,{tm:=[(0,V.d (D.sl false 5 x.1.1)),(3,V.ptr 300000 0),(4,V.own 300001 0),(5,V.d (D.int .i64 t.1)),(22,V.d (D.bool false))],mem:=[(300000,Cell.box 45 [V.d (D.sl false 5 x.2.1.1),V.d (D.bool x.2.1.2.1)]),(300001,Cell.arr false false 0 1 t.2)]}))) (λx=>M.tq x.1.1 x.2.1.1 x.2.1.2.1) [fe C.mM,fe C.og] [] (by rintro _ _ ⟨_,_⟩ _ _<;>unfold M.tq<;>repeat' first|with_reducible apply gZ|with_reducible apply GV|with_reducible apply GX|with_reducible apply GY|with_reducible apply GZ|(intro _)|apply gZ|rfl)
def M.D8{R:Type}(l:au)(k:au->Option R):Option R:=
 (M.wI l).bind λaKL=>
 (bif !aKL then(k []) else
 ((M.Ce l l false ((0,[]))).bind λaKM=>
 ((M.aS 6 0 (bM aKM.2)).bind λatw=>(bif[[D.sl true 4 atw]].all dQ then(k atw) else none))))
def M.mY(l:au):Option (au):=M.D8 l some
def C.mY:S.mY.ok X0 λx=>M.mY x.1.1:=fnS (λx=>M.D8 x.1.1) [fe C.wI,fe C.aS] [F.Ce] (by intros;simp only[M.D8,nb]<;>rfl)
def M.FZ{R:Type}(l:au)(k:Bool->Option R):Option R:=
 (M.Bc l).bind λaKN=>
 (bif aKN then
 ((idx l (i64.wrap ((↑l.length:Int) - 1))).bind λase=>((fB .i64 ase 0).bind λaKO=>(k (aKO==45)))) else(k false))
def M.wJ(l:au):Option (Bool):=M.FZ l some
def C.wJ:S.wJ.ok X0 λx=>M.wJ x.1.1:=fnS (λx=>M.FZ x.1.1) [fe C.Bc] [] (by intros;simp only[M.FZ,nb]<;>rfl)
def M.yK{R:Type}(v8:au)(v9 x' qR:Int)(wO:aC)(zL:Int)(s:Int×au)(kn:Int×au->Option R)(ke:Int×au->Option R):Option R:=match s with
 |(v10,Dp)=>
 bif decide (v10<v9) then
 ((idx v8 v10).bind λasf=>
 (iK 5 asf λUM n2101 abV abW OE=>
 (bif UM==33 then
 (bif decide (v10>0) then
 ((M.aX [32]).bind λaKP=>
 ((M.iY UM n2101 abV abW OE).bind λaKQ=>
 (jc Dp [eH aKP,eH aKQ] 64 λza=>(kn ((i64.wrap (v10+1),za)))))) else
 (bif UM==33 then
 ((M.iY UM n2101 abV abW OE).bind λaKR=>
 (jc Dp [eH aKR] 64 λza=>(kn ((i64.wrap (v10+1),za))))) else
 (bif decide (v10>0) then
 ((M.aX [44,32]).bind λaKS=>
 ((M.kL UM n2101 abV abW OE).bind λaKT=>
 (jc Dp [eH aKS,eH aKT] 64 λza=>(kn ((i64.wrap (v10+1),za)))))) else
 ((M.kL UM n2101 abV abW OE).bind λaKU=>
 (jc Dp [eH aKU] 64 λza=>(kn ((i64.wrap (v10+1),za)))))))) else
 (bif UM==33 then
 ((M.iY UM n2101 abV abW OE).bind λaKV=>
 (jc Dp [eH aKV] 64 λza=>(kn ((i64.wrap (v10+1),za))))) else
 (bif decide (v10>0) then
 ((M.aX [44,32]).bind λaKW=>
 ((M.kL UM n2101 abV abW OE).bind λaKX=>
 (jc Dp [eH aKW,eH aKX] 64 λza=>(kn ((i64.wrap (v10+1),za)))))) else
 ((M.kL UM n2101 abV abW OE).bind λaKY=>
 (jc Dp [eH aKY] 64 λza=>(kn ((i64.wrap (v10+1),za)))))))))) else(ke ((v10,Dp)))
def M.D9(v8:au)(v9 x' qR:Int)(wO:aC)(zL:Int)(s:Int×au):=M.yK v8 v9 x' qR wO zL s (λs=>some (Sum.inl s)) λt=>some (Sum.inr t)
def M.IB(v8:au)(v9 x' qR:Int)(wO:aC)(zL:Int)(s:Int×au):Option (Int×au):=iT (M.D9 v8 v9 x' qR wO zL) s
def F.IB:LE X0 101:=le 3 (KF [fM 2 (pP 300000 0),fM 3 (pO 300001 0),fM 8 (pL false 5),fM 9 pI,fM 10 pI] [fM 300000 (cB 49 [pI,pI,pS,Zr 5,pI]),fM 300001 (cA false false 0 5)]) (λx=>(x.1.2.2.2.2.1,x.2.2.1)) (λx s=>(((),(),x.1.2.2.1,x.1.2.2.2.1,s.1,()),((x.2.1.1,x.2.1.2.1,x.2.1.2.2.1,(),x.2.1.2.2.2.2.1,()),s.2,()))) (λx=> .leaf (Int×au) (λt=>(Ex.exit 0,{tm:=[(2,V.ptr 300000 0),(3,V.own 300001 0),(8,V.d (D.sl false 5 x.1.2.2.1)),(9,V.d (D.int .i64 x.1.2.2.2.1)),(10,V.d (D.int .i64 t.1)),(11,V.d (D.bool false))],mem:=[(300000,Cell.box 49 [V.d (D.int .i64 x.2.1.1),V.d (D.int .i64 x.2.1.2.1),V.d (D.str x.2.1.2.2.1),V.nil 5,V.d (D.int .i64 x.2.1.2.2.2.2.1)]),(300001,Cell.arr false false 0 5 t.2)]}))) (λx=>M.yK x.1.2.2.1 x.1.2.2.2.1 x.2.1.1 x.2.1.2.1 x.2.1.2.2.1 x.2.1.2.2.2.2.1) [fe C.aX,fe C.iY,fe C.kL] [] (by rintro _ _ ⟨_,_⟩ _ _<;>simp only[jc,eH,iK,M.yK,nb]<;>rfl)
def M.J8{R:Type}(t' gW:Int)(iG jA:aC)(iC:au)(k:Int×Int×aC×au×Int->Option R):Option R:=
 (M.IB iC ((↑iC.length:Int)) 0 0 [] 0 ((0,[]))).bind λaKZ=>
 ((M.dD aKZ.2).bind λaK1=>
 (k ((kK aK1))))
def M.uP(t' gW:Int)(iG jA:aC)(iC:au):Option (Int×Int×aC×au×Int):=M.J8 t' gW iG jA iC some
def C.uP:S.uP.ok X0 λx=>M.uP x.1.1.1 x.1.1.2.1 x.1.1.2.2.1 x.1.1.2.2.2.1 x.1.1.2.2.2.2.1:=fnS (λx=>M.J8 x.1.1.1 x.1.1.2.1 x.1.1.2.2.1 x.1.1.2.2.2.1 x.1.1.2.2.2.2.1) [fe C.dD] [F.IB] (by intros;simp only[kK,M.J8,nb]<;>rfl)
def C.strings_Join:S.strings_Join.ok X0 λx=>M.strings_Join x.1.1 x.1.2.1:=fK.Rx (p:=Prim.strings_Join)
def M.Aj{R:Type}(v13:au)(v14 x' qR:Int)(wO zL:aC)(Dp:au)(s:Int×au)(kn:Int×au->Option R)(ke:Int×au->Option R):Option R:=match s with
 |(v15,Rh)=>
 bif decide (v15<v14) then
 ((idx v13 v15).bind λash=>
 (iK 5 ash λ_ _ aK2 _ _=>
 (jc Rh [[D.str aK2]] 16 λza=>(kn ((i64.wrap (v15+1),za)))))) else(ke ((v15,Rh)))
def M.F5(v13:au)(v14 x' qR:Int)(wO zL:aC)(Dp:au)(s:Int×au):=M.Aj v13 v14 x' qR wO zL Dp s (λs=>some (Sum.inl s)) λt=>some (Sum.inr t)
def M.J9(v13:au)(v14 x' qR:Int)(wO zL:aC)(Dp:au)(s:Int×au):Option (Int×au):=iT (M.F5 v13 v14 x' qR wO zL Dp) s
def F.J9:LE X0 102:=le 3 (KF [fM 1 (pP 300000 0),fM 3 (pO 300001 0),fM 13 (pL false 5),fM 14 pI,fM 15 pI] [fM 300000 (cB 53 [pI,pI,pS,pS,pL false 5]),fM 300001 (cA false true 0 1)]) (λx=>(x.1.2.2.2.2.1,x.2.2.1)) (λx s=>(((),(),x.1.2.2.1,x.1.2.2.2.1,s.1,()),((x.2.1.1,x.2.1.2.1,x.2.1.2.2.1,x.2.1.2.2.2.1,x.2.1.2.2.2.2.1,()),s.2,()))) (λx=> .leaf (Int×au) (λt=>(Ex.exit 0,{tm:=[(1,V.ptr 300000 0),(3,V.own 300001 0),(13,V.d (D.sl false 5 x.1.2.2.1)),(14,V.d (D.int .i64 x.1.2.2.2.1)),(15,V.d (D.int .i64 t.1)),(16,V.d (D.bool false))],mem:=[(300000,Cell.box 53 [V.d (D.int .i64 x.2.1.1),V.d (D.int .i64 x.2.1.2.1),V.d (D.str x.2.1.2.2.1),V.d (D.str x.2.1.2.2.2.1),V.d (D.sl false 5 x.2.1.2.2.2.2.1)]),(300001,Cell.arr false true 0 1 t.2)]}))) (λx=>M.Aj x.1.2.2.1 x.1.2.2.2.1 x.2.1.1 x.2.1.2.1 x.2.1.2.2.1 x.2.1.2.2.2.1 x.2.1.2.2.2.2.1) [] [] (by rintro _ _ ⟨_,_⟩ _ _<;>simp only[jc,iK,M.Aj,nb]<;>rfl)
def M.MB{R:Type}(t' gW:Int)(iG jA:aC)(iC:au)(k:aC->Option R):Option R:=
 (cut iC 0 (i64.wrap ((↑iC.length:Int) - 1))).bind λaiH=>
 ((M.J9 aiH ((↑aiH.length:Int)) t' gW iG jA iC ((0,[]))).bind λaK3=>
 (bif(9+iG.length).ble 9223372036854775807 then
 (bif(([102,117,110,99,116,105,111,110,32]++iG).length+1).ble 9223372036854775807 then
 ((M.strings_Join aK3.2 [44,32]).bind λapJ=>
 (bif(([102,117,110,99,116,105,111,110,32]++iG++[40]).length+apJ.length).ble 9223372036854775807 then
 (bif(([102,117,110,99,116,105,111,110,32]++iG++[40]++apJ).length+1).ble 9223372036854775807 then(k ([102,117,110,99,116,105,111,110,32]++iG++[40]++apJ++[41])) else none) else none)) else none) else none))
def M.Bg(t' gW:Int)(iG jA:aC)(iC:au):Option (aC):=M.MB t' gW iG jA iC some
def C.Bg:S.Bg.ok X0 λx=>M.Bg x.1.1.1 x.1.1.2.1 x.1.1.2.2.1 x.1.1.2.2.2.1 x.1.1.2.2.2.2.1:=fnS (λx=>M.MB x.1.1.1 x.1.1.2.1 x.1.1.2.2.1 x.1.1.2.2.2.1 x.1.1.2.2.2.2.1) [fe C.strings_Join] [F.J9] (by intros;simp only[M.MB,nb]<;>rfl)
def M.Ko{R:Type}(t' gW:Int)(iG jA:aC)(iC:au)(k:Int×Int×aC×au×Int->Option R):Option R:=
 bif t'==40 then
 ((M.aX [66,69,71,73,78,32]).bind λaK4=>
 ((idx iC 0).bind λasi=>
 (iK 5 asi λaK5 aK6 aK7 aK8 apK=>
 ((M.iY aK5 aK6 aK7 aK8 apK).bind λaK9=>
 ((M.dD ([eH aK4,eH aK9])).bind λaLa=>
 (k ((kK aLa)))))))) else
 (bif t'==41 then
 ((M.aX [69,78,68,32]).bind λaLb=>
 ((idx iC 0).bind λasj=>
 (iK 5 asj λaLc aLd aLe aLf apL=>
 ((M.iY aLc aLd aLe aLf apL).bind λaLg=>
 ((M.dD ([eH aLb,eH aLg])).bind λaLh=>
 (k ((kK aLh)))))))) else
 (bif t'==42 then
 ((M.uP t' gW iG jA iC).bind λaLi=>
 (k ((kK aLi)))) else
 (bif t'==43 then
 ((M.uP t' gW iG jA iC).bind λaLj=>
 (k ((kK aLj)))) else
 (bif t'==44 then
 ((M.Bg t' gW iG jA iC).bind λatx=>
 (bif(atx.length+1).ble 9223372036854775807 then
 ((M.aX (atx++[32])).bind λaLk=>
 ((idx iC (i64.wrap ((↑iC.length:Int) - 1))).bind λasl=>
 (iK 5 asl λaLl aLm aLn aLo apM=>
 ((M.iY aLl aLm aLn aLo apM).bind λaLp=>
 ((M.dD ([eH aLk,eH aLp])).bind λaLq=>
 (k ((kK aLq)))))))) else none)) else
 ((M.ou t' gW iG jA iC).bind λaLr=>
 (k ((kK aLr))))))))
def M.yI(t' gW:Int)(iG jA:aC)(iC:au):Option (Int×Int×aC×au×Int):=M.Ko t' gW iG jA iC some
def C.yI:S.yI.ok X0 λx=>M.yI x.1.1.1 x.1.1.2.1 x.1.1.2.2.1 x.1.1.2.2.2.1 x.1.1.2.2.2.2.1:=fnS (λx=>M.Ko x.1.1.1 x.1.1.2.1 x.1.1.2.2.1 x.1.1.2.2.2.1 x.1.1.2.2.2.2.1) [fe C.aX,fe C.iY,fe C.dD,fe C.uP,fe C.Bg,fe C.ou] [] (by intros;simp only[eH,kK,iK,M.Ko,nb]<;>rfl)
def M.tu{R:Type}(v12:au)(v13:Int)(s:Int×au)(kn:Int×au->Option R)(ke:Int×au->Option R):Option R:=match s with
 |(v14,x')=>
 bif decide (v14<v13) then
 ((idx v12 v14).bind λasn=>
 (iK 5 asn λaLs aLt aLu aLv apN=>
 ((M.yI aLs aLt aLu aLv apN).bind λaLw=>
 (M.zG.bind λaLx=>
 (jc x' [eH aLw,eH aLx] 64 λza=>(kn ((i64.wrap (v14+1),za)))))))) else(ke ((v14,x')))
def M.yL(v12:au)(v13:Int)(s:Int×au):=M.tu v12 v13 s (λs=>some (Sum.inl s)) λt=>some (Sum.inr t)
def M.Ci(v12:au)(v13:Int)(s:Int×au):Option (Int×au):=iT (M.yL v12 v13) s
def F.Ci:LE X0 21:=le 5 (KF [fM 3 (pO 300000 0),fM 12 (pL false 5),fM 13 pI,fM 14 pI] [fM 300000 (cA false false 0 5)]) (λx=>(x.1.2.2.2.1,x.2.1)) (λx s=>(((),x.1.2.1,x.1.2.2.1,s.1,()),(s.2,()))) (λx=> .leaf (Int×au) (λt=>(Ex.exit 0,{tm:=[(3,V.own 300000 0),(12,V.d (D.sl false 5 x.1.2.1)),(13,V.d (D.int .i64 x.1.2.2.1)),(14,V.d (D.int .i64 t.1)),(15,V.d (D.bool false))],mem:=[(300000,Cell.arr false false 0 5 t.2)]}))) (λx=>M.tu x.1.2.1 x.1.2.2.1) [fe C.yI,fe C.zG] [] (by rintro _ _ ⟨_,_⟩ _ _<;>simp only[jc,eH,iK,M.tu,nb]<;>rfl)
def M.Ea{R:Type}(l:au)(k:au->Option R):Option R:=
 (M.wJ l).bind λaLy=>
 (bif !aLy then(k []) else
 ((M.sQ l).bind λaty=>
 ((M.Ci (bM aty.2.2.2.2) ((↑(bM aty.2.2.2.2).length:Int)) ((0,[]))).bind λaLz=>
 ((M.dD aLz.2).bind λaiI=>
 ((M.rW aiI.1 aiI.2.1 aiI.2.2.1 (bM aiI.2.2.2.1) aiI.2.2.2.2).bind λaLA=>(k aLA))))))
def M.lZ(l:au):Option (au):=M.Ea l some
def C.lZ:S.lZ.ok X0 λx=>M.lZ x.1.1:=fnS (λx=>M.Ea x.1.1) [fe C.wJ,fe C.sQ,fe C.dD,fe C.rW] [F.Ci] (by intros;simp only[M.Ea,nb]<;>rfl)
def M.rZ{R:Type}(aL:au)(k:Bool->Option R):Option R:=
 (M.xB aL 1048576).bind λaLB=>
 (bif decide (aLB<0) then(k true) else
 ((M.pR aL).bind λaLC=>
 ((M.mY (bM aLC)).bind λakZ=>
 (bif[[D.sl true 4 akZ]].all dQ then
 ((M.pR aL).bind λapO=>
 ((M.lZ (bM apO)).bind λak0=>
 (bif[[D.sl true 4 ak0]].all dQ then
 ((M.pq (bM ak0) (bM akZ)).bind λaLD=>
 (bif !aLD then(k false) else
 ((M.pR aL).bind λaLE=>
 ((M.xP (bM apO) (bM aLE)).bind λaLF=>
 (bif !aLF then(k false) else
 ((M.sS 1 apO).bind λaLG=>
 (bif decide (aLG.1<0) then(k false) else
 ((M.pq (bM ak0) (bM akZ)).bind λaLH=>
 (bif !aLH then(k false) else
 ((M.qJ 1 ak0).bind λak1=>
 ((M.oC (bM ak1.2) 1).bind λatz=>
 (bif decide (atz<0) then(k false) else
 (bif atz !=ak1.1 then(k false) else
 ((M.pR aL).bind λaLI=>
 ((M.lZ (bM aLI)).bind λatA=>
 (bif[[D.sl true 4 atA]].all dQ then
 ((M.pq (bM atA) (bM akZ)).bind λaLJ=>
 (bif !aLJ then(k false) else
 ((M.oC (bM ak1.2) 1).bind λatB=>
 (bif decide (atB<0) then(k false) else(bif atB !=ak1.1 then(k false) else(k true)))))) else none)))))))))))))))) else none))) else none))))
def M.lN(aL:au):Option (Bool):=M.rZ aL some
def C.lN:S.lN.ok X0 λx=>M.lN x.1.1:=fnS (λx=>M.rZ x.1.1) [fe C.xB,fe C.pR,fe C.mY,fe C.lZ,fe C.pq,fe C.xP,fe C.sS,fe C.qJ,fe C.oC] [] (by intros;simp only[M.rZ,nb]<;>rfl)
abbrev S.strings_Split:fK:=sg 103 [pS,pS] [] (ρ:=au) λr=>([[D.sl true 1 r]],[])
def C.strings_Split:S.strings_Split.ok X0 λx=>M.strings_Split x.1.1 x.1.2.1:=fK.Rx (p:=Prim.strings_Split)
end
end Go.Proofs.YtbpldgeajbfgnaaGreatDoor
