import Derived.Test.YtbpldgeajbfgnaaGreatDoorPForms3
set_option linter.defProp false
namespace Go.Proofs.YtbpldgeajbfgnaaGreatDoor
open Go Go.Vm
open Go.IntKind (i64)
set_option linter.unusedVariables false
set_option linter.unusedSimpArgs false
noncomputable section
def M.Em{R:Type}(l:au)(w:Int)(x':au)(s:Int×au×au)(kn:Int×au×au->Option R)(ke:Int×au×au->Option R):Option R:=match s with
 |(col,mM,nY)=>
 bif decide ((↑nY.length:Int)>0) then
 ((idx nY (i64.wrap ((↑nY.length:Int) - 1))).bind λaIQ=>
 ((nY[(i64.wrap ((↑nY.length:Int) - 1)).toNat]?).bind λaeR=>
 ((eu .i64 aeR 0).bind λaoK=>
 ((eu .i64 aeR 1).bind λVP=>
 ((Ji aeR 2).bind λakq=>
 (bif decide (0<=i64.wrap ((↑nY.length:Int) - 1)) && decide (i64.wrap ((↑nY.length:Int) - 1)<=(↑nY.length:Int)) then
 ((idx l aoK).bind λZB=>
 ((eu .i64 ZB 0).bind λYy=>
 ((eu .i64 ZB 1).bind λahF=>
 ((cStr ZB 2).bind λYz=>
 ((LC 1 ZB 3).bind λRk=>
 (bif Yy==1 then
 (bif((mM.length+(List.map byteRow Yz).length) * 1).ble 140737488355328 then
 (bif(mM.length+(List.map byteRow Yz).length).ble 140737488355328 then
 (kn ((i64.wrap (col+(↑Yz.length:Int)),mM++List.map byteRow Yz,List.take (i64.wrap ((↑nY.length:Int) - 1)).toNat nY))) else none) else none) else
 (bif Yy==2 then
 (bif akq then
 (bif((mM.length+1) * 1).ble 140737488355328 then
 (bif(mM.length+1).ble 140737488355328 then
 (kn ((i64.wrap (col+1),mM++[[D.int IntKind.u8 32]],List.take (i64.wrap ((↑nY.length:Int) - 1)).toNat nY))) else none) else none) else
 (bif aA mM then
 ((M.oG mM VP).bind λaFz=>(kn ((VP,aFz,List.take (i64.wrap ((↑nY.length:Int) - 1)).toNat nY)))) else none)) else
 (bif Yy==3 then
 (bif akq then
 (bif((mM.length+1) * 1).ble 140737488355328 then
 (bif(mM.length+1).ble 140737488355328 then
 (kn ((i64.wrap (col+1),mM++[[D.int IntKind.u8 32]],List.take (i64.wrap ((↑nY.length:Int) - 1)).toNat nY))) else none) else none) else
 (bif aA mM then
 ((M.oG mM VP).bind λaFA=>(kn ((VP,aFA,List.take (i64.wrap ((↑nY.length:Int) - 1)).toNat nY)))) else none)) else
 (bif Yy==5 then
 (bif akq then
 (bif aA (List.take (i64.wrap ((↑nY.length:Int) - 1)).toNat nY) then
 ((M.jl (List.take (i64.wrap ((↑nY.length:Int) - 1)).toNat nY) Yy ahF Yz Rk VP true).bind λaFB=>(kn ((col,mM,aFB)))) else none) else
 ((idx x' aoK).bind λaIR=>
 (x'[aoK.toNat]?.bind λaqZ=>
 ((Ji aqZ 0).bind λaFC=>
 (bif !aFC then
 ((idx Rk 0).bind λaq0=>
 ((eu .i64 aq0 0).bind λaFD=>
 ((M.uq l (List.take (i64.wrap ((↑nY.length:Int) - 1)).toNat nY) aFD VP true (i64.wrap (w - col))).bind λaFE=>
 (bif aA (List.take (i64.wrap ((↑nY.length:Int) - 1)).toNat nY) then
 ((M.jl (List.take (i64.wrap ((↑nY.length:Int) - 1)).toNat nY) Yy ahF Yz Rk VP aFE).bind λaFF=>(kn ((col,mM,aFF)))) else none)))) else
 (bif aA (List.take (i64.wrap ((↑nY.length:Int) - 1)).toNat nY) then
 ((M.jl (List.take (i64.wrap ((↑nY.length:Int) - 1)).toNat nY) Yy ahF Yz Rk VP false).bind λaFG=>(kn ((col,mM,aFG)))) else none)))))) else
 (bif aA (List.take (i64.wrap ((↑nY.length:Int) - 1)).toNat nY) then
 ((M.jl (List.take (i64.wrap ((↑nY.length:Int) - 1)).toNat nY) Yy ahF Yz Rk (i64.wrap (VP+ahF)) akq).bind λaFH=>(kn ((col,mM,aFH)))) else none)))))))))) else none)))))) else(ke ((col,mM,nY)))
def M.uQ(l:au)(w:Int)(x':au)(s:Int×au×au):=M.Em l w x' s (λs=>some (Sum.inl s)) λt=>some (Sum.inr t)
def M.IU(l:au)(w:Int)(x':au)(s:Int×au×au):Option (Int×au×au):=fF (M.uQ l w x') s
def F.IU:LE X0 91:=le 7 (Gz [eP 0 (pL false 4),eP 1 pI,eP 6 (pO 300000 0),eP 7 (pO 300001 0),eP 8 pI,eP 9 (pO 300002 0)] [eP 300000 (cA false true 0 1),eP 300001 (cA false true 0 1),eP 300002 (cA false true 0 3)]) (λx=>(x.1.2.2.2.2.1,x.2.2.1,x.2.2.2.1)) (λx s=>((x.1.1,x.1.2.1,(),(),s.1,(),()),(x.2.1,s.2.1,s.2.2,()))) (λx=> .leaf (Int×au×au) (λt=>(Ex.exit 0,{tm:=[(0,V.d (D.sl false 4 x.1.1)),(1,V.d (D.int .i64 x.1.2.1)),(6,V.own 300000 0),(7,V.own 300001 0),(8,V.d (D.int .i64 t.1)),(9,V.own 300002 0),(31,V.d (D.bool false))],mem:=[(300000,Cell.arr false true 0 1 x.2.1),(300001,Cell.arr false true 0 1 t.2.1),(300002,Cell.arr false true 0 3 t.2.2)]}))) (λx=>M.Em x.1.1 x.1.2.1 x.2.1) [fe C.oG,fe C.jl,fe C.uq] [] (by rintro _ _ ⟨_,_,_⟩ _ _<;>simp only[M.Em,nb]<;>rfl)
def M.EW{R:Type}(l:au)(w:Int)(k:aC×Bool->Option R):Option R:=
 (M.yx l).bind λaFI=>
 (bif !aFI then(k (([],false))) else
 ((M.dh w 0 10000).bind λaFJ=>
 (bif !aFJ then(k (([],false))) else
 ((M.uK l).bind λaFK=>
 ((M.IU l w aFK ((0,[],[[D.int .i64 (i64.wrap ((↑l.length:Int) - 1)),D.int .i64 0,D.bool false]]))).bind λaFL=>((bytesOf aFL.2.1).bind λaFM=>(k ((aFM,true)))))))))
def M.rX(l:au)(w:Int):Option (aC×Bool):=M.EW l w some
def C.rX:S.rX.ok X0 λx=>M.rX x.1.1 x.1.2.1:=fnS (λx=>M.EW x.1.1 x.1.2.1) [fe C.yx,fe C.dh,fe C.uK] [F.IU] (by intros;simp only[M.EW,nb]<;>rfl)
def M.IV{R:Type}(d:au)(w:Int)(k:aC×Bool->Option R):Option R:=
 (M.rX d w).bind λaoL=>
 (bif !aoL.2 then(k (([],false))) else
 (bif decide ((↑aoL.1.length:Int)>3000) then(k (([],false))) else(k ((aoL.1,true)))))
def M.uw(d:au)(w:Int):Option (aC×Bool):=M.IV d w some
def C.uw:S.uw.ok X0 λx=>M.uw x.1.1 x.1.2.1:=fnS (λx=>M.IV x.1.1 x.1.2.1) [fe C.rX] [] (by intros;simp only[M.IV,nb]<;>rfl)
def M.En{R:Type}(l:au)(w:Int)(k:aC×Bool->Option R):Option R:=
 M.jL.bind λahG=>
 ((M.xP l ahG.1 ahG.2.1 ahG.2.2.1 ahG.2.2.2.1 ahG.2.2.2.2).bind λaFN=>((M.uw (dI aFN) w).bind λash=>(k ((ash.1,ash.2)))))
def M.rY(l:au)(w:Int):Option (aC×Bool):=M.En l w some
def C.rY:S.rY.ok X0 λx=>M.rY x.1.1 x.1.2.1:=fnS (λx=>M.En x.1.1 x.1.2.1) [fe C.jL,fe C.xP,fe C.uw] [] (by intros;simp only[M.En,nb]<;>rfl)
def M.KC{R:Type}(l:au)(k:Bool->Option R):Option R:=
 (M.zU l).bind λaFO=>
 (bif aFO then
 ((idx l (i64.wrap ((↑l.length:Int) - 1))).bind λaq1=>
 ((eu .i64 aq1 0).bind λaFP=>((M.bG aFP).bind λaFQ=>(k aFQ)))) else(k false))
def M.Dq(l:au):Option (Bool):=M.KC l some
def C.Dq:S.Dq.ok X0 λx=>M.Dq x.1.1:=fnS (λx=>M.KC x.1.1) [fe C.zU,fe C.bG] [] (by intros;simp only[M.KC,nb]<;>rfl)
def M.IW{R:Type}(l:au)(p:Int)(p1 p2 p3 p4:Bool)(k:au->Option R):Option R:=
 (M.Dq l).bind λaFR=>
 (bif !aFR then(k []) else
 ((M.qG p p1 p2 p3 p4).bind λaFS=>
 (bif !aFS then(k []) else
 ((M.rU l).bind λahH=>
 ((M.kM ahH.1 ahH.2.1 ahH.2.2.1 ahH.2.2.2.1 (dI ahH.2.2.2.2) p p1 p2 p3 p4).bind λahI=>
 ((M.uI ahI.1 ahI.2.1 ahI.2.2.1 (dI ahI.2.2.2.1) ahI.2.2.2.2).bind λaFT=>(k aFT)))))))
def M.xR(l:au)(p:Int)(p1 p2 p3 p4:Bool):Option (au):=M.IW l p p1 p2 p3 p4 some
def C.xR:S.xR.ok X0 λx=>M.xR x.1.1 x.1.2.1.1 x.1.2.1.2.1 x.1.2.1.2.2.1 x.1.2.1.2.2.2.1 x.1.2.1.2.2.2.2.1:=fnS (λx=>M.IW x.1.1 x.1.2.1.1 x.1.2.1.2.1 x.1.2.1.2.2.1 x.1.2.1.2.2.2.1 x.1.2.1.2.2.2.2.1) [fe C.Dq,fe C.qG,fe C.rU,fe C.kM,fe C.uI] [] (by intros;unfold M.IW;repeat' first|with_reducible apply ig|with_reducible apply Ho|with_reducible apply Hq|with_reducible apply Hr|with_reducible apply Ht|(intro _)|apply ig|rfl)
def M.Eo{R:Type}(n' gV:Int)(iU:aC)(iJ:au)(k:Bool->Option R):Option R:=
 bif n' !=4 then
 (bif gV !=0 then(k false) else
 (bif n' !=1 then
 (bif !iU==[] then(k false) else
 (bif n'==1 then
 ((M.strings_Contains iU [10]).bind λaFU=>(bif !aFU then(k ((↑iJ.length:Int)==0)) else(k false))) else
 (bif n'==2 then(k ((↑iJ.length:Int)==0)) else
 (bif n'==3 then(k ((↑iJ.length:Int)==0)) else
 (bif n'==4 then
 ((M.cO gV 0 40).bind λaFV=>(bif aFV then(k ((↑iJ.length:Int)==1)) else(k false))) else
 (bif n'==5 then(k ((↑iJ.length:Int)==1)) else(bif n'==6 then(k true) else(k false)))))))) else
 (bif n'==1 then
 ((M.strings_Contains iU [10]).bind λaFW=>(bif !aFW then(k ((↑iJ.length:Int)==0)) else(k false))) else
 (bif n'==2 then(k ((↑iJ.length:Int)==0)) else
 (bif n'==3 then(k ((↑iJ.length:Int)==0)) else
 (bif n'==4 then
 ((M.cO gV 0 40).bind λaFX=>(bif aFX then(k ((↑iJ.length:Int)==1)) else(k false))) else
 (bif n'==5 then(k ((↑iJ.length:Int)==1)) else(bif n'==6 then(k true) else(k false))))))))) else
 (bif n' !=1 then
 (bif !iU==[] then(k false) else
 (bif n'==1 then
 ((M.strings_Contains iU [10]).bind λaFY=>(bif !aFY then(k ((↑iJ.length:Int)==0)) else(k false))) else
 (bif n'==2 then(k ((↑iJ.length:Int)==0)) else
 (bif n'==3 then(k ((↑iJ.length:Int)==0)) else
 (bif n'==4 then
 ((M.cO gV 0 40).bind λaFZ=>(bif aFZ then(k ((↑iJ.length:Int)==1)) else(k false))) else
 (bif n'==5 then(k ((↑iJ.length:Int)==1)) else(bif n'==6 then(k true) else(k false)))))))) else
 (bif n'==1 then
 ((M.strings_Contains iU [10]).bind λaF0=>(bif !aF0 then(k ((↑iJ.length:Int)==0)) else(k false))) else
 (bif n'==2 then(k ((↑iJ.length:Int)==0)) else
 (bif n'==3 then(k ((↑iJ.length:Int)==0)) else
 (bif n'==4 then
 ((M.cO gV 0 40).bind λaF1=>(bif aF1 then(k ((↑iJ.length:Int)==1)) else(k false))) else
 (bif n'==5 then(k ((↑iJ.length:Int)==1)) else(bif n'==6 then(k true) else(k false))))))))
def M.rZ(n' gV:Int)(iU:aC)(iJ:au):Option (Bool):=M.Eo n' gV iU iJ some
def C.rZ:S.rZ.ok X0 λx=>M.rZ x.1.1.1 x.1.1.2.1 x.1.1.2.2.1 x.1.1.2.2.2.1:=fnS (λx=>M.Eo x.1.1.1 x.1.1.2.1 x.1.1.2.2.1 x.1.1.2.2.2.1) [fe C.strings_Contains,fe C.cO] [] (by intros;unfold M.Eo;repeat' first|with_reducible apply ig|with_reducible apply Ho|with_reducible apply Hq|with_reducible apply Hr|with_reducible apply Ht|(intro _)|apply ig|rfl)
def M.uf{R:Type}(l:au)(i:Int)(v16:au)(v17 v18:Int)(x':au)(mM nY:Int)(zy:aC)(BO:au)(s:Int×Int)(kn:Int×Int->Option R)(ke:(Unit)⊕(Int×Int)->Option R):Option R:=match s with
 |(at',j)=>
 bif decide (j>=0) then
 (bif decide (at'<0) then(ke (.inl ())) else
 ((idx BO j).bind λaq2=>
 ((eu .i64 aq2 0).bind λaF2=>
 (bif aF2 !=at' then(ke (.inl ())) else
 ((idx x' at').bind λaIS=>
 (x'[at'.toNat]?.bind λaq3=>
 ((eu .i64 aq3 0).bind λaF3=>(kn ((i64.wrap (aF3 - 1),i64.wrap (j - 1))))))))))) else(ke (.inr ((at',j))))
def M.yL(l:au)(i:Int)(v16:au)(v17 v18:Int)(x':au)(mM nY:Int)(zy:aC)(BO:au)(s:Int×Int):=M.uf l i v16 v17 v18 x' mM nY zy BO s (λs=>some (Sum.inl s)) λt=>some (Sum.inr t)
def M.o9(l:au)(i:Int)(v16:au)(v17 v18:Int)(x':au)(mM nY:Int)(zy:aC)(BO:au)(s:Int×Int):Option ((Unit)⊕(Int×Int)):=fF (M.yL l i v16 v17 v18 x' mM nY zy BO) s
def F.o9:LE X0 170:=le 9 (Gz [eP 0 (pL false 4),eP 4 (pO 300000 0),eP 5 pI,eP 6 (pP 300001 0),eP 7 pI,eP 8 pI,eP 16 (pL false 4),eP 17 pI,eP 18 pI] [eP 300000 (cA false true 0 1),eP 300001 (cB 58 [pI,pI,pS,pL false 1])]) (λx=>(x.1.2.2.2.2.1,x.1.2.2.2.2.2.1)) (λx s=>((x.1.1,(),x.1.2.2.1,(),s.1,s.2,x.1.2.2.2.2.2.2.1,x.1.2.2.2.2.2.2.2.1,x.1.2.2.2.2.2.2.2.2.1,()),(x.2.1,(x.2.2.1.1,x.2.2.1.2.1,x.2.2.1.2.2.1,x.2.2.1.2.2.2.1,()),()))) (λx=> .sum (.leaf (Unit) (λt=>(Ex.ret,{tm:=[(2,V.nil 1),(3,V.d (D.bool false))],mem:=[]}))) (.leaf (Int×Int) (λt=>(Ex.exit 2,{tm:=[(0,V.d (D.sl false 4 x.1.1)),(4,V.own 300000 0),(5,V.d (D.int .i64 x.1.2.2.1)),(6,V.ptr 300001 0),(7,V.d (D.int .i64 t.1)),(8,V.d (D.int .i64 t.2)),(16,V.d (D.sl false 4 x.1.2.2.2.2.2.2.1)),(17,V.d (D.int .i64 x.1.2.2.2.2.2.2.2.1)),(18,V.d (D.int .i64 x.1.2.2.2.2.2.2.2.2.1)),(30,V.d (D.bool false))],mem:=[(300000,Cell.arr false true 0 1 x.2.1),(300001,Cell.box 58 [V.d (D.int .i64 x.2.2.1.1),V.d (D.int .i64 x.2.2.1.2.1),V.d (D.str x.2.2.1.2.2.1),V.d (D.sl false 1 x.2.2.1.2.2.2.1)])]})))) (λx=>M.uf x.1.1 x.1.2.2.1 x.1.2.2.2.2.2.2.1 x.1.2.2.2.2.2.2.2.1 x.1.2.2.2.2.2.2.2.2.1 x.2.1 x.2.2.1.1 x.2.2.1.2.1 x.2.2.1.2.2.1 x.2.2.1.2.2.2.1) [] [] (by rintro _ _ ⟨_,_⟩ _ _<;>simp only[M.uf,nb]<;>rfl)
def M.ug{R:Type}(l v16:au)(v17:Int)(s:Int×au)(kn:Int×au->Option R)(ke:(Unit)⊕(Int×au)->Option R):Option R:=match s with
 |(v18,x')=>
 bif decide (v18<v17) then
 ((idx v16 v18).bind λZC=>
 ((eu .i64 ZC 0).bind λaF4=>
 ((eu .i64 ZC 1).bind λaF5=>
 ((cStr ZC 2).bind λaF6=>
 ((LC 1 ZC 3).bind λahJ=>
 ((M.o9 l v18 v16 v17 v18 x' aF4 aF5 aF6 ahJ ((i64.wrap (v18 - 1),i64.wrap ((↑ahJ.length:Int) - 1)))).bind λaF7=>
 nX aF7 (λaRs=>(ke (.inl ()))) λaF8=>
 letE aF8 λaF9=>
 ((idx x' v18).bind λaIT=>
 (x'[v18.toNat]?.bind λaq4=>
 (kn ((i64.wrap (v18+1),x'.set v18.toNat (splice aq4 0 [D.int .i64 (i64.wrap (aF9.1+1))])))))))))))) else(ke (.inr ((v18,x'))))
def M.yM(l v16:au)(v17:Int)(s:Int×au):=M.ug l v16 v17 s (λs=>some (Sum.inl s)) λt=>some (Sum.inr t)
def M.pq(l v16:au)(v17:Int)(s:Int×au):Option ((Unit)⊕(Int×au)):=fF (M.yM l v16 v17) s
def F.pq:LE X0 170:=le 5 (Gz [eP 0 (pL false 4),eP 4 (pO 300000 0),eP 16 (pL false 4),eP 17 pI,eP 18 pI] [eP 300000 (cA false true 0 1)]) (λx=>(x.1.2.2.2.2.1,x.2.1)) (λx s=>((x.1.1,(),x.1.2.2.1,x.1.2.2.2.1,s.1,()),(s.2,()))) (λx=> .sum (.leaf (Unit) (λt=>(Ex.ret,{tm:=[(2,V.nil 1),(3,V.d (D.bool false))],mem:=[]}))) (.leaf (Int×au) (λt=>(Ex.exit 0,{tm:=[(0,V.d (D.sl false 4 x.1.1)),(4,V.own 300000 0),(16,V.d (D.sl false 4 x.1.2.2.1)),(17,V.d (D.int .i64 x.1.2.2.2.1)),(18,V.d (D.int .i64 t.1)),(19,V.d (D.bool false))],mem:=[(300000,Cell.arr false true 0 1 t.2)]})))) (λx=>M.ug x.1.1 x.1.2.2.1 x.1.2.2.2.1) [] [F.o9] (by rintro _ _ ⟨_,_⟩ _ _<;>simp only[M.ug,nb]<;>rfl)
def M.zo{R:Type}(l:au)(k:au×Bool->Option R):Option R:=
 (M.cO ((↑l.length:Int)) 1 4000).bind λaGa=>
 (bif !aGa then(k (([],false))) else
 (bif decide (0<=(↑l.length:Int)) && decide ((↑l.length:Int)<=(↑l.length:Int)) && decide ((↑l.length:Int) * 8<=140737488355328) && decide ((↑l.length:Int)<=140737488355328) then
 ((M.pq l l ((↑l.length:Int)) ((0,List.replicate (↑l.length:Int).toNat [D.int .i64 0]))).bind λaGb=>
 nX aGb (λaRt=>(k (([],false)))) λaGc=>
 letE aGc λakr=>
 ((idx akr.2 (i64.wrap ((↑l.length:Int) - 1))).bind λaIU=>
 ((akr.2[(i64.wrap ((↑l.length:Int) - 1)).toNat]?).bind λaq5=>
 ((eu .i64 aq5 0).bind λaGd=>(bif aA akr.2 then(k ((akr.2,aGd==0))) else none))))) else none))
def M.mX(l:au):Option (au×Bool):=M.zo l some
def C.mX:S.mX.ok X0 λx=>M.mX x.1.1:=fnS (λx=>M.zo x.1.1) [fe C.cO] [F.pq] (by intros;simp only[M.zo,nb]<;>rfl)
def M.Bc{R:Type}(l v7:au)(v8 s:Int)(kn:Int->Option R)(ke:(Unit)⊕(Int)->Option R):Option R:=match s with
 |v9=>
 bif decide (v9<v8) then
 ((idx v7 v9).bind λZE=>
 ((eu .i64 ZE 0).bind λaGe=>
 ((eu .i64 ZE 1).bind λaGf=>
 ((cStr ZE 2).bind λaGg=>
 ((LC 1 ZE 3).bind λaoM=>
 ((M.rZ aGe aGf aGg aoM).bind λaGh=>(bif !aGh then(ke (.inl ())) else(kn (i64.wrap (v9+1)))))))))) else(ke (.inr v9))
def M.F6(l v7:au)(v8 s:Int):=M.Bc l v7 v8 s (λs=>some (Sum.inl s)) λt=>some (Sum.inr t)
def M.Bv(l v7:au)(v8 s:Int):Option ((Unit)⊕(Int)):=fF (M.F6 l v7 v8) s
def F.Bv:LE X0 133:=le 2 (Gz [eP 0 (pL false 4),eP 7 (pL false 4),eP 8 pI,eP 9 pI] []) (λx=>x.1.2.2.2.1) (λx s=>((x.1.1,x.1.2.1,x.1.2.2.1,s,()),())) (λx=> .sum (.leaf (Unit) (λt=>(Ex.ret,{tm:=[(2,V.d (D.bool false))],mem:=[]}))) (.leaf (Int) (λt=>(Ex.exit 0,{tm:=[(0,V.d (D.sl false 4 x.1.1)),(7,V.d (D.sl false 4 x.1.2.1)),(8,V.d (D.int .i64 x.1.2.2.1)),(9,V.d (D.int .i64 t)),(10,V.d (D.bool false))],mem:=[]})))) (λx=>M.Bc x.1.1 x.1.2.1 x.1.2.2.1) [fe C.rZ] [] (by rintro _ _ _ _ _<;>simp only[M.Bc,nb]<;>rfl)
def M.IX{R:Type}(l:au)(k:Bool->Option R):Option R:=
 (M.Bv l l ((↑l.length:Int)) 0).bind λaGi=>
 nX aGi (λaRu=>(k false)) λaGj=>
 letE aGj λaRv=>((M.mX l).bind λaGk=>(k aGk.2))
def M.yA(l:au):Option (Bool):=M.IX l some
def C.yA:S.yA.ok X0 λx=>M.yA x.1.1:=fnS (λx=>M.IX x.1.1) [fe C.mX] [F.Bv] (by intros;simp only[M.IX,nb]<;>rfl)
def M.vJ{R:Type}(v6:au)(v7:Int)(s:Int×Int)(kn:Int×Int->Option R)(ke:Int×Int->Option R):Option R:=match s with
 |(count,v8)=>
 bif decide (v8<v7) then
 ((idx v6 v8).bind λZF=>
 ((eu .i64 ZF 0).bind λaGl=>
 ((eu .i64 ZF 1).bind λaRw=>
 ((cStr ZF 2).bind λaRx=>
 ((LC 1 ZF 3).bind λaGm=>
 (bif aGl==5 then(kn ((i64.wrap (count+1),i64.wrap (v8+1)))) else(kn ((count,i64.wrap (v8+1)))))))))) else(ke ((count,v8)))
def M.Ar(v6:au)(v7:Int)(s:Int×Int):=M.vJ v6 v7 s (λs=>some (Sum.inl s)) λt=>some (Sum.inr t)
def M.Ep(v6:au)(v7:Int)(s:Int×Int):Option (Int×Int):=fF (M.Ar v6 v7) s
def F.Ep:LE X0 208:=le 3 (Gz [eP 3 pI,eP 6 (pL false 4),eP 7 pI,eP 8 pI] []) (λx=>(x.1.1,x.1.2.2.2.1)) (λx s=>((s.1,x.1.2.1,x.1.2.2.1,s.2,()),())) (λx=> .leaf (Int×Int) (λt=>(Ex.exit 0,{tm:=[(3,V.d (D.int .i64 t.1)),(6,V.d (D.sl false 4 x.1.2.1)),(7,V.d (D.int .i64 x.1.2.2.1)),(8,V.d (D.int .i64 t.2)),(9,V.d (D.bool false))],mem:=[]}))) (λx=>M.vJ x.1.2.1 x.1.2.2.1) [] [] (by rintro _ _ ⟨_,_⟩ _ _<;>simp only[M.vJ,nb]<;>rfl)
def M.F7{R:Type}(l:au)(k:Int->Option R):Option R:=
 (M.Ep l ((↑l.length:Int)) ((0,0))).bind λaGn=>(k aGn.1)
def M.uM(l:au):Option (Int):=M.F7 l some
def C.uM:S.uM.ok X0 λx=>M.uM x.1.1:=fnS (λx=>M.F7 x.1.1) [] [F.Ep] (by intros;simp only[M.F7,nb]<;>rfl)
def M.tC{R:Type}(ji:au->Int->Option (Int×Int×aC×au×Int))(s:(au×au×Int×Int×Int×Int×aC×Int×Int×Int×aC×Int)⊕(au×au×Int×Int×Int×Int×aC×Int×Int×Int×aC×Int×au))(kn:(au×au×Int×Int×Int×Int×aC×Int×Int×Int×aC×Int)⊕(au×au×Int×Int×Int×Int×aC×Int×Int×Int×aC×Int×au)->Option R)(ke:(au×au×Int×Int×Int×Int×aC×Int×Int×Int×aC×Int)⊕(au×au×Int×Int×Int×Int×aC×Int×Int×Int×aC×Int×au)->Option R):Option R:=match s with
 | .inl ((l,v25,v26,v27,x',mM,nY,zy,BO,Ou,Sv,WM))=>
 bif decide (v27<v26) then
 ((idx v25 v27).bind λaq6=>
 ((eu .i64 aq6 0).bind λaGo=>
 ((ji l aGo).bind λahK=>
 (kn (.inr ((l,v25,v26,i64.wrap (v27+1),x',mM,nY,zy,BO,Ou,Sv,WM,[[D.int .i64 ahK.1,D.int .i64 ahK.2.1,D.str ahK.2.2.1,D.sl true 5 ahK.2.2.2.1,D.int .i64 ahK.2.2.2.2]]))))))) else(ke (.inl ((l,v25,v26,v27,x',mM,nY,zy,BO,Ou,Sv,WM))))
 | .inr ((l,v25,v26,v27,x',mM,nY,zy,BO,Ou,Sv,WM,x'8))=>
 bif decide (v27<v26) then
 ((idx v25 v27).bind λaq7=>
 ((eu .i64 aq7 0).bind λaGp=>
 ((ji l aGp).bind λahL=>
 (jA x'8 [[D.int .i64 ahL.1,D.int .i64 ahL.2.1,D.str ahL.2.2.1,D.sl true 5 ahL.2.2.2.1,D.int .i64 ahL.2.2.2.2]] 64 λza=>(kn (.inr ((l,v25,v26,i64.wrap (v27+1),x',mM,nY,zy,BO,Ou,Sv,WM,za)))))))) else(ke (.inr ((l,v25,v26,v27,x',mM,nY,zy,BO,Ou,Sv,WM,x'8))))
def M.wE(ji:au->Int->Option (Int×Int×aC×au×Int))(s:(au×au×Int×Int×Int×Int×aC×Int×Int×Int×aC×Int)⊕(au×au×Int×Int×Int×Int×aC×Int×Int×Int×aC×Int×au)):=M.tC ji s (λs=>some (Sum.inl s)) λt=>some (Sum.inr t)
def M.KD(ji:au->Int->Option (Int×Int×aC×au×Int))(s:(au×au×Int×Int×Int×Int×aC×Int×Int×Int×aC×Int)⊕(au×au×Int×Int×Int×Int×aC×Int×Int×Int×aC×Int×au)):Option ((au×au×Int×Int×Int×Int×aC×Int×Int×Int×aC×Int)⊕(au×au×Int×Int×Int×Int×aC×Int×Int×Int×aC×Int×au)):=fF (M.wE ji) s
def F.KD{ji:au->Int->Option (Int×Int×aC×au×Int)}(PZ:S.tq.ok X0 λx=>ji x.1.1 x.1.2.1):LE X0 173:=le 4 (pOr (Gz [eP 0 (pL false 4),eP 4 (pP 300000 0),eP 6 (pP 300001 0),eP 25 (pL false 1),eP 26 pI,eP 27 pI] [eP 300000 (cB 49 [pI,pI,pS,YT 5,pI]),eP 300001 (cB 49 [pI,pI,pS,YT 5,pI])]) (Gz [eP 0 (pL false 4),eP 4 (pP 300000 0),eP 6 (pP 300001 0),eP 25 (pL false 1),eP 26 pI,eP 27 pI] [eP 300000 (cB 49 [pI,pI,pS,YT 5,pI]),eP 300001 (cB 49 [pI,pI,pS,pO 300002 0,pI]),eP 300002 (cA false false 0 5)])) (σ:=(au×au×Int×Int×Int×Int×aC×Int×Int×Int×aC×Int)⊕(au×au×Int×Int×Int×Int×aC×Int×Int×Int×aC×Int×au)) (λx=>(match x with| .inl x=> .inl ((x.1.1,x.1.2.2.2.1,x.1.2.2.2.2.1,x.1.2.2.2.2.2.1,x.2.1.1,x.2.1.2.1,x.2.1.2.2.1,x.2.1.2.2.2.2.1,x.2.2.1.1,x.2.2.1.2.1,x.2.2.1.2.2.1,x.2.2.1.2.2.2.2.1))| .inr x=> .inr ((x.1.1,x.1.2.2.2.1,x.1.2.2.2.2.1,x.1.2.2.2.2.2.1,x.2.1.1,x.2.1.2.1,x.2.1.2.2.1,x.2.1.2.2.2.2.1,x.2.2.1.1,x.2.2.1.2.1,x.2.2.1.2.2.1,x.2.2.1.2.2.2.2.1,x.2.2.2.1)))) (λx s=>(match s with| .inl s=> .inl (((s.1,(),(),s.2.1,s.2.2.1,s.2.2.2.1,()),((s.2.2.2.2.1,s.2.2.2.2.2.1,s.2.2.2.2.2.2.1,(),s.2.2.2.2.2.2.2.1,()),(s.2.2.2.2.2.2.2.2.1,s.2.2.2.2.2.2.2.2.2.1,s.2.2.2.2.2.2.2.2.2.2.1,(),s.2.2.2.2.2.2.2.2.2.2.2,()),())))| .inr s=> .inr (((s.1,(),(),s.2.1,s.2.2.1,s.2.2.2.1,()),((s.2.2.2.2.1,s.2.2.2.2.2.1,s.2.2.2.2.2.2.1,(),s.2.2.2.2.2.2.2.1,()),(s.2.2.2.2.2.2.2.2.1,s.2.2.2.2.2.2.2.2.2.1,s.2.2.2.2.2.2.2.2.2.2.1,(),s.2.2.2.2.2.2.2.2.2.2.2.1,()),s.2.2.2.2.2.2.2.2.2.2.2.2,()))))) (λx=> .sum (.leaf (au×au×Int×Int×Int×Int×aC×Int×Int×Int×aC×Int) (λt=>(Ex.exit 0,{tm:=[(0,V.d (D.sl false 4 t.1)),(4,V.ptr 300000 0),(6,V.ptr 300001 0),(25,V.d (D.sl false 1 t.2.1)),(26,V.d (D.int .i64 t.2.2.1)),(27,V.d (D.int .i64 t.2.2.2.1)),(28,V.d (D.bool false))],mem:=[(300000,Cell.box 49 [V.d (D.int .i64 t.2.2.2.2.1),V.d (D.int .i64 t.2.2.2.2.2.1),V.d (D.str t.2.2.2.2.2.2.1),V.nil 5,V.d (D.int .i64 t.2.2.2.2.2.2.2.1)]),(300001,Cell.box 49 [V.d (D.int .i64 t.2.2.2.2.2.2.2.2.1),V.d (D.int .i64 t.2.2.2.2.2.2.2.2.2.1),V.d (D.str t.2.2.2.2.2.2.2.2.2.2.1),V.nil 5,V.d (D.int .i64 t.2.2.2.2.2.2.2.2.2.2.2)])]}))) (.leaf (au×au×Int×Int×Int×Int×aC×Int×Int×Int×aC×Int×au) (λt=>(Ex.exit 0,{tm:=[(0,V.d (D.sl false 4 t.1)),(4,V.ptr 300000 0),(6,V.ptr 300001 0),(25,V.d (D.sl false 1 t.2.1)),(26,V.d (D.int .i64 t.2.2.1)),(27,V.d (D.int .i64 t.2.2.2.1)),(28,V.d (D.bool false))],mem:=[(300000,Cell.box 49 [V.d (D.int .i64 t.2.2.2.2.1),V.d (D.int .i64 t.2.2.2.2.2.1),V.d (D.str t.2.2.2.2.2.2.1),V.nil 5,V.d (D.int .i64 t.2.2.2.2.2.2.2.1)]),(300001,Cell.box 49 [V.d (D.int .i64 t.2.2.2.2.2.2.2.2.1),V.d (D.int .i64 t.2.2.2.2.2.2.2.2.2.1),V.d (D.str t.2.2.2.2.2.2.2.2.2.2.1),V.own 300002 0,V.d (D.int .i64 t.2.2.2.2.2.2.2.2.2.2.2.1)]),(300002,Cell.arr false false 0 5 t.2.2.2.2.2.2.2.2.2.2.2.2)]})))) (λx=>M.tC ji) [fe PZ] [] (by rintro _ _ (⟨_,_,_,_,_,_,_,_,_,_,_,_⟩|⟨_,_,_,_,_,_,_,_,_,_,_,_,_⟩) _ _<;>simp only[jA,M.tC,nb]<;>rfl) (hE:=by intro _ _ s _;rcases s with s|s<;>kernel_rfl)
def M.IY{R:Type}(ji:au->Int->Option (Int×Int×aC×au×Int))(l:au)(i:Int)(k:Int×Int×aC×au×Int->Option R):Option R:=
 (idx l i).bind λZG=>
 ((eu .i64 ZG 0).bind λaGq=>
 ((eu .i64 ZG 1).bind λaGr=>
 ((cStr ZG 2).bind λaGs=>
 ((LC 1 ZG 3).bind λahM=>
 ((cut l 0 i).bind λaoN=>
 ((M.uM aoN).bind λaGt=>
 ((M.KD ji (.inl ((l,ahM,(↑ahM.length:Int),0,0,0,[],0,aGq,aGr,aGs,aGt)))).bind λaGu=>
 nX aGu (λaks=>
 (k ((aks.2.2.2.2.2.2.2.2.1,aks.2.2.2.2.2.2.2.2.2.1,aks.2.2.2.2.2.2.2.2.2.2.1,[],aks.2.2.2.2.2.2.2.2.2.2.2)))) λaGv=>
 letE aGv λahN=>
 (k ((ahN.2.2.2.2.2.2.2.2.1,ahN.2.2.2.2.2.2.2.2.2.1,ahN.2.2.2.2.2.2.2.2.2.2.1,ahN.2.2.2.2.2.2.2.2.2.2.2.2,ahN.2.2.2.2.2.2.2.2.2.2.2.1))))))))))
def M.lX:Nat->au->Int->Option (Int×Int×aC×au×Int)
 |0=>λ_ _=>none
 |n+1=>λl i=>M.IY (M.lX n) l i some
def M.tq(l:au)(i:Int):Option (Int×Int×aC×au×Int):=lim λn=>M.lX n l i
def C.acF{ji:au->Int->Option (Int×Int×aC×au×Int)}(PZ:S.tq.ok X0 λx=>ji x.1.1 x.1.2.1):S.tq.ok X0 λx=>M.IY ji x.1.1 x.1.2.1 some:=fnS (λx=>M.IY ji x.1.1 x.1.2.1) [fe C.uM] [F.KD PZ] (by intros;simp only[M.IY,nb]<;>rfl)
def C.lX:∀n,S.tq.ok X0 λx=>M.lX n x.1.1 x.1.2.1
 |0=>gq.zero
 |n+1=>C.acF (C.lX n)
def C.tq:S.tq.ok X0 λx=>M.tq x.1.1 x.1.2.1:=gq.lim C.lX
def M.acG{n:Nat}{l:au}{i:Int}{r:Int×Int×aC×au×Int}(h:M.lX n l i=some r):M.tq l i=some r:=
 gq.Hl C.lX (by intro a b h;simp[S.tq,sg] at h;first|exact h|simp[Prod.ext_iff,h]) (x:=((l,i,()),())) h
def M.LZ{R:Type}(l:au)(k:Int×Int×aC×au×Int->Option R):Option R:=
 (M.tq l (i64.wrap ((↑l.length:Int) - 1))).bind λahO=>
 (k ((ahO.1,ahO.2.1,ahO.2.2.1,ahO.2.2.2.1,ahO.2.2.2.2)))
def M.Dt(l:au):Option (Int×Int×aC×au×Int):=M.LZ l some
def C.Dt:S.Dt.ok X0 λx=>M.Dt x.1.1:=fnS (λx=>M.LZ x.1.1) [fe C.tq] [] (by intros;simp only[M.LZ,nb]<;>rfl)
def C.strings_Repeat:S.strings_Repeat.ok X0 λx=>M.strings_Repeat x.1.1 x.1.2.1:=gq.Qu (p:=Prim.strings_Repeat)
def M.Au{R:Type}(indent:Int)(c:au)(c1:Int)(c2:au)(k:au×Int×au->Option R):Option R:=
 bif((c.length+1) * 1).ble 140737488355328 then
 (bif(c.length+1).ble 140737488355328 then
 ((M.strings_Repeat [32] indent).bind λakt=>
 (bif(((c++[[D.int IntKind.u8 10]]).length+(List.map byteRow akt).length) * 1).ble 140737488355328 then
 (bif((c++[[D.int IntKind.u8 10]]).length+(List.map byteRow akt).length).ble 140737488355328 then
 (bif aA (c++[[D.int IntKind.u8 10]]++List.map byteRow akt) then(k ((c++[[D.int IntKind.u8 10]]++List.map byteRow akt,indent,c2))) else none) else none) else none)) else none) else none
def M.kD(indent:Int)(c:au)(c1:Int)(c2:au):Option (au×Int×au):=M.Au indent c c1 c2 some
def C.kD:S.kD.ok X0 λx=>M.kD x.1.2.1 x.2.1.1 x.2.1.2.1 x.2.1.2.2.1:=fnS (λx=>M.Au x.1.2.1 x.2.1.1 x.2.1.2.1 x.2.1.2.2.1) [fe C.strings_Repeat] [] (by intros;simp only[M.Au,nb]<;>rfl)
def M.qy{R:Type}(indent:Int)(flat:Bool)(v x' mM:Int)(nY:aC)(zy:au)(BO:Int)(Ou:au)(s:Int×au)(kn:Int×au->Option R)(ke:Int×au->Option R):Option R:=match s with
 |(i,Sv)=>
 bif decide (i>=0) then
 ((idx zy i).bind λVQ=>
 ((eu .i64 VQ 0).bind λaGw=>
 ((eu .i64 VQ 1).bind λaGx=>
 ((cStr VQ 2).bind λaGy=>
 ((LC 5 VQ 3).bind λaoO=>
 ((eu .i64 VQ 4).bind λaGz=>
 (jA Sv [[D.int .i64 aGw,D.int .i64 aGx,D.str aGy,D.sl false 5 aoO,D.int .i64 aGz,D.int .i64 indent,D.bool flat]] 80 λza=>(kn ((i64.wrap (i - 1),za)))))))))) else(ke ((i,Sv)))
def M.vO(indent:Int)(flat:Bool)(v x' mM:Int)(nY:aC)(zy:au)(BO:Int)(Ou:au)(s:Int×au):=M.qy indent flat v x' mM nY zy BO Ou s (λs=>some (Sum.inl s)) λt=>some (Sum.inr t)
def M.yN(indent:Int)(flat:Bool)(v x' mM:Int)(nY:aC)(zy:au)(BO:Int)(Ou:au)(s:Int×au):Option (Int×au):=fF (M.vO indent flat v x' mM nY zy BO Ou) s
def F.yN:LE X0 172:=le 2 (Gz [eP 0 (pP 100000 0),eP 2 pI,eP 3 pB,eP 5 (pP 300000 0),eP 8 pI] [eP 100000 (cB 121 [pO 300001 0,pI,pO 300002 0]),eP 300000 (cB 49 [pI,pI,pS,pL false 5,pI]),eP 300001 (cA false true 0 1),eP 300002 (cA false false 0 7)]) (λx=>(x.1.2.2.2.2.1,x.2.2.2.2.1)) (λx s=>(((),x.1.2.1,x.1.2.2.1,(),s.1,()),(((),x.2.1.2.1,(),()),(x.2.2.1.1,x.2.2.1.2.1,x.2.2.1.2.2.1,x.2.2.1.2.2.2.1,x.2.2.1.2.2.2.2.1,()),x.2.2.2.1,s.2,()))) (λx=> .leaf (Int×au) (λt=>(Ex.exit 0,{tm:=[(0,V.ptr 100000 0),(2,V.d (D.int .i64 x.1.2.1)),(3,V.d (D.bool x.1.2.2.1)),(5,V.ptr 300000 0),(8,V.d (D.int .i64 t.1)),(14,V.d (D.bool false))],mem:=[(100000,Cell.box 121 [V.own 300001 0,V.d (D.int .i64 x.2.1.2.1),V.own 300002 0]),(300000,Cell.box 49 [V.d (D.int .i64 x.2.2.1.1),V.d (D.int .i64 x.2.2.1.2.1),V.d (D.str x.2.2.1.2.2.1),V.d (D.sl false 5 x.2.2.1.2.2.2.1),V.d (D.int .i64 x.2.2.1.2.2.2.2.1)]),(300001,Cell.arr false true 0 1 x.2.2.2.1),(300002,Cell.arr false false 0 7 t.2)]}))) (λx=>M.qy x.1.2.1 x.1.2.2.1 x.2.1.2.1 x.2.2.1.1 x.2.2.1.2.1 x.2.2.1.2.2.1 x.2.2.1.2.2.2.1 x.2.2.1.2.2.2.2.1 x.2.2.2.1) [] [] (by rintro _ _ ⟨_,_⟩ _ _<;>unfold M.qy<;>repeat' first|with_reducible apply ig|with_reducible apply Ho|with_reducible apply Hq|with_reducible apply Hr|with_reducible apply Ht|(intro _)|apply ig|rfl)
def M.Aw{R:Type}(d d1:Int)(d2:aC)(d3:au)(d4 indent:Int)(flat:Bool)(c:au)(c1:Int)(c2:au)(k:au×Int×au->Option R):Option R:=
 (M.yN indent flat c1 d d1 d2 d3 d4 c ((i64.wrap ((↑d3.length:Int) - 1),c2))).bind λaGA=>(bif aA c then(k ((c,c1,aGA.2))) else none)
def M.iI(d d1:Int)(d2:aC)(d3:au)(d4 indent:Int)(flat:Bool)(c:au)(c1:Int)(c2:au):Option (au×Int×au):=M.Aw d d1 d2 d3 d4 indent flat c c1 c2 some
def C.iI:S.iI.ok X0 λx=>M.iI x.1.2.1.1 x.1.2.1.2.1 x.1.2.1.2.2.1 x.1.2.1.2.2.2.1 x.1.2.1.2.2.2.2.1 x.1.2.2.1 x.1.2.2.2.1 x.2.1.1 x.2.1.2.1 x.2.1.2.2.1:=fnS (λx=>M.Aw x.1.2.1.1 x.1.2.1.2.1 x.1.2.1.2.2.1 x.1.2.1.2.2.2.1 x.1.2.1.2.2.2.2.1 x.1.2.2.1 x.1.2.2.2.1 x.2.1.1 x.2.1.2.1 x.2.1.2.2.1) [] [F.yN] (by intros;unfold M.Aw;repeat' first|with_reducible apply ig|with_reducible apply Ho|with_reducible apply Hq|with_reducible apply Hr|with_reducible apply Ht|(intro _)|apply ig|rfl)
def M.pY{R:Type}(iE:Int->Int->aC->au->Int->Option (aC×Bool))(v21:au)(v22:Int)(s:Int×au)(kn:Int×au->Option R)(ke:(Unit)⊕(Int×au)->Option R):Option R:=match s with
 |(v23,x')=>
 bif decide (v23<v22) then
 ((idx v21 v23).bind λVR=>
 ((eu .i64 VR 0).bind λaGB=>
 ((eu .i64 VR 1).bind λaGC=>
 ((cStr VR 2).bind λaGD=>
 ((LC 5 VR 3).bind λaoP=>
 ((eu .i64 VR 4).bind λaGE=>
 ((iE aGB aGC aGD aoP aGE).bind λaku=>
 (bif !aku.2 then(ke (.inl ())) else
 (bif((x'.length+(List.map byteRow aku.1).length) * 1).ble 140737488355328 then
 (bif(x'.length+(List.map byteRow aku.1).length).ble 140737488355328 then(kn ((i64.wrap (v23+1),x'++List.map byteRow aku.1))) else none) else none))))))))) else(ke (.inr ((v23,x'))))
def M.qg(iE:Int->Int->aC->au->Int->Option (aC×Bool))(v21:au)(v22:Int)(s:Int×au):=M.pY iE v21 v22 s (λs=>some (Sum.inl s)) λt=>some (Sum.inr t)
def M.Ci(iE:Int->Int->aC->au->Int->Option (aC×Bool))(v21:au)(v22:Int)(s:Int×au):Option ((Unit)⊕(Int×au)):=fF (M.qg iE v21 v22) s
def F.Ci{iE:Int->Int->aC->au->Int->Option (aC×Bool)}(Lh:S.lN.ok X0 λx=>iE x.1.1.1 x.1.1.2.1 x.1.1.2.2.1 x.1.1.2.2.2.1 x.1.1.2.2.2.2.1):LE X0 137:=le 10 (Gz [eP 4 (pO 300000 0),eP 21 (pL false 5),eP 22 pI,eP 23 pI] [eP 300000 (cA false true 0 1)]) (λx=>(x.1.2.2.2.1,x.2.1)) (λx s=>(((),x.1.2.1,x.1.2.2.1,s.1,()),(s.2,()))) (λx=> .sum (.leaf (Unit) (λt=>(Ex.ret,{tm:=[(2,V.d (D.str [])),(3,V.d (D.bool false))],mem:=[]}))) (.leaf (Int×au) (λt=>(Ex.exit 1,{tm:=[(4,V.own 300000 0),(21,V.d (D.sl false 5 x.1.2.1)),(22,V.d (D.int .i64 x.1.2.2.1)),(23,V.d (D.int .i64 t.1)),(24,V.d (D.bool false))],mem:=[(300000,Cell.arr false true 0 1 t.2)]})))) (λx=>M.pY iE x.1.2.1 x.1.2.2.1) [fe Lh] [] (by rintro _ _ ⟨_,_⟩ _ _<;>simp only[M.pY,nb]<;>rfl)
def M.Bd{R:Type}(iE:Int->Int->aC->au->Int->Option (aC×Bool))(d d1:Int)(d2:aC)(d3:au)(d4:Int)(k:aC×Bool->Option R):Option R:=
 bif d==1 then(k ((d2,true))) else
 (bif d==2 then(k (([32],true))) else
 (bif d==3 then(k (([],false))) else
 ((M.Ci iE d3 ((↑d3.length:Int)) ((0,[]))).bind λaGF=>
 nX aGF (λaRy=>(k (([],false)))) λaGG=>
 letE aGG λaGH=>((bytesOf aGH.2).bind λaGI=>(k ((aGI,true)))))))
def M.jH:Nat->Int->Int->aC->au->Int->Option (aC×Bool)
 |0=>λ_ _ _ _ _=>none
 |n+1=>λd d1 d2 d3 d4=>M.Bd (M.jH n) d d1 d2 d3 d4 some
def M.lN(d d1:Int)(d2:aC)(d3:au)(d4:Int):Option (aC×Bool):=lim λn=>M.jH n d d1 d2 d3 d4
def C.Xw{iE:Int->Int->aC->au->Int->Option (aC×Bool)}(Lh:S.lN.ok X0 λx=>iE x.1.1.1 x.1.1.2.1 x.1.1.2.2.1 x.1.1.2.2.2.1 x.1.1.2.2.2.2.1):S.lN.ok X0 λx=>M.Bd iE x.1.1.1 x.1.1.2.1 x.1.1.2.2.1 x.1.1.2.2.2.1 x.1.1.2.2.2.2.1 some:=fnS (λx=>M.Bd iE x.1.1.1 x.1.1.2.1 x.1.1.2.2.1 x.1.1.2.2.2.1 x.1.1.2.2.2.2.1) [] [F.Ci Lh] (by intros;simp only[M.Bd,nb]<;>rfl)
def C.jH:∀n,S.lN.ok X0 λx=>M.jH n x.1.1.1 x.1.1.2.1 x.1.1.2.2.1 x.1.1.2.2.2.1 x.1.1.2.2.2.2.1
 |0=>gq.zero
 |n+1=>C.Xw (C.jH n)
def C.lN:S.lN.ok X0 λx=>M.lN x.1.1.1 x.1.1.2.1 x.1.1.2.2.1 x.1.1.2.2.2.1 x.1.1.2.2.2.2.1:=gq.lim C.jH
def M.Xx{n:Nat}{d d1:Int}{d2:aC}{d3:au}{d4:Int}{r:aC×Bool}(h:M.jH n d d1 d2 d3 d4=some r):M.lN d d1 d2 d3 d4=some r:=
 gq.Hl C.jH (by intro a b h;simp[S.lN,sg] at h;first|exact h|simp[Prod.ext_iff,h]) (x:=(((d,d1,d2,d3,d4,()),()),())) h
def M.mY{R:Type}(w:Row)(count i mM nY:Int)(zy:aC)(BO:au)(Ou:Int)(s:Int×au)(kn:Int×au->Option R)(ke:Int×au->Option R):Option R:=match s with
 |(k',x')=>
 bif decide (k'>=0) then
 ((idx BO k').bind λVT=>
 ((eu .i64 VT 0).bind λaGJ=>
 ((eu .i64 VT 1).bind λaGK=>
 ((cStr VT 2).bind λaGL=>
 ((LC 5 VT 3).bind λaoQ=>
 ((eu .i64 VT 4).bind λn2020=>
 (jA x' [[D.int .i64 aGJ,D.int .i64 aGK,D.str aGL,D.sl false 5 aoQ,D.int .i64 n2020]] 64 λza=>(kn ((i64.wrap (k' - 1),za)))))))))) else(ke ((k',x')))
def M.rD(w:Row)(count i mM nY:Int)(zy:aC)(BO:au)(Ou:Int)(s:Int×au):=M.mY w count i mM nY zy BO Ou s (λs=>some (Sum.inl s)) λt=>some (Sum.inr t)
def M.kQ(w:Row)(count i mM nY:Int)(zy:aC)(BO:au)(Ou:Int)(s:Int×au):Option (Int×au):=fF (M.rD w count i mM nY zy BO Ou) s
def F.kQ:LE X0 138:=le 16 (Gz [eP 0 (pR 0),eP 3 pI,eP 4 (pO 300000 0),eP 5 pI,eP 6 (pP 300001 0),eP 7 pI] [eP 300000 (cA false false 0 5),eP 300001 (cB 49 [pI,pI,pS,pL false 5,pI])]) (λx=>(x.1.2.2.2.2.2.1,x.2.1)) (λx s=>((x.1.1,x.1.2.1,(),x.1.2.2.2.1,(),s.1,()),(s.2,(x.2.2.1.1,x.2.2.1.2.1,x.2.2.1.2.2.1,x.2.2.1.2.2.2.1,x.2.2.1.2.2.2.2.1,()),()))) (λx=> .leaf (Int×au) (λt=>(Ex.exit 5,{tm:=[(0,V.nZ x.1.1 0),(3,V.d (D.int .i64 x.1.2.1)),(4,V.own 300000 0),(5,V.d (D.int .i64 x.1.2.2.2.1)),(6,V.ptr 300001 0),(7,V.d (D.int .i64 t.1)),(62,V.d (D.bool false))],mem:=[(300000,Cell.arr false false 0 5 t.2),(300001,Cell.box 49 [V.d (D.int .i64 x.2.2.1.1),V.d (D.int .i64 x.2.2.1.2.1),V.d (D.str x.2.2.1.2.2.1),V.d (D.sl false 5 x.2.2.1.2.2.2.1),V.d (D.int .i64 x.2.2.1.2.2.2.2.1)])]}))) (λx=>M.mY x.1.1 x.1.2.1 x.1.2.2.2.1 x.2.2.1.1 x.2.2.1.2.1 x.2.2.1.2.2.1 x.2.2.1.2.2.2.1 x.2.2.1.2.2.2.2.1) [] [] (by rintro _ _ ⟨_,_⟩ _ _<;>simp only[jA,M.mY,nb]<;>rfl)
def M.gG{R:Type}(s:(Row×Int×Int×au)⊕(Row×Int×Int×Int×Bool×au×Int×Int×aC×au×Int))(kn:(Row×Int×Int×au)⊕(Row×Int×Int×Int×Bool×au×Int×Int×aC×au×Int)->Option R)(ke:(Int)⊕(Row×Int×Int×au)->Option R):Option R:=match s with
 | .inl ((w,count,i,x'))=>
 bif decide ((↑x'.length:Int)>0) then
 ((idx x' (i64.wrap ((↑x'.length:Int) - 1))).bind λaIV=>
 ((x'[(i64.wrap ((↑x'.length:Int) - 1)).toNat]?).bind λVU=>
 ((eu .i64 VU 0).bind λabe=>
 ((eu .i64 VU 1).bind λakv=>
 ((cStr VU 2).bind λadA=>
 ((cRo 5 VU 3).bind λOY=>
 ((eu .i64 VU 4).bind λakw=>
 (bif decide (0<=i64.wrap ((↑x'.length:Int) - 1)) && decide (i64.wrap ((↑x'.length:Int) - 1)<=(↑x'.length:Int)) then
 (bif abe==1 then
 ((M.kQ w (i64.wrap (count+(↑adA.length:Int))) i abe akv adA OY akw ((i64.wrap ((↑OY.length:Int) - 1),List.take (i64.wrap ((↑x'.length:Int) - 1)).toNat x'))).bind λasi=>
 (kn (.inr ((w,i64.wrap (count+(↑adA.length:Int)),i,asi.1,false,asi.2,abe,akv,adA,OY,akw))))) else
 (bif abe==2 then(ke (.inl count)) else
 (bif abe==3 then(ke (.inl count)) else
 ((M.kQ w count i abe akv adA OY akw ((i64.wrap ((↑OY.length:Int) - 1),List.take (i64.wrap ((↑x'.length:Int) - 1)).toNat x'))).bind λasj=>
 (kn (.inr ((w,count,i,asj.1,false,asj.2,abe,akv,adA,OY,akw)))))))) else none)))))))) else(ke (.inr ((w,count,i,x'))))
 | .inr ((w,count,i,k',v62,x',mM,nY,zy,BO,Ou))=>
 bif decide ((↑x'.length:Int)>0) then
 ((idx x' (i64.wrap ((↑x'.length:Int) - 1))).bind λaIW=>
 ((x'[(i64.wrap ((↑x'.length:Int) - 1)).toNat]?).bind λVW=>
 ((eu .i64 VW 0).bind λabf=>
 ((eu .i64 VW 1).bind λakx=>
 ((cStr VW 2).bind λadB=>
 ((cRo 5 VW 3).bind λOZ=>
 ((eu .i64 VW 4).bind λaky=>
 (bif decide (0<=i64.wrap ((↑x'.length:Int) - 1)) && decide (i64.wrap ((↑x'.length:Int) - 1)<=(↑x'.length:Int)) then
 (bif abf==1 then
 ((M.kQ w (i64.wrap (count+(↑adB.length:Int))) i abf akx adB OZ aky ((i64.wrap ((↑OZ.length:Int) - 1),List.take (i64.wrap ((↑x'.length:Int) - 1)).toNat x'))).bind λasl=>
 (kn (.inr ((w,i64.wrap (count+(↑adB.length:Int)),i,asl.1,false,asl.2,abf,akx,adB,OZ,aky))))) else
 (bif abf==2 then(ke (.inl count)) else
 (bif abf==3 then(ke (.inl count)) else
 ((M.kQ w count i abf akx adB OZ aky ((i64.wrap ((↑OZ.length:Int) - 1),List.take (i64.wrap ((↑x'.length:Int) - 1)).toNat x'))).bind λasn=>
 (kn (.inr ((w,count,i,asn.1,false,asn.2,abf,akx,adB,OZ,aky)))))))) else none)))))))) else(ke (.inr ((w,count,i,x'))))
def M.gI(s:(Row×Int×Int×au)⊕(Row×Int×Int×Int×Bool×au×Int×Int×aC×au×Int)):=M.gG s (λs=>some (Sum.inl s)) λt=>some (Sum.inr t)
def M.qA(s:(Row×Int×Int×au)⊕(Row×Int×Int×Int×Bool×au×Int×Int×aC×au×Int)):Option ((Int)⊕(Row×Int×Int×au)):=fF (M.gI) s
def F.qA:LE X0 138:=le 6 (pOr (Gz [eP 0 (pR 0),eP 3 pI,eP 4 (pO 300000 0),eP 5 pI] [eP 300000 (cA false false 0 5)]) (Gz [eP 0 (pR 0),eP 3 pI,eP 4 (pO 300000 0),eP 5 pI,eP 6 (pP 300001 0),eP 7 pI,eP 62 pB] [eP 300000 (cA false false 0 5),eP 300001 (cB 49 [pI,pI,pS,pL false 5,pI])])) (σ:=(Row×Int×Int×au)⊕(Row×Int×Int×Int×Bool×au×Int×Int×aC×au×Int)) (λx=>(match x with| .inl x=> .inl ((x.1.1,x.1.2.1,x.1.2.2.2.1,x.2.1))| .inr x=> .inr ((x.1.1,x.1.2.1,x.1.2.2.2.1,x.1.2.2.2.2.2.1,x.1.2.2.2.2.2.2.1,x.2.1,x.2.2.1.1,x.2.2.1.2.1,x.2.2.1.2.2.1,x.2.2.1.2.2.2.1,x.2.2.1.2.2.2.2.1)))) (λx s=>(match s with| .inl s=> .inl (((s.1,s.2.1,(),s.2.2.1,()),(s.2.2.2,())))| .inr s=> .inr (((s.1,s.2.1,(),s.2.2.1,(),s.2.2.2.1,s.2.2.2.2.1,()),(s.2.2.2.2.2.1,(s.2.2.2.2.2.2.1,s.2.2.2.2.2.2.2.1,s.2.2.2.2.2.2.2.2.1,s.2.2.2.2.2.2.2.2.2.1,s.2.2.2.2.2.2.2.2.2.2,()),()))))) (λx=> .sum (.leaf (Int) (λt=>(Ex.ret,{tm:=[(2,V.d (D.int .i64 t))],mem:=[]}))) (.leaf (Row×Int×Int×au) (λt=>(Ex.exit 2,{tm:=[(0,V.nZ t.1 0),(3,V.d (D.int .i64 t.2.1)),(4,V.own 300000 0),(5,V.d (D.int .i64 t.2.2.1)),(32,V.d (D.bool false))],mem:=[(300000,Cell.arr false false 0 5 t.2.2.2)]})))) (λx=>M.gG) [] [F.kQ] (by rintro _ _ (⟨_,_,_,_⟩|⟨_,_,_,_,_,_,_,_,_,_,_⟩) _ _<;>unfold M.gG<;>repeat' first|with_reducible apply ig|with_reducible apply Ho|with_reducible apply Hq|with_reducible apply Hr|with_reducible apply Ht|(intro _)|apply ig|rfl) (hE:=by intro _ _ s _;rcases s with s|s<;>kernel_rfl)
def M.nP{R:Type}(s:Row×Int×Int×au)(kn:Row×Int×Int×au->Option R)(ke:(Int)⊕(Row×Int×Int×au)->Option R):Option R:=match s with
 |(w,count,i,x')=>
 bif decide (i>=0) then
 ((LC 7 w 2).bind λaoR=>
 ((idx aoR i).bind λVX=>
 ((eu .i64 VX 0).bind λaGM=>
 ((eu .i64 VX 1).bind λaGN=>
 ((cStr VX 2).bind λaGO=>
 ((LC 5 VX 3).bind λaoS=>
 ((eu .i64 VX 4).bind λaGP=>
 (jA x' [[D.int .i64 aGM,D.int .i64 aGN,D.str aGO,D.sl false 5 aoS,D.int .i64 aGP]] 64 λza=>((M.qA (.inl ((w,count,i,za)))).bind λaGQ=>
 nX aGQ (λaGR=>(ke (.inl aGR))) λaGS=>
 letE aGS λakz=>
 (kn ((akz.1,akz.2.1,i64.wrap (akz.2.2.1 - 1),akz.2.2.2)))))))))))) else(ke (.inr ((w,count,i,x'))))
def M.nR(s:Row×Int×Int×au):=M.nP s (λs=>some (Sum.inl s)) λt=>some (Sum.inr t)
def M.vP(s:Row×Int×Int×au):Option ((Int)⊕(Row×Int×Int×au)):=fF (M.nR) s
def F.vP:LE X0 138:=le 3 (Gz [eP 0 (pR 0),eP 3 pI,eP 4 (pO 300000 0),eP 5 pI] [eP 300000 (cA false false 0 5)]) (λx=>(x.1.1,x.1.2.1,x.1.2.2.2.1,x.2.1)) (λx s=>((s.1,s.2.1,(),s.2.2.1,()),(s.2.2.2,()))) (λx=> .sum (.leaf (Int) (λt=>(Ex.ret,{tm:=[(2,V.d (D.int .i64 t))],mem:=[]}))) (.leaf (Row×Int×Int×au) (λt=>(Ex.exit 0,{tm:=[(0,V.nZ t.1 0),(3,V.d (D.int .i64 t.2.1)),(4,V.own 300000 0),(5,V.d (D.int .i64 t.2.2.1)),(16,V.d (D.bool false))],mem:=[(300000,Cell.arr false false 0 5 t.2.2.2)]})))) (λx=>M.nP) [] [F.qA] (by rintro _ _ ⟨_,_,_,_⟩ _ _<;>simp only[jA,M.nP,nb]<;>rfl)
def M.xW{R:Type}(w:Row)(k:Int->Option R):Option R:=
 (LC 7 w 2).bind λaoT=>
 ((M.vP ((w,0,i64.wrap ((↑aoT.length:Int) - 1),[]))).bind λaGT=>
 nX aGT (λaGU=>(k aGU)) λaGV=>
 letE aGV λaGW=>(k aGW.2.1))
def M.lK(w:Row):Option (Int):=M.xW w some
def C.lK:S.lK.ok X0 λx=>M.lK x.1.1:=fnS (λx=>M.xW x.1.1) [] [F.vP] (by intros;simp only[M.xW,nb]<;>rfl)
def M.Es{R:Type}(d d1:Int)(d2:aC)(d3:au)(d4:Int)(c:au)(c1:Int)(c2:au)(c3:Int)(k:Bool×au×Int×au×Int->Option R):Option R:=
 (M.lN d d1 d2 d3 d4).bind λaso=>
 (bif aso.2 then
 ((M.lK [D.sl false 1 c,D.int .i64 c1,D.sl false 7 (dI c2)]).bind λaGX=>
 (bif aA c then
 (k ((decide (i64.wrap ((↑aso.1.length:Int)+aGX)<=i64.wrap (c3 - c1)),c,c1,c2,c3))) else none)) else(bif aA c then(k ((false,c,c1,c2,c3))) else none))
def M.oW(d d1:Int)(d2:aC)(d3:au)(d4:Int)(c:au)(c1:Int)(c2:au)(c3:Int):Option (Bool×au×Int×au×Int):=M.Es d d1 d2 d3 d4 c c1 c2 c3 some
def C.oW:S.oW.ok X0 λx=>M.oW x.1.1.1 x.1.1.2.1 x.1.1.2.2.1 x.1.1.2.2.2.1 x.1.1.2.2.2.2.1 x.2.1.1 x.2.1.2.1 x.2.1.2.2.1 x.2.2.1.1:=fnS (λx=>M.Es x.1.1.1 x.1.1.2.1 x.1.1.2.2.1 x.1.1.2.2.2.1 x.1.1.2.2.2.2.1 x.2.1.1 x.2.1.2.1 x.2.1.2.2.1 x.2.2.1.1) [fe C.lN,fe C.lK] [] (by intros;simp only[M.Es,nb]<;>rfl)
def M.xX{R:Type}(s:Int×Int×au×au)(kn:Int×Int×au×au->Option R)(ke:Int×Int×au×au->Option R):Option R:=match s with
 |(v,v1,x',mM)=>
 bif decide ((↑mM.length:Int)>0) then
 ((idx mM (i64.wrap ((↑mM.length:Int) - 1))).bind λaIX=>
 ((mM[(i64.wrap ((↑mM.length:Int) - 1)).toNat]?).bind λP5=>
 ((eu .i64 P5 0).bind λTG=>
 ((eu .i64 P5 1).bind λadC=>
 ((cStr P5 2).bind λVY=>
 ((cRo 5 P5 3).bind λRl=>
 ((eu .i64 P5 4).bind λahP=>
 ((eu .i64 P5 5).bind λadD=>
 ((Ji P5 6).bind λakA=>
 (bif decide (0<=i64.wrap ((↑mM.length:Int) - 1)) && decide (i64.wrap ((↑mM.length:Int) - 1)<=(↑mM.length:Int)) then
 (bif TG==1 then
 (bif((x'.length+(List.map byteRow VY).length) * 1).ble 140737488355328 then
 (bif(x'.length+(List.map byteRow VY).length).ble 140737488355328 then
 (kn ((i64.wrap (v+(↑VY.length:Int)),v1,x'++List.map byteRow VY,List.take (i64.wrap ((↑mM.length:Int) - 1)).toNat mM))) else none) else none) else
 (bif TG==2 then
 (bif akA then
 (bif((x'.length+1) * 1).ble 140737488355328 then
 (bif(x'.length+1).ble 140737488355328 then
 (kn ((i64.wrap (v+1),v1,x'++[[D.int IntKind.u8 32]],List.take (i64.wrap ((↑mM.length:Int) - 1)).toNat mM))) else none) else none) else
 (bif aA x' then
 ((M.kD adD x' v (List.take (i64.wrap ((↑mM.length:Int) - 1)).toNat mM)).bind λaoU=>(kn ((aoU.2.1,v1,aoU.1,aoU.2.2)))) else none)) else
 (bif TG==3 then
 (bif aA x' then
 ((M.kD adD x' v (List.take (i64.wrap ((↑mM.length:Int) - 1)).toNat mM)).bind λaoV=>(kn ((aoV.2.1,v1,aoV.1,aoV.2.2)))) else none) else
 (bif TG==4 then
 (bif aA x' then
 ((M.iI TG adC VY Rl ahP (i64.wrap (adD+adC)) akA x' v (List.take (i64.wrap ((↑mM.length:Int) - 1)).toNat mM)).bind λaoW=>(kn ((aoW.2.1,v1,aoW.1,aoW.2.2)))) else none) else
 (bif TG==5 then
 (bif akA then
 (bif aA x' then
 ((M.iI TG adC VY Rl ahP adD true x' v (List.take (i64.wrap ((↑mM.length:Int) - 1)).toNat mM)).bind λaoX=>(kn ((aoX.2.1,v1,aoX.1,aoX.2.2)))) else none) else
 (bif aA x' then
 ((M.oW TG adC VY Rl ahP x' v (List.take (i64.wrap ((↑mM.length:Int) - 1)).toNat mM) v1).bind λadE=>
 (bif aA adE.2.1 then
 ((M.iI TG adC VY Rl ahP adD adE.1 adE.2.1 adE.2.2.1 adE.2.2.2.1).bind λaoY=>(kn ((aoY.2.1,adE.2.2.2.2,aoY.1,aoY.2.2)))) else none)) else none)) else
 (bif aA x' then
 ((M.iI TG adC VY Rl ahP adD akA x' v (List.take (i64.wrap ((↑mM.length:Int) - 1)).toNat mM)).bind λaoZ=>(kn ((aoZ.2.1,v1,aoZ.1,aoZ.2.2)))) else none)))))) else none)))))))))) else(ke ((v,v1,x',mM)))
def M.nS(s:Int×Int×au×au):=M.xX s (λs=>some (Sum.inl s)) λt=>some (Sum.inr t)
def M.Az(s:Int×Int×au×au):Option (Int×Int×au×au):=fF (M.nS) s
def F.Az:LE X0 134:=le 2 (Gz [eP 0 (pP 100000 0),eP 2 (aqc 136 [] [pKp (pP 100000 0),pP 100001 0])] [eP 100000 (cB 121 [pO 300000 0,pI,pO 300001 0]),eP 100001 (cB 3 [pI]),eP 300000 (cA false true 0 1),eP 300001 (cA false false 0 7)]) (λx=>(x.2.1.2.1,x.2.2.1.1,x.2.2.2.1,x.2.2.2.2.1)) (λx s=>(((),((),((),(),())),()),(((),s.1,(),()),(s.2.1,()),s.2.2.1,s.2.2.2,()))) (λx=> .leaf (Int×Int×au×au) (λt=>(Ex.exit 0,{tm:=[(0,V.ptr 100000 0),(2,V.clo 136 [] [(V.ptr 100000 0).vV,V.ptr 100001 0]),(18,V.d (D.bool false))],mem:=[(100000,Cell.box 121 [V.own 300000 0,V.d (D.int .i64 t.1),V.own 300001 0]),(100001,Cell.box 3 [V.d (D.int .i64 t.2.1)]),(300000,Cell.arr false true 0 1 t.2.2.1),(300001,Cell.arr false false 0 7 t.2.2.2)]}))) (λx=>M.xX) [fe C.kD,fe C.iI,fe C.oW] [] (by rintro _ _ ⟨_,_,_,_⟩ _ _<;>simp only[M.xX,nb]<;>rfl)
def M.Cj{R:Type}(d d1:Int)(d2:aC)(d3:au)(d4:Int)(c:au)(c1:Int)(c2:au)(c3:Int)(k:au×Int×au×Int->Option R):Option R:=
 (M.Az ((c1,c3,c,[[D.int .i64 d,D.int .i64 d1,D.str d2,D.sl false 5 d3,D.int .i64 d4,D.int .i64 0,D.bool false]]))).bind λahQ=>
 (bif aA ahQ.2.2.1 then(k ((ahQ.2.2.1,ahQ.1,ahQ.2.2.2,ahQ.2.1))) else none)
def M.tu(d d1:Int)(d2:aC)(d3:au)(d4:Int)(c:au)(c1:Int)(c2:au)(c3:Int):Option (au×Int×au×Int):=M.Cj d d1 d2 d3 d4 c c1 c2 c3 some
def C.tu:S.tu.ok X0 λx=>M.tu x.1.2.1.1 x.1.2.1.2.1 x.1.2.1.2.2.1 x.1.2.1.2.2.2.1 x.1.2.1.2.2.2.2.1 x.2.1.1 x.2.1.2.1 x.2.1.2.2.1 x.2.2.1.1:=fnS (λx=>M.Cj x.1.2.1.1 x.1.2.1.2.1 x.1.2.1.2.2.1 x.1.2.1.2.2.2.1 x.1.2.1.2.2.2.2.1 x.2.1.1 x.2.1.2.1 x.2.1.2.2.1 x.2.2.1.1) [] [F.Az] (by intros;simp only[M.Cj,nb]<;>rfl)
def M.EX{R:Type}(l:au)(w:Int)(k:aC×Bool->Option R):Option R:=
 (M.yA l).bind λaGY=>
 (bif !aGY then(k (([],false))) else
 ((M.cO w 0 10000).bind λaGZ=>
 (bif !aGZ then(k (([],false))) else
 ((M.Dt l).bind λahR=>
 ((M.tu ahR.1 ahR.2.1 ahR.2.2.1 (dI ahR.2.2.2.1) ahR.2.2.2.2 [] 0 [] w).bind λaG0=>((bytesOf aG0.1).bind λaG1=>(k ((aG1,true)))))))))
def M.su(l:au)(w:Int):Option (aC×Bool):=M.EX l w some
def C.su:S.su.ok X0 λx=>M.su x.1.1 x.1.2.1:=fnS (λx=>M.EX x.1.1 x.1.2.1) [fe C.yA,fe C.cO,fe C.Dt,fe C.tu] [] (by intros;simp only[M.EX,nb]<;>rfl)
def M.Et{R:Type}(d:au)(w:Int)(k:aC×Bool->Option R):Option R:=
 (M.su d w).bind λao0=>
 (bif !ao0.2 then(k (([],false))) else
 (bif decide ((↑ao0.1.length:Int)>3000) then(k (([],false))) else(k ((ao0.1,true)))))
def M.oZ(d:au)(w:Int):Option (aC×Bool):=M.Et d w some
def C.oZ:S.oZ.ok X0 λx=>M.oZ x.1.1 x.1.2.1:=fnS (λx=>M.Et x.1.1 x.1.2.1) [fe C.su] [] (by intros;simp only[M.Et,nb]<;>rfl)
def M.Eu{R:Type}(l:au)(w:Int)(k:aC×Bool->Option R):Option R:=
 M.oM.bind λahS=>
 ((M.xR l ahS.1 ahS.2.1 ahS.2.2.1 ahS.2.2.2.1 ahS.2.2.2.2).bind λaG2=>((M.oZ (dI aG2) w).bind λasq=>(k ((asq.1,asq.2)))))
def M.sD(l:au)(w:Int):Option (aC×Bool):=M.Eu l w some
def C.sD:S.sD.ok X0 λx=>M.sD x.1.1 x.1.2.1:=fnS (λx=>M.Eu x.1.1 x.1.2.1) [fe C.oM,fe C.xR,fe C.oZ] [] (by intros;simp only[M.Eu,nb]<;>rfl)
def M.sJ{R:Type}(aL:au)(aW:Int)(k:Bool->Option R):Option R:=
 (M.wJ aL 1048576).bind λaG3=>
 (bif decide (aG3<0) then(k true) else
 ((M.qQ aL).bind λaG4=>
 ((M.rY (dI aG4) aW).bind λasr=>
 ((M.qQ aL).bind λasu=>
 ((M.sD (dI asu) aW).bind λasv=>
 (bif !asv.1==asr.1 then(k false) else
 (bif !asv.2==asr.2 then(k false) else
 ((M.qQ aL).bind λaG5=>
 ((M.wV (dI asu) (dI aG5)).bind λaG6=>(bif !aG6 then(k false) else(k true)))))))))))
def M.lu(aL:au)(aW:Int):Option (Bool):=M.sJ aL aW some
def C.lu:S.lu.ok X0 λx=>M.lu x.1.1 x.1.2.1:=fnS (λx=>M.sJ x.1.1 x.1.2.1) [fe C.wJ,fe C.qQ,fe C.rY,fe C.sD,fe C.wV] [] (by intros;simp only[M.sJ,nb]<;>rfl)
abbrev S.strings_Join:gq:=sg 142 [pL false 1,pS] [] (ρ:=aC) λr=>([[D.str r]],[])
def C.strings_Join:S.strings_Join.ok X0 λx=>M.strings_Join x.1.1 x.1.2.1:=gq.Qu (p:=Prim.strings_Join)
abbrev S.strings_Split:gq:=sg 103 [pS,pS] [] (ρ:=au) λr=>([[D.sl true 1 r]],[])
def C.strings_Split:S.strings_Split.ok X0 λx=>M.strings_Split x.1.1 x.1.2.1:=gq.Qu (p:=Prim.strings_Split)
end
end Go.Proofs.YtbpldgeajbfgnaaGreatDoor
