import Derived.Test.YtbpldgeajbfgnaaGreatDoorPForms
namespace Go.Proofs.YtbpldgeajbfgnaaGreatDoor
open Go Go.Vm
set_option linter.unusedVariables false
set_option linter.unusedSimpArgs false
noncomputable section
def M.kV:Nat→(ak→Bool→Int→Int→Bool→Bool→Bool→Bool→Option (ak))×(ak→Bool→ak→Option (ak))×(ak→Bool→Int→aF→Int→ak→Int→Option (ak))×(ak→Bool→Int→Option (ak))×(ak→Bool→Int→Int→aF→aF→ak→Int→Bool→Bool→Bool→Bool→Option (ak))×(ak→Bool→Int→Int→Bool→Bool→Bool→Bool→Option (ak)):=
 Nat.rec (fun _ _ _ _ _ _ _ _=>none,fun _ _ _=>none,fun _ _ _ _ _ _ _=>none,fun _ _ _=>none,fun _ _ _ _ _ _ _ _ _ _ _ _=>none,fun _ _ _ _ _ _ _ _=>none) fun _ qz=>(fun w w1 i p p1 p2 p3 p4=>M.D9 qz.2.2.2.2.2 w w1 i p p1 p2 p3 p4 some,fun w w1 kids=>M.yS qz.1 w w1 kids some,fun w w1 t' gX iK kids open'=>M.vW qz.2.1 w w1 t' gX iK kids open' some,fun w w1 i=>M.uH qz.2.2.2.2.2 w w1 i some,fun w w1 n' gq iT iG iF p p1 p2 p3 p4=>M.pY qz.1 w w1 n' gq iT iG iF p p1 p2 p3 p4 some,fun w w1 i p p1 p2 p3 p4=>M.fV qz.2.2.1 qz.2.2.2.1 qz.1 qz.2.1 qz.2.2.2.2.1 w w1 i p p1 p2 p3 p4 some)
def M.qV(n:Nat):ak→Bool→Int→Int→Bool→Bool→Bool→Bool→Option (ak):=(M.kV n).1
def M.yT(n:Nat):ak→Bool→ak→Option (ak):=(M.kV n).2.1
def M.AY(n:Nat):ak→Bool→Int→aF→Int→ak→Int→Option (ak):=(M.kV n).2.2.1
def M.yU(n:Nat):ak→Bool→Int→Option (ak):=(M.kV n).2.2.2.1
def M.AZ(n:Nat):ak→Bool→Int→Int→aF→aF→ak→Int→Bool→Bool→Bool→Bool→Option (ak):=(M.kV n).2.2.2.2.1
def M.yV(n:Nat):ak→Bool→Int→Int→Bool→Bool→Bool→Bool→Option (ak):=(M.kV n).2.2.2.2.2
theorem M.aff(n:Nat):M.qV (n+1)=fun w w1 i p p1 p2 p3 p4=>M.D9 (M.yV n) w w1 i p p1 p2 p3 p4 some:=rfl
theorem M.abB(n:Nat):M.yT (n+1)=fun w w1 kids=>M.yS (M.qV n) w w1 kids some:=rfl
theorem M.ZB(n:Nat):M.AY (n+1)=fun w w1 t' gX iK kids open'=>M.vW (M.yT n) w w1 t' gX iK kids open' some:=rfl
theorem M.XZ(n:Nat):M.yU (n+1)=fun w w1 i=>M.uH (M.yV n) w w1 i some:=rfl
theorem M.ZC(n:Nat):M.AZ (n+1)=fun w w1 n' gq iT iG iF p p1 p2 p3 p4=>M.pY (M.qV n) w w1 n' gq iT iG iF p p1 p2 p3 p4 some:=rfl
theorem M.abC(n:Nat):M.yV (n+1)=fun w w1 i p p1 p2 p3 p4=>M.fV (M.AY n) (M.yU n) (M.qV n) (M.yT n) (M.AZ n) w w1 i p p1 p2 p3 p4 some:=rfl
def M.oL(w:ak)(w1:Bool)(i p:Int)(p1 p2 p3 p4:Bool):Option (ak):=lim fun n=>M.qV n w w1 i p p1 p2 p3 p4
def M.wH(w:ak)(w1:Bool)(kids:ak):Option (ak):=lim fun n=>M.yT n w w1 kids
def M.yh(w:ak)(w1:Bool)(t':Int)(gX:aF)(iK:Int)(kids:ak)(open':Int):Option (ak):=lim fun n=>M.AY n w w1 t' gX iK kids open'
def M.uQ(w:ak)(w1:Bool)(i:Int):Option (ak):=lim fun n=>M.yU n w w1 i
def M.yj(w:ak)(w1:Bool)(n' gq:Int)(iT iG:aF)(iF:ak)(p:Int)(p1 p2 p3 p4:Bool):Option (ak):=lim fun n=>M.AZ n w w1 n' gq iT iG iF p p1 p2 p3 p4
def M.wI(w:ak)(w1:Bool)(i p:Int)(p1 p2 p3 p4:Bool):Option (ak):=lim fun n=>M.yV n w w1 i p p1 p2 p3 p4
theorem C.kV:∀n,(S.oL.ok X0 fun x=>M.qV n x.1.1.1 x.1.1.2.1 x.1.2.1 x.1.2.2.1.1 x.1.2.2.1.2.1 x.1.2.2.1.2.2.1 x.1.2.2.1.2.2.2.1 x.1.2.2.1.2.2.2.2.1)∧(S.wH.ok X0 fun x=>M.yT n x.1.1.1 x.1.1.2.1 x.1.2.1)∧(S.yh.ok X0 fun x=>M.AY n x.1.1.1 x.1.1.2.1 x.1.2.1.1 x.1.2.1.2.1 x.1.2.1.2.2.1 x.1.2.2.1 x.1.2.2.2.1)∧(S.uQ.ok X0 fun x=>M.yU n x.1.1.1 x.1.1.2.1 x.1.2.1)∧(S.yj.ok X0 fun x=>M.AZ n x.1.1.1 x.1.1.2.1 x.1.2.1.1 x.1.2.1.2.1 x.1.2.1.2.2.1 x.1.2.1.2.2.2.1 x.1.2.1.2.2.2.2.1 x.1.2.2.1.1 x.1.2.2.1.2.1 x.1.2.2.1.2.2.1 x.1.2.2.1.2.2.2.1 x.1.2.2.1.2.2.2.2.1)∧(S.wI.ok X0 fun x=>M.yV n x.1.1.1 x.1.1.2.1 x.1.2.1 x.1.2.2.1.1 x.1.2.2.1.2.1 x.1.2.2.1.2.2.1 x.1.2.2.1.2.2.2.1 x.1.2.2.1.2.2.2.2.1)
 |0=>⟨fH.zero,fH.zero,fH.zero,fH.zero,fH.zero,fH.zero⟩
 |n+1=>have h:=C.kV n;⟨C.adf h.2.2.2.2.2,C.Zj h.1,C.XV h.2.1,C.V5 h.2.2.2.2.2,C.XW h.1,C.Zr h.2.2.1 h.2.2.2.1 h.1 h.2.1 h.2.2.2.2.1⟩
theorem C.oL:S.oL.ok X0 fun x=>M.oL x.1.1.1 x.1.1.2.1 x.1.2.1 x.1.2.2.1.1 x.1.2.2.1.2.1 x.1.2.2.1.2.2.1 x.1.2.2.1.2.2.2.1 x.1.2.2.1.2.2.2.2.1:=fH.lim fun n=>(C.kV n).1
theorem M.adg{n:Nat}{w:ak}{w1:Bool}{i p:Int}{p1 p2 p3 p4:Bool}{r:ak}(h:M.qV n w w1 i p p1 p2 p3 p4=some r):M.oL w w1 i p p1 p2 p3 p4=some r:=
 fH.EJ (fun n=>(C.kV n).1) (by intro a b h;simp[S.oL,sg] at h;first|exact h|simp[Prod.ext_iff,h]) (x:=(((w,w1,()),i,(p,p1,p2,p3,p4,()),()),())) h
theorem C.wH:S.wH.ok X0 fun x=>M.wH x.1.1.1 x.1.1.2.1 x.1.2.1:=fH.lim fun n=>(C.kV n).2.1
theorem C.yh:S.yh.ok X0 fun x=>M.yh x.1.1.1 x.1.1.2.1 x.1.2.1.1 x.1.2.1.2.1 x.1.2.1.2.2.1 x.1.2.2.1 x.1.2.2.2.1:=fH.lim fun n=>(C.kV n).2.2.1
theorem C.uQ:S.uQ.ok X0 fun x=>M.uQ x.1.1.1 x.1.1.2.1 x.1.2.1:=fH.lim fun n=>(C.kV n).2.2.2.1
theorem C.yj:S.yj.ok X0 fun x=>M.yj x.1.1.1 x.1.1.2.1 x.1.2.1.1 x.1.2.1.2.1 x.1.2.1.2.2.1 x.1.2.1.2.2.2.1 x.1.2.1.2.2.2.2.1 x.1.2.2.1.1 x.1.2.2.1.2.1 x.1.2.2.1.2.2.1 x.1.2.2.1.2.2.2.1 x.1.2.2.1.2.2.2.2.1:=fH.lim fun n=>(C.kV n).2.2.2.2.1
theorem C.wI:S.wI.ok X0 fun x=>M.wI x.1.1.1 x.1.1.2.1 x.1.2.1 x.1.2.2.1.1 x.1.2.2.1.2.1 x.1.2.2.1.2.2.1 x.1.2.2.1.2.2.2.1 x.1.2.2.1.2.2.2.2.1:=fH.lim fun n=>(C.kV n).2.2.2.2.2
def M.Dp{R:Type}(s':aF)(at':Int)(x':ak)(s:Int×Int×Int)(kn:Int×Int×Int→Option R)(ke:Int×Int×Int→Option R):Option R:=match s with
 |(kind,size,i)=>
 bif decide (i<(↑x'.length:Int)) then
 ((idx x' i).bind fun aO2=>
 (x'[i.toNat]?.bind fun awV=>
 ((cStr awV 0).bind fun aub=>
 (bif decide (at'≥0) then
 (bif decide (at'≤(↑s'.length:Int)) then
 (bif decide ((↑aub.length:Int)≤IntKind.i64.wrap ((↑s'.length:Int) - at')) then
 ((cut s' at' (IntKind.i64.wrap (at'+(↑aub.length:Int)))).bind fun aO3=>
 ((idx x' i).bind fun aO4=>
 (x'[i.toNat]?.bind fun awW=>
 ((cStr awW 0).bind fun aO5=>
 (bif aO3==aO5 then
 (bif decide ((↑aub.length:Int)>size) then(kn ((IntKind.i64.wrap (30+i),(↑aub.length:Int),IntKind.i64.wrap (i+1)))) else(kn ((kind,size,IntKind.i64.wrap (i+1))))) else(kn ((kind,size,IntKind.i64.wrap (i+1))))))))) else(kn ((kind,size,IntKind.i64.wrap (i+1))))) else(kn ((kind,size,IntKind.i64.wrap (i+1))))) else(kn ((kind,size,IntKind.i64.wrap (i+1)))))))) else(ke ((kind,size,i)))
def M.Nl(s':aF)(at':Int)(x':ak)(s:Int×Int×Int):=M.Dp s' at' x' s (fun s=>some (Sum.inl s)) fun t=>some (Sum.inr t)
def M.LX(s':aF)(at':Int)(x':ak)(s:Int×Int×Int):Option (Int×Int×Int):=iR (M.Nl s' at' x') s
def F.LX:LE X0 197:=le 5 (La [fU 0 pS,fU 1 pI,fU 6 pI,fU 7 pI,fU 8 (pO 300000 0),fU 9 pI] [fU 300000 (cA false true 0 1)]) (fun x=>(x.1.2.2.1,x.1.2.2.2.1,x.1.2.2.2.2.2.1)) (fun x s=>((x.1.1,x.1.2.1,s.1,s.2.1,(),s.2.2,()),(x.2.1,()))) (fun x=> .leaf (Int×Int×Int) (fun t=>(Ex.exit 0,{tm:=[(0,V.d (D.str x.1.1)),(1,V.d (D.int .i64 x.1.2.1)),(6,V.d (D.int .i64 t.1)),(7,V.d (D.int .i64 t.2.1)),(8,V.own 300000 0),(9,V.d (D.int .i64 t.2.2)),(15,V.d (D.bool false))],mem:=[(300000,Cell.arr false true 0 1 x.2.1)]}))) (fun x=>M.Dp x.1.1 x.1.2.1 x.2.1) [] [] (by rintro _ _ ⟨_,_,_⟩ _ _<;>simp only[M.Dp,nb]<;>rfl)
def M.N8{R:Type}(s':aF)(at':Int)(k:Int×Int→Option R):Option R:=
 M.tJ.bind fun aO6=>
 ((M.LX s' at' aO6 ((0,0,0))).bind fun aCp=>(k ((aCp.1,aCp.2.1))))
def M.qx(s':aF)(at':Int):Option (Int×Int):=M.N8 s' at' some
theorem C.qx:S.qx.ok X0 fun x=>M.qx x.1.1 x.1.2.1:=fnS (fun x=>M.N8 x.1.1 x.1.2.1) [fe C.tJ] [F.LX] (by intros;simp only[M.N8,nb]<;>rfl)
def M.FB{R:Type}(a:Int)(a1:aF)(a2 b:Int)(b1:aF)(b2:Int)(k:Bool→Option R):Option R:=
 bif a1==[] then(k false) else
 (bif b1==[] then(k false) else
 (bif a==2 then(k false) else
 (bif a==1 then(k false) else
 (bif b==1 then(k false) else
 ((idx b1 0).bind fun aqI=>
 ((idx a1 (IntKind.i64.wrap ((↑a1.length:Int) - 1))).bind fun aO7=>
 ((M.jK (IntKind.i64.wrap (↑aO7.toNat:Int))).bind fun aO8=>
 (bif aO8 then
 ((M.jK (IntKind.i64.wrap (↑aqI.toNat:Int))).bind fun aO9=>
 (bif aO9 then(k true) else
 (bif a==3 then
 ((M.jK (IntKind.i64.wrap (↑aqI.toNat:Int))).bind fun aPa=>
 (bif aPa then(k true) else
 (bif IntKind.i64.wrap (↑aqI.toNat:Int)==46 then(k true) else
 (bif a==6 then
 (bif b==32 then(k true) else
 (bif(a1.length+b1.length).ble 9223372036854775807 then
 ((M.qx (a1++b1) 0).bind fun aPb=>
 ((M.dL a 30 68).bind fun aPc=>(bif aPc then(k (decide (aPb.2>(↑a1.length:Int)))) else(k false)))) else none)) else
 (bif(a1.length+b1.length).ble 9223372036854775807 then
 ((M.qx (a1++b1) 0).bind fun aPd=>
 ((M.dL a 30 68).bind fun aPe=>(bif aPe then(k (decide (aPd.2>(↑a1.length:Int)))) else(k false)))) else none))))) else
 (bif a==6 then
 (bif b==32 then(k true) else
 (bif(a1.length+b1.length).ble 9223372036854775807 then
 ((M.qx (a1++b1) 0).bind fun aPf=>
 ((M.dL a 30 68).bind fun aPg=>(bif aPg then(k (decide (aPf.2>(↑a1.length:Int)))) else(k false)))) else none)) else
 (bif(a1.length+b1.length).ble 9223372036854775807 then
 ((M.qx (a1++b1) 0).bind fun aPh=>
 ((M.dL a 30 68).bind fun aPi=>(bif aPi then(k (decide (aPh.2>(↑a1.length:Int)))) else(k false)))) else none))))) else
 (bif a==3 then
 ((M.jK (IntKind.i64.wrap (↑aqI.toNat:Int))).bind fun aPj=>
 (bif aPj then(k true) else
 (bif IntKind.i64.wrap (↑aqI.toNat:Int)==46 then(k true) else
 (bif a==6 then
 (bif b==32 then(k true) else
 (bif(a1.length+b1.length).ble 9223372036854775807 then
 ((M.qx (a1++b1) 0).bind fun aPk=>
 ((M.dL a 30 68).bind fun aPl=>(bif aPl then(k (decide (aPk.2>(↑a1.length:Int)))) else(k false)))) else none)) else
 (bif(a1.length+b1.length).ble 9223372036854775807 then
 ((M.qx (a1++b1) 0).bind fun aPm=>
 ((M.dL a 30 68).bind fun aPn=>(bif aPn then(k (decide (aPm.2>(↑a1.length:Int)))) else(k false)))) else none))))) else
 (bif a==6 then
 (bif b==32 then(k true) else
 (bif(a1.length+b1.length).ble 9223372036854775807 then
 ((M.qx (a1++b1) 0).bind fun aPo=>
 ((M.dL a 30 68).bind fun aPp=>(bif aPp then(k (decide (aPo.2>(↑a1.length:Int)))) else(k false)))) else none)) else
 (bif(a1.length+b1.length).ble 9223372036854775807 then
 ((M.qx (a1++b1) 0).bind fun aPq=>
 ((M.dL a 30 68).bind fun aPr=>(bif aPr then(k (decide (aPq.2>(↑a1.length:Int)))) else(k false)))) else none)))))))))))
def M.qN(a:Int)(a1:aF)(a2 b:Int)(b1:aF)(b2:Int):Option (Bool):=M.FB a a1 a2 b b1 b2 some
theorem C.qN:S.qN.ok X0 fun x=>M.qN x.1.1.1 x.1.1.2.1 x.1.1.2.2.1 x.1.2.1.1 x.1.2.1.2.1 x.1.2.1.2.2.1:=fnS (fun x=>M.FB x.1.1.1 x.1.1.2.1 x.1.1.2.2.1 x.1.2.1.1 x.1.2.1.2.1 x.1.2.1.2.2.1) [fe C.jK,fe C.qx,fe C.dL] [] (by intros;unfold M.FB;repeat' first|with_reducible apply gG|with_reducible apply Gp|with_reducible apply Gq|with_reducible apply Gs|with_reducible apply Gt|(intro _)|apply gG|rfl)
def M.qW{R:Type}(dF:ak→Bool→Int→Int→Bool→Bool→Bool→Bool→Option (ak))(w:ak)(w1:Bool)(n' gq:Int)(iT iG:aF)(iF:ak)(p:Int)(p1 p2 p3 p4:Bool)(k:ak→Option R):Option R:=
 (idx iF 0).bind fun awX=>
 ((dn .i64 awX 0).bind fun aPs=>
 ((M.fD n' gq iT iG iF 0 p p1 p2 p3 p4).bind fun aqJ=>
 ((dF w w1 aPs aqJ.1 aqJ.2.1 aqJ.2.2.1 aqJ.2.2.2.1 aqJ.2.2.2.2).bind fun auc=>
 ((idx iF 1).bind fun awY=>
 ((dn .i64 awY 0).bind fun aPt=>
 ((M.fD n' gq iT iG iF 1 p p1 p2 p3 p4).bind fun aqK=>
 ((dF w w1 aPt aqK.1 aqK.2.1 aqK.2.2.1 aqK.2.2.2.1 aqK.2.2.2.2).bind fun aud=>
 (bif gq==99 then
 ((M.aJ [32]).bind fun aPu=>
 ((M.aT 6 0 (aA [[D.sl true 4 auc],[D.sl true 4 aPu],[D.sl true 4 aud]])).bind fun aCq=>(bif[[D.sl true 4 aCq]].all dM then(k aCq) else none))) else
 (bif gq==45 then
 ((M.jl gq).bind fun aCr=>
 (bif(1+aCr.length).ble 9223372036854775807 then
 ((M.aJ ([32]++aCr)).bind fun aPv=>
 (M.oK.bind fun aPw=>
 ((M.aT 6 0 (aA [[D.sl true 4 auc],[D.sl true 4 aPv],[D.sl true 4 aPw],[D.sl true 4 aud]])).bind fun aCs=>
 (bif[[D.sl true 4 aCs]].all dM then
 ((M.aT 4 4 (aA [[D.sl true 4 aCs]])).bind fun aCt=>
 (bif[[D.sl true 4 aCt]].all dM then
 ((M.aT 5 0 (aA [[D.sl true 4 aCt]])).bind fun aCu=>(bif[[D.sl true 4 aCu]].all dM then(k aCu) else none)) else none)) else none)))) else none)) else
 (bif gq==44 then
 ((M.jl gq).bind fun aCv=>
 (bif(1+aCv.length).ble 9223372036854775807 then
 ((M.aJ ([32]++aCv)).bind fun aPx=>
 (M.oK.bind fun aPy=>
 ((M.aT 6 0 (aA [[D.sl true 4 auc],[D.sl true 4 aPx],[D.sl true 4 aPy],[D.sl true 4 aud]])).bind fun aCw=>
 (bif[[D.sl true 4 aCw]].all dM then
 ((M.aT 4 4 (aA [[D.sl true 4 aCw]])).bind fun aCx=>
 (bif[[D.sl true 4 aCx]].all dM then
 ((M.aT 5 0 (aA [[D.sl true 4 aCx]])).bind fun aCy=>(bif[[D.sl true 4 aCy]].all dM then(k aCy) else none)) else none)) else none)))) else none)) else
 ((M.jl gq).bind fun awZ=>
 (bif(1+awZ.length).ble 9223372036854775807 then
 (bif(([32]++awZ).length+1).ble 9223372036854775807 then
 ((M.aJ ([32]++awZ++[32])).bind fun aPz=>
 ((M.aT 6 0 (aA [[D.sl true 4 auc],[D.sl true 4 aPz],[D.sl true 4 aud]])).bind fun aCz=>(bif[[D.sl true 4 aCz]].all dM then(k aCz) else none))) else none) else none))))))))))))
theorem C.abD{dF:ak→Bool→Int→Int→Bool→Bool→Bool→Bool→Option (ak)}(Ai:S.eH.ok X0 fun x=>dF x.1.1.1 x.1.1.2.1 x.1.2.1 x.1.2.2.1.1 x.1.2.2.1.2.1 x.1.2.2.1.2.2.1 x.1.2.2.1.2.2.2.1 x.1.2.2.1.2.2.2.2.1):S.Di.ok X0 fun x=>M.qW dF x.1.1.1 x.1.1.2.1 x.1.2.1.1 x.1.2.1.2.1 x.1.2.1.2.2.1 x.1.2.1.2.2.2.1 x.1.2.1.2.2.2.2.1 x.1.2.2.1.1 x.1.2.2.1.2.1 x.1.2.2.1.2.2.1 x.1.2.2.1.2.2.2.1 x.1.2.2.1.2.2.2.2.1 some:=fnS (fun x=>M.qW dF x.1.1.1 x.1.1.2.1 x.1.2.1.1 x.1.2.1.2.1 x.1.2.1.2.2.1 x.1.2.1.2.2.2.1 x.1.2.1.2.2.2.2.1 x.1.2.2.1.1 x.1.2.2.1.2.1 x.1.2.2.1.2.2.1 x.1.2.2.1.2.2.2.1 x.1.2.2.1.2.2.2.2.1) [fe C.fD,fe Ai,fe C.aJ,fe C.aT,fe C.jl,fe C.oK] [] (by intros;unfold M.qW;repeat' first|with_reducible apply gG|with_reducible apply Gp|with_reducible apply Gq|with_reducible apply Gs|with_reducible apply Gt|(intro _)|apply gG|rfl)
def M.fZ{R:Type}(oU:ak→Bool→Int→Int→aF→aF→ak→aF→aF→Option (ak))(nN:ak→Bool→Int→Option (ak))(dF:ak→Bool→Int→Int→Bool→Bool→Bool→Bool→Option (ak))(kH:ak→Bool→ak→Int→Bool→Bool→Bool→Bool→Option (ak))(A8:ak→Bool→Int→Int→aF→aF→ak→Int→Bool→Bool→Bool→Bool→Option (ak))(w:ak)(w1:Bool)(i p:Int)(p1 p2 p3 p4:Bool)(k:ak→Option R):Option R:=
 (idx w i).bind fun abE=>
 ((dn .i64 abE 0).bind fun n324=>
 ((dn .i64 abE 1).bind fun n325=>
 ((cStr abE 2).bind fun QB=>
 ((cStr abE 3).bind fun V6=>
 ((BK 1 abE 4).bind fun lM=>
 ((M.dJ n324 n325 QB V6 lM).bind fun aCA=>
 (bif aCA.1 !=0 then((M.aJ aCA.2.1).bind fun aPA=>(k aPA)) else
 (bif n324==5 then((oU w w1 n324 n325 QB V6 lM [91] [93]).bind fun aPB=>(k aPB)) else
 (bif n324==7 then((oU w w1 n324 n325 QB V6 lM [40] [41]).bind fun aPC=>(k aPC)) else
 (bif n324==8 then((oU w w1 n324 n325 QB V6 lM [40] [41]).bind fun aPD=>(k aPD)) else
 (bif n324==9 then
 ((M.jl n325).bind fun aPE=>
 ((M.aJ aPE).bind fun aPF=>
 ((idx lM 0).bind fun aw0=>
 ((dn .i64 aw0 0).bind fun aPG=>
 ((nN w w1 aPG).bind fun aPH=>
 ((M.aT 6 0 (aA [[D.sl true 4 aPF],[D.sl true 4 aPH]])).bind fun aCB=>(bif[[D.sl true 4 aCB]].all dM then(k aCB) else none))))))) else
 (bif n324==10 then
 ((idx lM 0).bind fun aw1=>
 ((dn .i64 aw1 0).bind fun aPI=>
 ((nN w w1 aPI).bind fun aPJ=>
 ((M.jl n325).bind fun aPK=>
 ((M.aJ aPK).bind fun aPL=>
 ((M.aT 6 0 (aA [[D.sl true 4 aPJ],[D.sl true 4 aPL]])).bind fun aCC=>(bif[[D.sl true 4 aCC]].all dM then(k aCC) else none))))))) else
 (bif n324==6 then
 ((M.aJ [36]).bind fun aPM=>
 ((idx lM 0).bind fun aw2=>
 ((dn .i64 aw2 0).bind fun aPN=>
 ((M.fD n324 n325 QB V6 lM 0 p p1 p2 p3 p4).bind fun r400=>
 ((dF w w1 aPN r400.1 r400.2.1 r400.2.2.1 r400.2.2.2.1 r400.2.2.2.2).bind fun aPO=>
 ((M.aT 6 0 (aA [[D.sl true 4 aPM],[D.sl true 4 aPO]])).bind fun aCD=>(bif[[D.sl true 4 aCD]].all dM then(k aCD) else none))))))) else
 (bif n324==15 then
 ((idx lM 0).bind fun aw3=>
 ((dn .i64 aw3 0).bind fun aPP=>
 ((nN w w1 aPP).bind fun aPQ=>
 ((M.jl n325).bind fun aw4=>
 (bif(1+aw4.length).ble 9223372036854775807 then
 (bif(([32]++aw4).length+1).ble 9223372036854775807 then
 ((M.aJ ([32]++aw4++[32])).bind fun aPR=>
 ((idx lM 1).bind fun aw5=>
 ((dn .i64 aw5 0).bind fun aPS=>
 ((M.fD n324 n325 QB V6 lM 1 p p1 p2 p3 p4).bind fun aqL=>
 ((dF w w1 aPS aqL.1 aqL.2.1 aqL.2.2.1 aqL.2.2.2.1 aqL.2.2.2.2).bind fun aPT=>
 ((M.aT 6 0 (aA [[D.sl true 4 aPQ],[D.sl true 4 aPR],[D.sl true 4 aPT]])).bind fun aCE=>(bif[[D.sl true 4 aCE]].all dM then(k aCE) else none))))))) else none) else none))))) else
 (bif n324==11 then
 ((M.jl n325).bind fun r413=>
 ((M.dX n325).bind fun aw6=>
 ((idx lM 0).bind fun aw7=>
 ((dn .i64 aw7 0).bind fun aPU=>
 ((M.fD n324 n325 QB V6 lM 0 p p1 p2 p3 p4).bind fun aqM=>
 ((M.oL w w1 aPU aqM.1 aqM.2.1 aqM.2.2.1 aqM.2.2.2.1 aqM.2.2.2.2).bind fun aCF=>
 ((idx aCF 0).bind fun aPV=>
 (aCF[0]?.bind fun amq=>
 ((dn .i64 amq 0).bind fun aPW=>
 ((cStr amq 1).bind fun aPX=>
 ((dn .i64 amq 2).bind fun aPY=>
 ((M.qN aw6.1 aw6.2.1 aw6.2.2 aPW aPX aPY).bind fun aPZ=>
 (bif aPZ then
 (bif(r413.length+1).ble 9223372036854775807 then
 ((M.aJ (r413++[32])).bind fun aP0=>
 ((idx lM 0).bind fun aw8=>
 ((dn .i64 aw8 0).bind fun aP1=>
 ((M.fD n324 n325 QB V6 lM 0 p p1 p2 p3 p4).bind fun aqN=>
 ((dF w w1 aP1 aqN.1 aqN.2.1 aqN.2.2.1 aqN.2.2.2.1 aqN.2.2.2.2).bind fun aP2=>
 ((M.aT 6 0 (aA [[D.sl true 4 aP0],[D.sl true 4 aP2]])).bind fun aCG=>(bif[[D.sl true 4 aCG]].all dM then(k aCG) else none))))))) else none) else
 ((M.aJ r413).bind fun aP3=>
 ((idx lM 0).bind fun aw9=>
 ((dn .i64 aw9 0).bind fun aP4=>
 ((M.fD n324 n325 QB V6 lM 0 p p1 p2 p3 p4).bind fun aqO=>
 ((dF w w1 aP4 aqO.1 aqO.2.1 aqO.2.2.1 aqO.2.2.2.1 aqO.2.2.2.2).bind fun aP5=>
 ((M.aT 6 0 (aA [[D.sl true 4 aP3],[D.sl true 4 aP5]])).bind fun aCH=>(bif[[D.sl true 4 aCH]].all dM then(k aCH) else none)))))))))))))))))))) else
 (bif n324==14 then
 ((idx lM 0).bind fun axa=>
 ((dn .i64 axa 0).bind fun aP6=>
 ((M.fD n324 n325 QB V6 lM 0 p p1 p2 p3 p4).bind fun aqP=>
 ((dF w w1 aP6 aqP.1 aqP.2.1 aqP.2.2.1 aqP.2.2.2.1 aqP.2.2.2.2).bind fun aP7=>
 ((M.aJ [32,63,32]).bind fun aP8=>
 ((idx lM 1).bind fun axb=>
 ((dn .i64 axb 0).bind fun aP9=>
 ((M.fD n324 n325 QB V6 lM 1 p p1 p2 p3 p4).bind fun aqQ=>
 ((dF w w1 aP9 aqQ.1 aqQ.2.1 aqQ.2.2.1 aqQ.2.2.2.1 aqQ.2.2.2.2).bind fun aQa=>
 ((M.aJ [32,58,32]).bind fun aQb=>
 ((idx lM 2).bind fun axc=>
 ((dn .i64 axc 0).bind fun aQc=>
 ((M.fD n324 n325 QB V6 lM 2 p p1 p2 p3 p4).bind fun aqR=>
 ((dF w w1 aQc aqR.1 aqR.2.1 aqR.2.2.1 aqR.2.2.2.1 aqR.2.2.2.2).bind fun aQd=>
 ((M.aT 6 0 (aA [[D.sl true 4 aP7],[D.sl true 4 aP8],[D.sl true 4 aQa],[D.sl true 4 aQb],[D.sl true 4 aQd]])).bind fun aCI=>(bif[[D.sl true 4 aCI]].all dM then(k aCI) else none)))))))))))))))) else
 (bif n324==13 then
 (bif(↑lM.length:Int)==1 then
 ((idx lM 0).bind fun axd=>
 ((dn .i64 axd 0).bind fun aQe=>
 ((M.fD n324 n325 QB V6 lM 0 p p1 p2 p3 p4).bind fun aqS=>
 ((dF w w1 aQe aqS.1 aqS.2.1 aqS.2.2.1 aqS.2.2.2.1 aqS.2.2.2.2).bind fun aQf=>
 (bif(4+QB.length).ble 9223372036854775807 then
 ((M.aJ ([32,105,110,32]++QB)).bind fun aQg=>
 ((M.aT 6 0 (aA [[D.sl true 4 aQf],[D.sl true 4 aQg]])).bind fun aCJ=>(bif[[D.sl true 4 aCJ]].all dM then(k aCJ) else none))) else none))))) else
 ((M.aJ [40]).bind fun aQh=>
 (M.gJ.bind fun aqT=>
 ((kH w w1 lM aqT.1 aqT.2.1 aqT.2.2.1 aqT.2.2.2.1 aqT.2.2.2.2).bind fun aQi=>
 (bif(5+QB.length).ble 9223372036854775807 then
 ((M.aJ ([41,32,105,110,32]++QB)).bind fun aQj=>
 ((M.aT 6 0 (aA [[D.sl true 4 aQh],[D.sl true 4 aQi],[D.sl true 4 aQj]])).bind fun aCK=>(bif[[D.sl true 4 aCK]].all dM then(k aCK) else none))) else none))))) else
 ((A8 w w1 n324 n325 QB V6 lM p p1 p2 p3 p4).bind fun aQk=>(k aQk)))))))))))))))))))
theorem C.ZE{oU:ak→Bool→Int→Int→aF→aF→ak→aF→aF→Option (ak)}{nN:ak→Bool→Int→Option (ak)}{dF:ak→Bool→Int→Int→Bool→Bool→Bool→Bool→Option (ak)}{kH:ak→Bool→ak→Int→Bool→Bool→Bool→Bool→Option (ak)}{A8:ak→Bool→Int→Int→aF→aF→ak→Int→Bool→Bool→Bool→Bool→Option (ak)}(ZF:S.yg.ok X0 fun x=>oU x.1.1.1 x.1.1.2.1 x.1.2.1.1 x.1.2.1.2.1 x.1.2.1.2.2.1 x.1.2.1.2.2.2.1 x.1.2.1.2.2.2.2.1 x.1.2.2.1 x.1.2.2.2.1)(X3:S.uP.ok X0 fun x=>nN x.1.1.1 x.1.1.2.1 x.1.2.1)(Ai:S.eH.ok X0 fun x=>dF x.1.1.1 x.1.1.2.1 x.1.2.1 x.1.2.2.1.1 x.1.2.2.1.2.1 x.1.2.2.1.2.2.1 x.1.2.2.1.2.2.2.1 x.1.2.2.1.2.2.2.2.1)(MX:S.jd.ok X0 fun x=>kH x.1.1.1 x.1.1.2.1 x.1.2.1 x.1.2.2.1.1 x.1.2.2.1.2.1 x.1.2.2.1.2.2.1 x.1.2.2.1.2.2.2.1 x.1.2.2.1.2.2.2.2.1)(adh:S.Di.ok X0 fun x=>A8 x.1.1.1 x.1.1.2.1 x.1.2.1.1 x.1.2.1.2.1 x.1.2.1.2.2.1 x.1.2.1.2.2.2.1 x.1.2.1.2.2.2.2.1 x.1.2.2.1.1 x.1.2.2.1.2.1 x.1.2.2.1.2.2.1 x.1.2.2.1.2.2.2.1 x.1.2.2.1.2.2.2.2.1):S.wJ.ok X0 fun x=>M.fZ oU nN dF kH A8 x.1.1.1 x.1.1.2.1 x.1.2.1 x.1.2.2.1.1 x.1.2.2.1.2.1 x.1.2.2.1.2.2.1 x.1.2.2.1.2.2.2.1 x.1.2.2.1.2.2.2.2.1 some:=fnS (fun x=>M.fZ oU nN dF kH A8 x.1.1.1 x.1.1.2.1 x.1.2.1 x.1.2.2.1.1 x.1.2.2.1.2.1 x.1.2.2.1.2.2.1 x.1.2.2.1.2.2.2.1 x.1.2.2.1.2.2.2.2.1) [fe C.dJ,fe C.aJ,fe ZF,fe C.jl,fe X3,fe C.aT,fe C.fD,fe Ai,fe C.dX,fe C.oL,fe C.qN,fe C.gJ,fe MX,fe adh] [] (by intros;unfold M.fZ;repeat' first|with_reducible apply gG|with_reducible apply Gp|with_reducible apply Gq|with_reducible apply Gs|with_reducible apply Gt|(intro _)|apply gG|rfl)
def M.Ea{R:Type}(jM:ak→Bool→Int→Int→Bool→Bool→Bool→Bool→Option (ak))(w:ak)(w1:Bool)(i p:Int)(p1 p2 p3 p4:Bool)(k:ak→Option R):Option R:=
 (idx w i).bind fun abG=>
 ((dn .i64 abG 0).bind fun n289=>
 ((dn .i64 abG 1).bind fun n290=>
 ((cStr abG 2).bind fun aQl=>
 ((cStr abG 3).bind fun aQm=>
 ((BK 1 abG 4).bind fun aue=>
 ((M.Bz n289 n290 aQl aQm aue p p1 p2 p3 p4).bind fun aQn=>
 (bif aQn then((jM w w1 i p p1 p2 p3 p4).bind fun aQo=>(k aQo)) else
 ((M.aJ [40]).bind fun aQp=>
 (M.gJ.bind fun aqU=>
 ((jM w w1 i aqU.1 aqU.2.1 aqU.2.2.1 aqU.2.2.2.1 aqU.2.2.2.2).bind fun aQq=>
 ((M.aJ [41]).bind fun aQr=>
 ((M.aT 6 0 (aA [[D.sl true 4 aQp],[D.sl true 4 aQq],[D.sl true 4 aQr]])).bind fun aCL=>(bif[[D.sl true 4 aCL]].all dM then(k aCL) else none)))))))))))))
theorem C.adi{jM:ak→Bool→Int→Int→Bool→Bool→Bool→Bool→Option (ak)}(MZ:S.wJ.ok X0 fun x=>jM x.1.1.1 x.1.1.2.1 x.1.2.1 x.1.2.2.1.1 x.1.2.2.1.2.1 x.1.2.2.1.2.2.1 x.1.2.2.1.2.2.2.1 x.1.2.2.1.2.2.2.2.1):S.eH.ok X0 fun x=>M.Ea jM x.1.1.1 x.1.1.2.1 x.1.2.1 x.1.2.2.1.1 x.1.2.2.1.2.1 x.1.2.2.1.2.2.1 x.1.2.2.1.2.2.2.1 x.1.2.2.1.2.2.2.2.1 some:=fnS (fun x=>M.Ea jM x.1.1.1 x.1.1.2.1 x.1.2.1 x.1.2.2.1.1 x.1.2.2.1.2.1 x.1.2.2.1.2.2.1 x.1.2.2.1.2.2.2.1 x.1.2.2.1.2.2.2.2.1) [fe C.Bz,fe MZ,fe C.aJ,fe C.gJ,fe C.aT] [] (by intros;unfold M.Ea;repeat' first|with_reducible apply gG|with_reducible apply Gp|with_reducible apply Gq|with_reducible apply Gs|with_reducible apply Gt|(intro _)|apply gG|rfl)
def M.jZ:Nat→(ak→Bool→Int→Int→Bool→Bool→Bool→Bool→Option (ak))×(ak→Bool→ak→Int→Bool→Bool→Bool→Bool→Option (ak))×(ak→Bool→Int→Int→aF→aF→ak→aF→aF→Option (ak))×(ak→Bool→Int→Option (ak))×(ak→Bool→Int→Int→aF→aF→ak→Int→Bool→Bool→Bool→Bool→Option (ak))×(ak→Bool→Int→Int→Bool→Bool→Bool→Bool→Option (ak)):=
 Nat.rec (fun _ _ _ _ _ _ _ _=>none,fun _ _ _ _ _ _ _ _=>none,fun _ _ _ _ _ _ _ _ _=>none,fun _ _ _=>none,fun _ _ _ _ _ _ _ _ _ _ _ _=>none,fun _ _ _ _ _ _ _ _=>none) fun _ qz=>(fun w w1 i p p1 p2 p3 p4=>M.Ea qz.2.2.2.2.2 w w1 i p p1 p2 p3 p4 some,fun w w1 kids p p1 p2 p3 p4=>M.yR qz.1 w w1 kids p p1 p2 p3 p4 some,fun w w1 n' gq iT iG iF open' end'=>M.vV qz.2.1 w w1 n' gq iT iG iF open' end' some,fun w w1 i=>M.uG qz.2.2.2.2.2 w w1 i some,fun w w1 n' gq iT iG iF p p1 p2 p3 p4=>M.qW qz.1 w w1 n' gq iT iG iF p p1 p2 p3 p4 some,fun w w1 i p p1 p2 p3 p4=>M.fZ qz.2.2.1 qz.2.2.2.1 qz.1 qz.2.1 qz.2.2.2.2.1 w w1 i p p1 p2 p3 p4 some)
def M.oV(n:Nat):ak→Bool→Int→Int→Bool→Bool→Bool→Bool→Option (ak):=(M.jZ n).1
def M.uZ(n:Nat):ak→Bool→ak→Int→Bool→Bool→Bool→Bool→Option (ak):=(M.jZ n).2.1
def M.Ba(n:Nat):ak→Bool→Int→Int→aF→aF→ak→aF→aF→Option (ak):=(M.jZ n).2.2.1
def M.yX(n:Nat):ak→Bool→Int→Option (ak):=(M.jZ n).2.2.2.1
def M.EW(n:Nat):ak→Bool→Int→Int→aF→aF→ak→Int→Bool→Bool→Bool→Bool→Option (ak):=(M.jZ n).2.2.2.2.1
def M.yY(n:Nat):ak→Bool→Int→Int→Bool→Bool→Bool→Bool→Option (ak):=(M.jZ n).2.2.2.2.2
theorem M.afg(n:Nat):M.oV (n+1)=fun w w1 i p p1 p2 p3 p4=>M.Ea (M.yY n) w w1 i p p1 p2 p3 p4 some:=rfl
theorem M.abH(n:Nat):M.uZ (n+1)=fun w w1 kids p p1 p2 p3 p4=>M.yR (M.oV n) w w1 kids p p1 p2 p3 p4 some:=rfl
theorem M.ZG(n:Nat):M.Ba (n+1)=fun w w1 n' gq iT iG iF open' end'=>M.vV (M.uZ n) w w1 n' gq iT iG iF open' end' some:=rfl
theorem M.X4(n:Nat):M.yX (n+1)=fun w w1 i=>M.uG (M.yY n) w w1 i some:=rfl
theorem M.adk(n:Nat):M.EW (n+1)=fun w w1 n' gq iT iG iF p p1 p2 p3 p4=>M.qW (M.oV n) w w1 n' gq iT iG iF p p1 p2 p3 p4 some:=rfl
theorem M.abI(n:Nat):M.yY (n+1)=fun w w1 i p p1 p2 p3 p4=>M.fZ (M.Ba n) (M.yX n) (M.oV n) (M.uZ n) (M.EW n) w w1 i p p1 p2 p3 p4 some:=rfl
def M.eH(w:ak)(w1:Bool)(i p:Int)(p1 p2 p3 p4:Bool):Option (ak):=lim fun n=>M.oV n w w1 i p p1 p2 p3 p4
def M.jd(w:ak)(w1:Bool)(kids:ak)(p:Int)(p1 p2 p3 p4:Bool):Option (ak):=lim fun n=>M.uZ n w w1 kids p p1 p2 p3 p4
def M.yg(w:ak)(w1:Bool)(n' gq:Int)(iT iG:aF)(iF:ak)(open' end':aF):Option (ak):=lim fun n=>M.Ba n w w1 n' gq iT iG iF open' end'
def M.uP(w:ak)(w1:Bool)(i:Int):Option (ak):=lim fun n=>M.yX n w w1 i
def M.Di(w:ak)(w1:Bool)(n' gq:Int)(iT iG:aF)(iF:ak)(p:Int)(p1 p2 p3 p4:Bool):Option (ak):=lim fun n=>M.EW n w w1 n' gq iT iG iF p p1 p2 p3 p4
def M.wJ(w:ak)(w1:Bool)(i p:Int)(p1 p2 p3 p4:Bool):Option (ak):=lim fun n=>M.yY n w w1 i p p1 p2 p3 p4
theorem C.jZ:∀n,(S.eH.ok X0 fun x=>M.oV n x.1.1.1 x.1.1.2.1 x.1.2.1 x.1.2.2.1.1 x.1.2.2.1.2.1 x.1.2.2.1.2.2.1 x.1.2.2.1.2.2.2.1 x.1.2.2.1.2.2.2.2.1)∧(S.jd.ok X0 fun x=>M.uZ n x.1.1.1 x.1.1.2.1 x.1.2.1 x.1.2.2.1.1 x.1.2.2.1.2.1 x.1.2.2.1.2.2.1 x.1.2.2.1.2.2.2.1 x.1.2.2.1.2.2.2.2.1)∧(S.yg.ok X0 fun x=>M.Ba n x.1.1.1 x.1.1.2.1 x.1.2.1.1 x.1.2.1.2.1 x.1.2.1.2.2.1 x.1.2.1.2.2.2.1 x.1.2.1.2.2.2.2.1 x.1.2.2.1 x.1.2.2.2.1)∧(S.uP.ok X0 fun x=>M.yX n x.1.1.1 x.1.1.2.1 x.1.2.1)∧(S.Di.ok X0 fun x=>M.EW n x.1.1.1 x.1.1.2.1 x.1.2.1.1 x.1.2.1.2.1 x.1.2.1.2.2.1 x.1.2.1.2.2.2.1 x.1.2.1.2.2.2.2.1 x.1.2.2.1.1 x.1.2.2.1.2.1 x.1.2.2.1.2.2.1 x.1.2.2.1.2.2.2.1 x.1.2.2.1.2.2.2.2.1)∧(S.wJ.ok X0 fun x=>M.yY n x.1.1.1 x.1.1.2.1 x.1.2.1 x.1.2.2.1.1 x.1.2.2.1.2.1 x.1.2.2.1.2.2.1 x.1.2.2.1.2.2.2.1 x.1.2.2.1.2.2.2.2.1)
 |0=>⟨fH.zero,fH.zero,fH.zero,fH.zero,fH.zero,fH.zero⟩
 |n+1=>have h:=C.jZ n;⟨C.adi h.2.2.2.2.2,C.Zi h.1,C.XU h.2.1,C.V4 h.2.2.2.2.2,C.abD h.1,C.ZE h.2.2.1 h.2.2.2.1 h.1 h.2.1 h.2.2.2.2.1⟩
theorem C.eH:S.eH.ok X0 fun x=>M.eH x.1.1.1 x.1.1.2.1 x.1.2.1 x.1.2.2.1.1 x.1.2.2.1.2.1 x.1.2.2.1.2.2.1 x.1.2.2.1.2.2.2.1 x.1.2.2.1.2.2.2.2.1:=fH.lim fun n=>(C.jZ n).1
theorem M.adl{n:Nat}{w:ak}{w1:Bool}{i p:Int}{p1 p2 p3 p4:Bool}{r:ak}(h:M.oV n w w1 i p p1 p2 p3 p4=some r):M.eH w w1 i p p1 p2 p3 p4=some r:=
 fH.EJ (fun n=>(C.jZ n).1) (by intro a b h;simp[S.eH,sg] at h;first|exact h|simp[Prod.ext_iff,h]) (x:=(((w,w1,()),i,(p,p1,p2,p3,p4,()),()),())) h
theorem C.jd:S.jd.ok X0 fun x=>M.jd x.1.1.1 x.1.1.2.1 x.1.2.1 x.1.2.2.1.1 x.1.2.2.1.2.1 x.1.2.2.1.2.2.1 x.1.2.2.1.2.2.2.1 x.1.2.2.1.2.2.2.2.1:=fH.lim fun n=>(C.jZ n).2.1
theorem M.ZH{n:Nat}{w:ak}{w1:Bool}{kids:ak}{p:Int}{p1 p2 p3 p4:Bool}{r:ak}(h:M.uZ n w w1 kids p p1 p2 p3 p4=some r):M.jd w w1 kids p p1 p2 p3 p4=some r:=
 fH.EJ (fun n=>(C.jZ n).2.1) (by intro a b h;simp[S.jd,sg] at h;first|exact h|simp[Prod.ext_iff,h]) (x:=(((w,w1,()),kids,(p,p1,p2,p3,p4,()),()),())) h
theorem C.yg:S.yg.ok X0 fun x=>M.yg x.1.1.1 x.1.1.2.1 x.1.2.1.1 x.1.2.1.2.1 x.1.2.1.2.2.1 x.1.2.1.2.2.2.1 x.1.2.1.2.2.2.2.1 x.1.2.2.1 x.1.2.2.2.1:=fH.lim fun n=>(C.jZ n).2.2.1
theorem C.uP:S.uP.ok X0 fun x=>M.uP x.1.1.1 x.1.1.2.1 x.1.2.1:=fH.lim fun n=>(C.jZ n).2.2.2.1
theorem C.Di:S.Di.ok X0 fun x=>M.Di x.1.1.1 x.1.1.2.1 x.1.2.1.1 x.1.2.1.2.1 x.1.2.1.2.2.1 x.1.2.1.2.2.2.1 x.1.2.1.2.2.2.2.1 x.1.2.2.1.1 x.1.2.2.1.2.1 x.1.2.2.1.2.2.1 x.1.2.2.1.2.2.2.1 x.1.2.2.1.2.2.2.2.1:=fH.lim fun n=>(C.jZ n).2.2.2.2.1
theorem C.wJ:S.wJ.ok X0 fun x=>M.wJ x.1.1.1 x.1.1.2.1 x.1.2.1 x.1.2.2.1.1 x.1.2.2.1.2.1 x.1.2.2.1.2.2.1 x.1.2.2.1.2.2.2.1 x.1.2.2.1.2.2.2.2.1:=fH.lim fun n=>(C.jZ n).2.2.2.2.2
def M.FC{R:Type}(w:ak)(w1:Bool)(n' gq:Int)(iT iG:aF)(iF:ak)(k:ak→Option R):Option R:=
 bif gq==1 then
 ((M.aJ [112,114,105,110,116,102]).bind fun agx=>
 (bif !iG==[] then
 ((cut iF 0 (IntKind.i64.wrap ((↑iF.length:Int) - 1))).bind fun anl=>
 (bif decide ((↑anl.length:Int)>0) then
 ((M.aJ [32]).bind fun aCM=>
 ((M.jd w w1 anl 1 false false true false).bind fun aCN=>
 (bif !iG==[] then
 (bif(1+iG.length).ble 9223372036854775807 then
 (bif(([32]++iG).length+1).ble 9223372036854775807 then
 ((M.aJ ([32]++iG++[32])).bind fun aQs=>
 ((idx iF (IntKind.i64.wrap ((↑iF.length:Int) - 1))).bind fun axe=>
 ((dn .i64 axe 0).bind fun aQt=>
 ((M.eH w w1 aQt 9 false false false false).bind fun aQu=>
 ((M.aT 6 0 (aA ([[D.sl true 4 agx]]++[[D.sl true 4 aCM],[D.sl true 4 aCN]]++[[D.sl true 4 aQs],[D.sl true 4 aQu]]))).bind fun aCO=>(bif[[D.sl true 4 aCO]].all dM then(k aCO) else none)))))) else none) else none) else
 ((M.aT 6 0 (aA ([[D.sl true 4 agx]]++[[D.sl true 4 aCM],[D.sl true 4 aCN]]))).bind fun aCP=>(bif[[D.sl true 4 aCP]].all dM then(k aCP) else none))))) else
 (bif !iG==[] then
 (bif(1+iG.length).ble 9223372036854775807 then
 (bif(([32]++iG).length+1).ble 9223372036854775807 then
 ((M.aJ ([32]++iG++[32])).bind fun aQv=>
 ((idx iF (IntKind.i64.wrap ((↑iF.length:Int) - 1))).bind fun axf=>
 ((dn .i64 axf 0).bind fun aQw=>
 ((M.eH w w1 aQw 9 false false false false).bind fun aQx=>
 ((M.aT 6 0 (aA ([[D.sl true 4 agx]]++[[D.sl true 4 aQv],[D.sl true 4 aQx]]))).bind fun aCQ=>(bif[[D.sl true 4 aCQ]].all dM then(k aCQ) else none)))))) else none) else none) else
 ((M.aT 6 0 (aA [[D.sl true 4 agx]])).bind fun aCR=>(bif[[D.sl true 4 aCR]].all dM then(k aCR) else none))))) else
 (bif decide ((↑iF.length:Int)>0) then
 ((M.aJ [32]).bind fun aCS=>
 ((M.jd w w1 iF 1 false false true false).bind fun aCT=>
 (bif !iG==[] then
 (bif(1+iG.length).ble 9223372036854775807 then
 (bif(([32]++iG).length+1).ble 9223372036854775807 then
 ((M.aJ ([32]++iG++[32])).bind fun aQy=>
 ((idx iF (IntKind.i64.wrap ((↑iF.length:Int) - 1))).bind fun axg=>
 ((dn .i64 axg 0).bind fun aQz=>
 ((M.eH w w1 aQz 9 false false false false).bind fun aQA=>
 ((M.aT 6 0 (aA ([[D.sl true 4 agx]]++[[D.sl true 4 aCS],[D.sl true 4 aCT]]++[[D.sl true 4 aQy],[D.sl true 4 aQA]]))).bind fun aCU=>(bif[[D.sl true 4 aCU]].all dM then(k aCU) else none)))))) else none) else none) else
 ((M.aT 6 0 (aA ([[D.sl true 4 agx]]++[[D.sl true 4 aCS],[D.sl true 4 aCT]]))).bind fun aCV=>(bif[[D.sl true 4 aCV]].all dM then(k aCV) else none))))) else
 (bif !iG==[] then
 (bif(1+iG.length).ble 9223372036854775807 then
 (bif(([32]++iG).length+1).ble 9223372036854775807 then
 ((M.aJ ([32]++iG++[32])).bind fun aQB=>
 ((idx iF (IntKind.i64.wrap ((↑iF.length:Int) - 1))).bind fun axh=>
 ((dn .i64 axh 0).bind fun aQC=>
 ((M.eH w w1 aQC 9 false false false false).bind fun aQD=>
 ((M.aT 6 0 (aA ([[D.sl true 4 agx]]++[[D.sl true 4 aQB],[D.sl true 4 aQD]]))).bind fun aCW=>(bif[[D.sl true 4 aCW]].all dM then(k aCW) else none)))))) else none) else none) else
 ((M.aT 6 0 (aA [[D.sl true 4 agx]])).bind fun aCX=>(bif[[D.sl true 4 aCX]].all dM then(k aCX) else none)))))) else
 ((M.aJ [112,114,105,110,116]).bind fun agy=>
 (bif !iG==[] then
 ((cut iF 0 (IntKind.i64.wrap ((↑iF.length:Int) - 1))).bind fun anm=>
 (bif decide ((↑anm.length:Int)>0) then
 ((M.aJ [32]).bind fun aCY=>
 ((M.jd w w1 anm 1 false false true false).bind fun aCZ=>
 (bif !iG==[] then
 (bif(1+iG.length).ble 9223372036854775807 then
 (bif(([32]++iG).length+1).ble 9223372036854775807 then
 ((M.aJ ([32]++iG++[32])).bind fun aQE=>
 ((idx iF (IntKind.i64.wrap ((↑iF.length:Int) - 1))).bind fun axi=>
 ((dn .i64 axi 0).bind fun aQF=>
 ((M.eH w w1 aQF 9 false false false false).bind fun aQG=>
 ((M.aT 6 0 (aA ([[D.sl true 4 agy]]++[[D.sl true 4 aCY],[D.sl true 4 aCZ]]++[[D.sl true 4 aQE],[D.sl true 4 aQG]]))).bind fun aC0=>(bif[[D.sl true 4 aC0]].all dM then(k aC0) else none)))))) else none) else none) else
 ((M.aT 6 0 (aA ([[D.sl true 4 agy]]++[[D.sl true 4 aCY],[D.sl true 4 aCZ]]))).bind fun aC1=>(bif[[D.sl true 4 aC1]].all dM then(k aC1) else none))))) else
 (bif !iG==[] then
 (bif(1+iG.length).ble 9223372036854775807 then
 (bif(([32]++iG).length+1).ble 9223372036854775807 then
 ((M.aJ ([32]++iG++[32])).bind fun aQH=>
 ((idx iF (IntKind.i64.wrap ((↑iF.length:Int) - 1))).bind fun axj=>
 ((dn .i64 axj 0).bind fun aQI=>
 ((M.eH w w1 aQI 9 false false false false).bind fun aQJ=>
 ((M.aT 6 0 (aA ([[D.sl true 4 agy]]++[[D.sl true 4 aQH],[D.sl true 4 aQJ]]))).bind fun aC2=>(bif[[D.sl true 4 aC2]].all dM then(k aC2) else none)))))) else none) else none) else
 ((M.aT 6 0 (aA [[D.sl true 4 agy]])).bind fun aC3=>(bif[[D.sl true 4 aC3]].all dM then(k aC3) else none))))) else
 (bif decide ((↑iF.length:Int)>0) then
 ((M.aJ [32]).bind fun aC4=>
 ((M.jd w w1 iF 1 false false true false).bind fun aC5=>
 (bif !iG==[] then
 (bif(1+iG.length).ble 9223372036854775807 then
 (bif(([32]++iG).length+1).ble 9223372036854775807 then
 ((M.aJ ([32]++iG++[32])).bind fun aQK=>
 ((idx iF (IntKind.i64.wrap ((↑iF.length:Int) - 1))).bind fun axk=>
 ((dn .i64 axk 0).bind fun aQL=>
 ((M.eH w w1 aQL 9 false false false false).bind fun aQM=>
 ((M.aT 6 0 (aA ([[D.sl true 4 agy]]++[[D.sl true 4 aC4],[D.sl true 4 aC5]]++[[D.sl true 4 aQK],[D.sl true 4 aQM]]))).bind fun aC6=>(bif[[D.sl true 4 aC6]].all dM then(k aC6) else none)))))) else none) else none) else
 ((M.aT 6 0 (aA ([[D.sl true 4 agy]]++[[D.sl true 4 aC4],[D.sl true 4 aC5]]))).bind fun aC7=>(bif[[D.sl true 4 aC7]].all dM then(k aC7) else none))))) else
 (bif !iG==[] then
 (bif(1+iG.length).ble 9223372036854775807 then
 (bif(([32]++iG).length+1).ble 9223372036854775807 then
 ((M.aJ ([32]++iG++[32])).bind fun aQN=>
 ((idx iF (IntKind.i64.wrap ((↑iF.length:Int) - 1))).bind fun axl=>
 ((dn .i64 axl 0).bind fun aQO=>
 ((M.eH w w1 aQO 9 false false false false).bind fun aQP=>
 ((M.aT 6 0 (aA ([[D.sl true 4 agy]]++[[D.sl true 4 aQN],[D.sl true 4 aQP]]))).bind fun aC8=>(bif[[D.sl true 4 aC8]].all dM then(k aC8) else none)))))) else none) else none) else
 ((M.aT 6 0 (aA [[D.sl true 4 agy]])).bind fun aC9=>(bif[[D.sl true 4 aC9]].all dM then(k aC9) else none))))))
def M.uh(w:ak)(w1:Bool)(n' gq:Int)(iT iG:aF)(iF:ak):Option (ak):=M.FC w w1 n' gq iT iG iF some
theorem C.uh:S.uh.ok X0 fun x=>M.uh x.1.1.1 x.1.1.2.1 x.1.2.1.1 x.1.2.1.2.1 x.1.2.1.2.2.1 x.1.2.1.2.2.2.1 x.1.2.1.2.2.2.2.1:=fnS (fun x=>M.FC x.1.1.1 x.1.1.2.1 x.1.2.1.1 x.1.2.1.2.1 x.1.2.1.2.2.1 x.1.2.1.2.2.2.1 x.1.2.1.2.2.2.2.1) [fe C.aJ,fe C.jd,fe C.eH,fe C.aT] [] (by intros;unfold M.FC;repeat' first|with_reducible apply gG|with_reducible apply Gp|with_reducible apply Gq|with_reducible apply Gs|with_reducible apply Gt|(intro _)|apply gG|rfl)
def M.Ip{R:Type}(w:ak)(w1:Bool)(i:Int)(k:ak→Option R):Option R:=
 (idx w i).bind fun axn=>
 ((dn .i64 axn 0).bind fun aQQ=>
 (bif aQQ==16 then((M.aJ []).bind fun aQR=>(k aQR)) else
 ((M.aJ [32]).bind fun aQS=>
 (M.gJ.bind fun aqV=>
 ((M.eH w w1 i aqV.1 aqV.2.1 aqV.2.2.1 aqV.2.2.2.1 aqV.2.2.2.2).bind fun aQT=>
 ((M.aT 6 0 (aA [[D.sl true 4 aQS],[D.sl true 4 aQT]])).bind fun aDa=>(bif[[D.sl true 4 aDa]].all dM then(k aDa) else none)))))))
def M.lX(w:ak)(w1:Bool)(i:Int):Option (ak):=M.Ip w w1 i some
theorem C.lX:S.lX.ok X0 fun x=>M.lX x.1.1.1 x.1.1.2.1 x.1.2.1:=fnS (fun x=>M.Ip x.1.1.1 x.1.1.2.1 x.1.2.1) [fe C.aJ,fe C.gJ,fe C.eH,fe C.aT] [] (by intros;unfold M.Ip;repeat' first|with_reducible apply gG|with_reducible apply Gp|with_reducible apply Gq|with_reducible apply Gs|with_reducible apply Gt|(intro _)|apply gG|rfl)
def M.Iq{R:Type}(w:ak)(w1:Bool)(s':aF)(kids:ak)(k:ak→Option R):Option R:=
 bif(↑kids.length:Int)==0 then((M.aJ s').bind fun aQU=>(k aQU)) else
 ((M.aJ s').bind fun aQV=>
 ((idx kids 0).bind fun axo=>
 ((dn .i64 axo 0).bind fun aQW=>
 ((M.lX w w1 aQW).bind fun aQX=>
 ((M.aT 6 0 (aA [[D.sl true 4 aQV],[D.sl true 4 aQX]])).bind fun aDb=>(bif[[D.sl true 4 aDb]].all dM then(k aDb) else none))))))
def M.tV(w:ak)(w1:Bool)(s':aF)(kids:ak):Option (ak):=M.Iq w w1 s' kids some
theorem C.tV:S.tV.ok X0 fun x=>M.tV x.1.1.1 x.1.1.2.1 x.1.2.1 x.1.2.2.1:=fnS (fun x=>M.Iq x.1.1.1 x.1.1.2.1 x.1.2.1 x.1.2.2.1) [fe C.aJ,fe C.lX,fe C.aT] [] (by intros;unfold M.Iq;repeat' first|with_reducible apply gG|with_reducible apply Gp|with_reducible apply Gq|with_reducible apply Gs|with_reducible apply Gt|(intro _)|apply gG|rfl)
def M.Gw{R:Type}(aK:ak→Bool→Int→Option (ak))(x':ak)(uJ:Bool)(xX CV:Int)(zC Rf:aF)(LV:ak)(s:Int×ak)(kn:Int×ak→Option R)(ke:Int×ak→Option R):Option R:=match s with
 |(k',ES)=>
 bif decide (k'<(↑LV.length:Int)) then
 ((idx LV k').bind fun axp=>
 ((dn .i64 axp 0).bind fun aQY=>
 ((idx x' aQY).bind fun axq=>
 ((dn .i64 axq 0).bind fun aoM=>
 (bif decide (k'>0) then
 (bif aoM==33 then
 ((M.aJ [32]).bind fun agz=>
 (bif((ES.length+[[D.sl true 4 agz]].length) * 24).ble 140737488355328 then
 (bif(ES.length+[[D.sl true 4 agz]].length).ble 140737488355328 then
 (bif aoM==33 then
 ((idx LV k').bind fun axr=>
 ((dn .i64 axr 0).bind fun aQZ=>
 ((aK x' uJ aQZ).bind fun axt=>
 (bif(((ES++[[D.sl true 4 agz]]).length+[[D.sl true 4 axt]].length) * 24).ble 140737488355328 then
 (bif((ES++[[D.sl true 4 agz]]).length+[[D.sl true 4 axt]].length).ble 140737488355328 then(kn ((IntKind.i64.wrap (k'+1),ES++[[D.sl true 4 agz]]++[[D.sl true 4 axt]]))) else none) else none)))) else
 ((idx LV k').bind fun axu=>
 ((dn .i64 axu 0).bind fun aQ0=>
 (M.gJ.bind fun aqW=>
 ((M.eH x' uJ aQ0 aqW.1 aqW.2.1 aqW.2.2.1 aqW.2.2.2.1 aqW.2.2.2.2).bind fun axv=>
 (bif(((ES++[[D.sl true 4 agz]]).length+[[D.sl true 4 axv]].length) * 24).ble 140737488355328 then
 (bif((ES++[[D.sl true 4 agz]]).length+[[D.sl true 4 axv]].length).ble 140737488355328 then(kn ((IntKind.i64.wrap (k'+1),ES++[[D.sl true 4 agz]]++[[D.sl true 4 axv]]))) else none) else none)))))) else none) else none)) else
 (bif decide (k'>0) then
 ((M.aJ [44,32]).bind fun agA=>
 (bif((ES.length+[[D.sl true 4 agA]].length) * 24).ble 140737488355328 then
 (bif(ES.length+[[D.sl true 4 agA]].length).ble 140737488355328 then
 (bif aoM==33 then
 ((idx LV k').bind fun axw=>
 ((dn .i64 axw 0).bind fun aQ1=>
 ((aK x' uJ aQ1).bind fun axx=>
 (bif(((ES++[[D.sl true 4 agA]]).length+[[D.sl true 4 axx]].length) * 24).ble 140737488355328 then
 (bif((ES++[[D.sl true 4 agA]]).length+[[D.sl true 4 axx]].length).ble 140737488355328 then(kn ((IntKind.i64.wrap (k'+1),ES++[[D.sl true 4 agA]]++[[D.sl true 4 axx]]))) else none) else none)))) else
 ((idx LV k').bind fun axy=>
 ((dn .i64 axy 0).bind fun aQ2=>
 (M.gJ.bind fun aqX=>
 ((M.eH x' uJ aQ2 aqX.1 aqX.2.1 aqX.2.2.1 aqX.2.2.2.1 aqX.2.2.2.2).bind fun axz=>
 (bif(((ES++[[D.sl true 4 agA]]).length+[[D.sl true 4 axz]].length) * 24).ble 140737488355328 then
 (bif((ES++[[D.sl true 4 agA]]).length+[[D.sl true 4 axz]].length).ble 140737488355328 then(kn ((IntKind.i64.wrap (k'+1),ES++[[D.sl true 4 agA]]++[[D.sl true 4 axz]]))) else none) else none)))))) else none) else none)) else
 (bif aoM==33 then
 ((idx LV k').bind fun axA=>
 ((dn .i64 axA 0).bind fun aQ3=>
 ((aK x' uJ aQ3).bind fun axB=>
 (bif((ES.length+[[D.sl true 4 axB]].length) * 24).ble 140737488355328 then
 (bif(ES.length+[[D.sl true 4 axB]].length).ble 140737488355328 then(kn ((IntKind.i64.wrap (k'+1),ES++[[D.sl true 4 axB]]))) else none) else none)))) else
 ((idx LV k').bind fun axC=>
 ((dn .i64 axC 0).bind fun aQ4=>
 (M.gJ.bind fun aqY=>
 ((M.eH x' uJ aQ4 aqY.1 aqY.2.1 aqY.2.2.1 aqY.2.2.2.1 aqY.2.2.2.2).bind fun axD=>
 (bif((ES.length+[[D.sl true 4 axD]].length) * 24).ble 140737488355328 then
 (bif(ES.length+[[D.sl true 4 axD]].length).ble 140737488355328 then(kn ((IntKind.i64.wrap (k'+1),ES++[[D.sl true 4 axD]]))) else none) else none)))))))) else
 (bif decide (k'>0) then
 ((M.aJ [44,32]).bind fun agB=>
 (bif((ES.length+[[D.sl true 4 agB]].length) * 24).ble 140737488355328 then
 (bif(ES.length+[[D.sl true 4 agB]].length).ble 140737488355328 then
 (bif aoM==33 then
 ((idx LV k').bind fun axE=>
 ((dn .i64 axE 0).bind fun aQ5=>
 ((aK x' uJ aQ5).bind fun axF=>
 (bif(((ES++[[D.sl true 4 agB]]).length+[[D.sl true 4 axF]].length) * 24).ble 140737488355328 then
 (bif((ES++[[D.sl true 4 agB]]).length+[[D.sl true 4 axF]].length).ble 140737488355328 then(kn ((IntKind.i64.wrap (k'+1),ES++[[D.sl true 4 agB]]++[[D.sl true 4 axF]]))) else none) else none)))) else
 ((idx LV k').bind fun axG=>
 ((dn .i64 axG 0).bind fun aQ6=>
 (M.gJ.bind fun aqZ=>
 ((M.eH x' uJ aQ6 aqZ.1 aqZ.2.1 aqZ.2.2.1 aqZ.2.2.2.1 aqZ.2.2.2.2).bind fun axH=>
 (bif(((ES++[[D.sl true 4 agB]]).length+[[D.sl true 4 axH]].length) * 24).ble 140737488355328 then
 (bif((ES++[[D.sl true 4 agB]]).length+[[D.sl true 4 axH]].length).ble 140737488355328 then(kn ((IntKind.i64.wrap (k'+1),ES++[[D.sl true 4 agB]]++[[D.sl true 4 axH]]))) else none) else none)))))) else none) else none)) else
 (bif aoM==33 then
 ((idx LV k').bind fun axI=>
 ((dn .i64 axI 0).bind fun aQ7=>
 ((aK x' uJ aQ7).bind fun axJ=>
 (bif((ES.length+[[D.sl true 4 axJ]].length) * 24).ble 140737488355328 then
 (bif(ES.length+[[D.sl true 4 axJ]].length).ble 140737488355328 then(kn ((IntKind.i64.wrap (k'+1),ES++[[D.sl true 4 axJ]]))) else none) else none)))) else
 ((idx LV k').bind fun axK=>
 ((dn .i64 axK 0).bind fun aQ8=>
 (M.gJ.bind fun aq0=>
 ((M.eH x' uJ aQ8 aq0.1 aq0.2.1 aq0.2.2.1 aq0.2.2.2.1 aq0.2.2.2.2).bind fun axL=>
 (bif((ES.length+[[D.sl true 4 axL]].length) * 24).ble 140737488355328 then
 (bif(ES.length+[[D.sl true 4 axL]].length).ble 140737488355328 then(kn ((IntKind.i64.wrap (k'+1),ES++[[D.sl true 4 axL]]))) else none) else none)))))))))))) else(ke ((k',ES)))
def M.U7(aK:ak→Bool→Int→Option (ak))(x':ak)(uJ:Bool)(xX CV:Int)(zC Rf:aF)(LV:ak)(s:Int×ak):=M.Gw aK x' uJ xX CV zC Rf LV s (fun s=>some (Sum.inl s)) fun t=>some (Sum.inr t)
def M.JD(aK:ak→Bool→Int→Option (ak))(x':ak)(uJ:Bool)(xX CV:Int)(zC Rf:aF)(LV:ak)(s:Int×ak):Option (Int×ak):=iR (M.U7 aK x' uJ xX CV zC Rf LV) s
def F.JD{aK:ak→Bool→Int→Option (ak)}(jh:S.kP.ok X0 fun x=>aK x.1.1.1 x.1.1.2.1 x.1.2.1):LE X0 98:=le 3 (La [fU 2 (pP 300000 0),fU 3 (pP 300001 0),fU 5 (pO 300002 0),fU 6 pI] [fU 300000 (cB 45 [pL false 5,pB]),fU 300001 (cB 42 [pI,pI,pS,pS,pL false 1]),fU 300002 (cA false false 0 1)]) (fun x=>(x.1.2.2.2.1,x.2.2.2.1)) (fun x s=>(((),(),(),s.1,()),((x.2.1.1,x.2.1.2.1,()),(x.2.2.1.1,x.2.2.1.2.1,x.2.2.1.2.2.1,x.2.2.1.2.2.2.1,x.2.2.1.2.2.2.2.1,()),s.2,()))) (fun x=> .leaf (Int×ak) (fun t=>(Ex.exit 0,{tm:=[(2,V.ptr 300000 0),(3,V.ptr 300001 0),(5,V.own 300002 0),(6,V.d (D.int .i64 t.1)),(13,V.d (D.bool false))],mem:=[(300000,Cell.box 45 [V.d (D.sl false 5 x.2.1.1),V.d (D.bool x.2.1.2.1)]),(300001,Cell.box 42 [V.d (D.int .i64 x.2.2.1.1),V.d (D.int .i64 x.2.2.1.2.1),V.d (D.str x.2.2.1.2.2.1),V.d (D.str x.2.2.1.2.2.2.1),V.d (D.sl false 1 x.2.2.1.2.2.2.2.1)]),(300002,Cell.arr false false 0 1 t.2)]}))) (fun x=>M.Gw aK x.2.1.1 x.2.1.2.1 x.2.2.1.1 x.2.2.1.2.1 x.2.2.1.2.2.1 x.2.2.1.2.2.2.1 x.2.2.1.2.2.2.2.1) [fe C.aJ,fe jh,fe C.gJ,fe C.eH] [] (by rintro _ _ ⟨_,_⟩ _ _<;>unfold M.Gw<;>repeat' first|with_reducible apply gG|with_reducible apply Gp|with_reducible apply Gq|with_reducible apply Gs|with_reducible apply Gt|(intro _)|apply gG|rfl)
def M.FD{R:Type}(aK:ak→Bool→Int→Option (ak))(w:ak)(w1:Bool)(n' gq:Int)(iT iG:aF)(iF:ak)(k:ak→Option R):Option R:=
 (M.JD aK w w1 n' gq iT iG iF ((0,[]))).bind fun aQ9=>
 ((M.aT 6 0 (aA aQ9.2)).bind fun aDc=>(bif[[D.sl true 4 aDc]].all dM then(k aDc) else none))
theorem C.X5{aK:ak→Bool→Int→Option (ak)}(jh:S.kP.ok X0 fun x=>aK x.1.1.1 x.1.1.2.1 x.1.2.1):S.yt.ok X0 fun x=>M.FD aK x.1.1.1 x.1.1.2.1 x.1.2.1.1 x.1.2.1.2.1 x.1.2.1.2.2.1 x.1.2.1.2.2.2.1 x.1.2.1.2.2.2.2.1 some:=fnS (fun x=>M.FD aK x.1.1.1 x.1.1.2.1 x.1.2.1.1 x.1.2.1.2.1 x.1.2.1.2.2.1 x.1.2.1.2.2.2.1 x.1.2.1.2.2.2.2.1) [fe C.aT] [F.JD jh] (by intros;unfold M.FD;repeat' first|with_reducible apply gG|with_reducible apply Gp|with_reducible apply Gq|with_reducible apply Gs|with_reducible apply Gt|(intro _)|apply gG|rfl)
def M.Ir{R:Type}(aK:ak→Bool→Int→Option (ak))(m:Int)(x':ak)(uJ:Bool)(xX CV:Int)(zC Rf:aF)(LV:ak)(s:aF×Int)(kn:aF×Int→Option R)(ke:aF×Int→Option R):Option R:=match s with
 |(s',k')=>
 bif decide (k'<m) then
 (bif decide (k'>0) then
 (bif(s'.length+2).ble 9223372036854775807 then
 ((idx LV k').bind fun axM=>
 ((dn .i64 axM 0).bind fun aRa=>
 ((idx x' aRa).bind fun axN=>
 ((cStr axN 2).bind fun aDd=>
 (bif((s'++[44,32]).length+aDd.length).ble 9223372036854775807 then(kn ((s'++[44,32]++aDd,IntKind.i64.wrap (k'+1)))) else none))))) else none) else
 ((idx LV k').bind fun axO=>
 ((dn .i64 axO 0).bind fun aRb=>
 ((idx x' aRb).bind fun axP=>
 ((cStr axP 2).bind fun aDe=>
 (bif(s'.length+aDe.length).ble 9223372036854775807 then(kn ((s'++aDe,IntKind.i64.wrap (k'+1)))) else none)))))) else(ke ((s',k')))
def M.V7(aK:ak→Bool→Int→Option (ak))(m:Int)(x':ak)(uJ:Bool)(xX CV:Int)(zC Rf:aF)(LV:ak)(s:aF×Int):=M.Ir aK m x' uJ xX CV zC Rf LV s (fun s=>some (Sum.inl s)) fun t=>some (Sum.inr t)
def M.Lm(aK:ak→Bool→Int→Option (ak))(m:Int)(x':ak)(uJ:Bool)(xX CV:Int)(zC Rf:aF)(LV:ak)(s:aF×Int):Option (aF×Int):=iR (M.V7 aK m x' uJ xX CV zC Rf LV) s
def F.Lm{aK:ak→Bool→Int→Option (ak)}(jh:S.kP.ok X0 fun x=>aK x.1.1.1 x.1.1.2.1 x.1.2.1):LE X0 99:=le 4 (La [fU 2 (pP 300000 0),fU 3 (pP 300001 0),fU 5 pS,fU 6 pI,fU 7 pI] [fU 300000 (cB 45 [pL false 5,pB]),fU 300001 (cB 42 [pI,pI,pS,pS,pL false 1])]) (fun x=>(x.1.2.2.1,x.1.2.2.2.2.1)) (fun x s=>(((),(),s.1,x.1.2.2.2.1,s.2,()),((x.2.1.1,x.2.1.2.1,()),(x.2.2.1.1,x.2.2.1.2.1,x.2.2.1.2.2.1,x.2.2.1.2.2.2.1,x.2.2.1.2.2.2.2.1,()),()))) (fun x=> .leaf (aF×Int) (fun t=>(Ex.exit 0,{tm:=[(2,V.ptr 300000 0),(3,V.ptr 300001 0),(5,V.d (D.str t.1)),(6,V.d (D.int .i64 x.1.2.2.2.1)),(7,V.d (D.int .i64 t.2)),(18,V.d (D.bool false))],mem:=[(300000,Cell.box 45 [V.d (D.sl false 5 x.2.1.1),V.d (D.bool x.2.1.2.1)]),(300001,Cell.box 42 [V.d (D.int .i64 x.2.2.1.1),V.d (D.int .i64 x.2.2.1.2.1),V.d (D.str x.2.2.1.2.2.1),V.d (D.str x.2.2.1.2.2.2.1),V.d (D.sl false 1 x.2.2.1.2.2.2.2.1)])]}))) (fun x=>M.Ir aK x.1.2.2.2.1 x.2.1.1 x.2.1.2.1 x.2.2.1.1 x.2.2.1.2.1 x.2.2.1.2.2.1 x.2.2.1.2.2.2.1 x.2.2.1.2.2.2.2.1) [] [] (by rintro _ _ ⟨_,_⟩ _ _<;>unfold M.Ir<;>repeat' first|with_reducible apply gG|with_reducible apply Gp|with_reducible apply Gq|with_reducible apply Gs|with_reducible apply Gt|(intro _)|apply gG|rfl)
def M.Iu{R:Type}(aK:ak→Bool→Int→Option (ak))(w:ak)(w1:Bool)(n' gq:Int)(iT iG:aF)(iF:ak)(k:ak→Option R):Option R:=
 bif(9+iT.length).ble 9223372036854775807 then
 (bif(([102,117,110,99,116,105,111,110,32]++iT).length+1).ble 9223372036854775807 then
 ((M.Lm aK (IntKind.i64.wrap ((↑iF.length:Int) - 1)) w w1 n' gq iT iG iF (([102,117,110,99,116,105,111,110,32]++iT++[40],0))).bind fun aDf=>
 (bif(aDf.1.length+2).ble 9223372036854775807 then
 ((M.aJ (aDf.1++[41,32])).bind fun aRc=>
 ((idx iF (IntKind.i64.wrap ((↑iF.length:Int) - 1))).bind fun axQ=>
 ((dn .i64 axQ 0).bind fun aRd=>
 ((aK w w1 aRd).bind fun aRe=>
 ((M.aT 6 0 (aA [[D.sl true 4 aRc],[D.sl true 4 aRe]])).bind fun aDg=>(bif[[D.sl true 4 aDg]].all dM then(k aDg) else none)))))) else none)) else none) else none
theorem C.ZI{aK:ak→Bool→Int→Option (ak)}(jh:S.kP.ok X0 fun x=>aK x.1.1.1 x.1.1.2.1 x.1.2.1):S.zZ.ok X0 fun x=>M.Iu aK x.1.1.1 x.1.1.2.1 x.1.2.1.1 x.1.2.1.2.1 x.1.2.1.2.2.1 x.1.2.1.2.2.2.1 x.1.2.1.2.2.2.2.1 some:=fnS (fun x=>M.Iu aK x.1.1.1 x.1.1.2.1 x.1.2.1.1 x.1.2.1.2.1 x.1.2.1.2.2.1 x.1.2.1.2.2.2.1 x.1.2.1.2.2.2.2.1) [fe C.aJ,fe jh,fe C.aT] [F.Lm jh] (by intros;unfold M.Iu;repeat' first|with_reducible apply gG|with_reducible apply Gp|with_reducible apply Gq|with_reducible apply Gs|with_reducible apply Gt|(intro _)|apply gG|rfl)
def M.yZ{R:Type}(aK:ak→Bool→Int→Option (ak))(su:ak→Bool→Int→Int→aF→aF→ak→Option (ak))(y5:ak→Bool→Int→Int→aF→aF→ak→Option (ak))(y7:ak→Bool→Int→Option (ak))(w:ak)(w1:Bool)(i:Int)(k:ak→Option R):Option R:=
 (idx w i).bind fun abJ=>
 ((dn .i64 abJ 0).bind fun agC=>
 ((dn .i64 abJ 1).bind fun axR=>
 ((cStr abJ 2).bind fun axS=>
 ((cStr abJ 3).bind fun axT=>
 ((BK 1 abJ 4).bind fun V8=>
 (bif agC==40 then
 ((M.aJ [66,69,71,73,78,32]).bind fun aRf=>
 ((idx V8 0).bind fun axU=>
 ((dn .i64 axU 0).bind fun aRg=>
 ((aK w w1 aRg).bind fun aRh=>
 ((M.aT 6 0 (aA [[D.sl true 4 aRf],[D.sl true 4 aRh]])).bind fun aDh=>(bif[[D.sl true 4 aDh]].all dM then(k aDh) else none)))))) else
 (bif agC==41 then
 ((M.aJ [69,78,68,32]).bind fun aRi=>
 ((idx V8 0).bind fun axV=>
 ((dn .i64 axV 0).bind fun aRj=>
 ((aK w w1 aRj).bind fun aRk=>
 ((M.aT 6 0 (aA [[D.sl true 4 aRi],[D.sl true 4 aRk]])).bind fun aDi=>(bif[[D.sl true 4 aDi]].all dM then(k aDi) else none)))))) else
 (bif agC==42 then((su w w1 agC axR axS axT V8).bind fun aRl=>(k aRl)) else
 (bif agC==43 then((su w w1 agC axR axS axT V8).bind fun aRm=>(k aRm)) else
 (bif agC==44 then((y5 w w1 agC axR axS axT V8).bind fun aRn=>(k aRn)) else((y7 w w1 i).bind fun aRo=>(k aRo))))))))))))
theorem C.ZJ{aK:ak→Bool→Int→Option (ak)}{su:ak→Bool→Int→Int→aF→aF→ak→Option (ak)}{y5:ak→Bool→Int→Int→aF→aF→ak→Option (ak)}{y7:ak→Bool→Int→Option (ak)}(jh:S.kP.ok X0 fun x=>aK x.1.1.1 x.1.1.2.1 x.1.2.1)(ZK:S.yt.ok X0 fun x=>su x.1.1.1 x.1.1.2.1 x.1.2.1.1 x.1.2.1.2.1 x.1.2.1.2.2.1 x.1.2.1.2.2.2.1 x.1.2.1.2.2.2.2.1)(abK:S.zZ.ok X0 fun x=>y5 x.1.1.1 x.1.1.2.1 x.1.2.1.1 x.1.2.1.2.1 x.1.2.1.2.2.1 x.1.2.1.2.2.2.1 x.1.2.1.2.2.2.2.1)(abL:S.oM.ok X0 fun x=>y7 x.1.1.1 x.1.1.2.1 x.1.2.1):S.wL.ok X0 fun x=>M.yZ aK su y5 y7 x.1.1.1 x.1.1.2.1 x.1.2.1 some:=fnS (fun x=>M.yZ aK su y5 y7 x.1.1.1 x.1.1.2.1 x.1.2.1) [fe C.aJ,fe jh,fe C.aT,fe ZK,fe abK,fe abL] [] (by intros;unfold M.yZ;repeat' first|with_reducible apply gG|with_reducible apply Gp|with_reducible apply Gq|with_reducible apply Gs|with_reducible apply Gt|(intro _)|apply gG|rfl)
def M.xw{R:Type}(je:ak→Bool→Int→Option (ak))(kids x':ak)(uJ:Bool)(s:Int×ak)(kn:Int×ak→Option R)(ke:Int×ak→Option R):Option R:=match s with
 |(k',xX)=>
 bif decide (k'<(↑kids.length:Int)) then
 ((idx kids k').bind fun axW=>
 ((dn .i64 axW 0).bind fun aRp=>
 ((je x' uJ aRp).bind fun axX=>
 (bif((xX.length+[[D.sl true 4 axX]].length) * 24).ble 140737488355328 then
 (bif(xX.length+[[D.sl true 4 axX]].length).ble 140737488355328 then(kn ((IntKind.i64.wrap (k'+1),xX++[[D.sl true 4 axX]]))) else none) else none)))) else(ke ((k',xX)))
def M.Cb(je:ak→Bool→Int→Option (ak))(kids x':ak)(uJ:Bool)(s:Int×ak):=M.xw je kids x' uJ s (fun s=>some (Sum.inl s)) fun t=>some (Sum.inr t)
def M.FH(je:ak→Bool→Int→Option (ak))(kids x':ak)(uJ:Bool)(s:Int×ak):Option (Int×ak):=iR (M.Cb je kids x' uJ) s
def F.FH{je:ak→Bool→Int→Option (ak)}(Np:S.wL.ok X0 fun x=>je x.1.1.1 x.1.1.2.1 x.1.2.1):LE X0 115:=le 3 (La [fU 1 (pL false 1),fU 2 (pP 300000 0),fU 5 (pO 300001 0),fU 6 pI] [fU 300000 (cB 45 [pL false 5,pB]),fU 300001 (cA false false 0 1)]) (fun x=>(x.1.2.2.2.1,x.2.2.1)) (fun x s=>((x.1.1,(),(),s.1,()),((x.2.1.1,x.2.1.2.1,()),s.2,()))) (fun x=> .leaf (Int×ak) (fun t=>(Ex.exit 0,{tm:=[(1,V.d (D.sl false 1 x.1.1)),(2,V.ptr 300000 0),(5,V.own 300001 0),(6,V.d (D.int .i64 t.1)),(11,V.d (D.bool false))],mem:=[(300000,Cell.box 45 [V.d (D.sl false 5 x.2.1.1),V.d (D.bool x.2.1.2.1)]),(300001,Cell.arr false false 0 1 t.2)]}))) (fun x=>M.xw je x.1.1 x.2.1.1 x.2.1.2.1) [fe Np] [] (by rintro _ _ ⟨_,_⟩ _ _<;>unfold M.xw<;>repeat' first|with_reducible apply gG|with_reducible apply Gp|with_reducible apply Gq|with_reducible apply Gs|with_reducible apply Gt|(intro _)|apply gG|rfl)
def M.y8{R:Type}(je:ak→Bool→Int→Option (ak))(w:ak)(w1:Bool)(kids:ak)(k:ak→Option R):Option R:=
 (M.FH je kids w w1 ((0,[]))).bind fun aRq=>(k aRq.2)
theorem C.ZL{je:ak→Bool→Int→Option (ak)}(Np:S.wL.ok X0 fun x=>je x.1.1.1 x.1.1.2.1 x.1.2.1):S.Aa.ok X0 fun x=>M.y8 je x.1.1.1 x.1.1.2.1 x.1.2.1 some:=fnS (fun x=>M.y8 je x.1.1.1 x.1.1.2.1 x.1.2.1) [] [F.FH Np] (by intros;unfold M.y8;repeat' first|with_reducible apply gG|with_reducible apply Gp|with_reducible apply Gq|with_reducible apply Gs|with_reducible apply Gt|(intro _)|apply gG|rfl)
def M.Iw{R:Type}(k:ak→Option R):Option R:=
 k ([[D.int .i64 3,D.int .i64 0,D.str [],D.sl true 1 []]])
def M.qO:Option (ak):=M.Iw some
theorem C.qO:S.qO.ok X0 fun x=>M.qO:=fnS (fun x=>M.Iw) [] [] (by intros;simp only[M.Iw,nb]<;>rfl)
def M.vg{R:Type}(parts:ak)(s:Int×ak)(kn:Int×ak→Option R)(ke:Int×ak→Option R):Option R:=match s with
 |(k',x')=>
 bif decide (k'<(↑parts.length:Int)) then
 (M.qO.bind fun axY=>
 ((idx parts k').bind fun axZ=>
 ((BK 4 axZ 0).bind fun afh=>
 (bif((x'.length+[[D.sl true 4 axY],[D.sl false 4 afh]].length) * 24).ble 140737488355328 then
 (bif(x'.length+[[D.sl true 4 axY],[D.sl false 4 afh]].length).ble 140737488355328 then(kn ((IntKind.i64.wrap (k'+1),x'++[[D.sl true 4 axY],[D.sl false 4 afh]]))) else none) else none)))) else(ke ((k',x')))
def M.Ak(parts:ak)(s:Int×ak):=M.vg parts s (fun s=>some (Sum.inl s)) fun t=>some (Sum.inr t)
def M.Eb(parts:ak)(s:Int×ak):Option (Int×ak):=iR (M.Ak parts) s
def F.Eb:LE X0 114:=le 3 (La [fU 0 (pL false 1),fU 3 (pO 300000 0),fU 4 pI] [fU 300000 (cA false false 0 1)]) (fun x=>(x.1.2.2.1,x.2.1)) (fun x s=>((x.1.1,(),s.1,()),(s.2,()))) (fun x=> .leaf (Int×ak) (fun t=>(Ex.exit 0,{tm:=[(0,V.d (D.sl false 1 x.1.1)),(3,V.own 300000 0),(4,V.d (D.int .i64 t.1)),(9,V.d (D.bool false))],mem:=[(300000,Cell.arr false false 0 1 t.2)]}))) (fun x=>M.vg x.1.1) [fe C.qO] [] (by rintro _ _ ⟨_,_⟩ _ _<;>simp only[M.vg,nb]<;>rfl)
def M.FI{R:Type}(parts:ak)(k:ak→Option R):Option R:=
 (M.Eb parts ((0,[]))).bind fun aRr=>
 ((M.aT 6 0 (aA aRr.2)).bind fun aDj=>(bif[[D.sl true 4 aDj]].all dM then(k aDj) else none))
def M.uj(parts:ak):Option (ak):=M.FI parts some
theorem C.uj:S.uj.ok X0 fun x=>M.uj x.1.1:=fnS (fun x=>M.FI x.1.1) [fe C.aT] [F.Eb] (by intros;simp only[M.FI,nb]<;>rfl)
def M.vX{R:Type}(y9:ak→Bool→ak→Option (ak))(w:ak)(w1:Bool)(i:Int)(k:ak→Option R):Option R:=
 (M.aJ [123]).bind fun aRs=>
 ((idx w i).bind fun ax0=>
 ((BK 1 ax0 4).bind fun auf=>
 ((y9 w w1 auf).bind fun aRt=>
 ((M.uj (aA aRt)).bind fun aDk=>
 (bif[[D.sl true 4 aDk]].all dM then
 ((M.aT 4 4 (aA [[D.sl true 4 aDk]])).bind fun aDl=>
 (bif[[D.sl true 4 aDl]].all dM then
 (M.qO.bind fun aRu=>
 ((M.aJ [125]).bind fun aRv=>
 ((M.aT 6 0 (aA [[D.sl true 4 aRs],[D.sl true 4 aDl],[D.sl true 4 aRu],[D.sl true 4 aRv]])).bind fun aDm=>(bif[[D.sl true 4 aDm]].all dM then(k aDm) else none)))) else none)) else none)))))
theorem C.X6{y9:ak→Bool→ak→Option (ak)}(abM:S.Aa.ok X0 fun x=>y9 x.1.1.1 x.1.1.2.1 x.1.2.1):S.kP.ok X0 fun x=>M.vX y9 x.1.1.1 x.1.1.2.1 x.1.2.1 some:=fnS (fun x=>M.vX y9 x.1.1.1 x.1.1.2.1 x.1.2.1) [fe C.aJ,fe abM,fe C.uj,fe C.aT,fe C.qO] [] (by intros;unfold M.vX;repeat' first|with_reducible apply gG|with_reducible apply Gp|with_reducible apply Gq|with_reducible apply Gs|with_reducible apply Gt|(intro _)|apply gG|rfl)
def M.Am{R:Type}(aK:ak→Bool→Int→Option (ak))(w:ak)(w1:Bool)(n' gq:Int)(iT iG:aF)(iF:ak)(k:ak→Option R):Option R:=
 (M.aJ [105,102,32,40]).bind fun aRw=>
 ((idx iF 0).bind fun ax1=>
 ((dn .i64 ax1 0).bind fun aRx=>
 (M.gJ.bind fun aq1=>
 ((M.eH w w1 aRx aq1.1 aq1.2.1 aq1.2.2.1 aq1.2.2.2.1 aq1.2.2.2.2).bind fun aRy=>
 ((M.aJ [41,32]).bind fun aRz=>
 ((idx iF 1).bind fun ax2=>
 ((dn .i64 ax2 0).bind fun aRA=>
 ((aK w w1 aRA).bind fun aRB=>
 ((M.aT 6 0 (aA [[D.sl true 4 aRw],[D.sl true 4 aRy],[D.sl true 4 aRz],[D.sl true 4 aRB]])).bind fun ax3=>
 (bif[[D.sl true 4 ax3]].all dM then
 (bif(↑iF.length:Int)==2 then(k ax3) else
 ((M.aJ [32,101,108,115,101,32]).bind fun aRC=>
 ((idx iF 2).bind fun ax4=>
 ((dn .i64 ax4 0).bind fun aRD=>
 ((aK w w1 aRD).bind fun aRE=>
 ((M.aT 6 0 (aA [[D.sl true 4 ax3],[D.sl true 4 aRC],[D.sl true 4 aRE]])).bind fun aDn=>(bif[[D.sl true 4 aDn]].all dM then(k aDn) else none))))))) else none))))))))))
theorem C.adn{aK:ak→Bool→Int→Option (ak)}(jh:S.kP.ok X0 fun x=>aK x.1.1.1 x.1.1.2.1 x.1.2.1):S.Gv.ok X0 fun x=>M.Am aK x.1.1.1 x.1.1.2.1 x.1.2.1.1 x.1.2.1.2.1 x.1.2.1.2.2.1 x.1.2.1.2.2.2.1 x.1.2.1.2.2.2.2.1 some:=fnS (fun x=>M.Am aK x.1.1.1 x.1.1.2.1 x.1.2.1.1 x.1.2.1.2.1 x.1.2.1.2.2.1 x.1.2.1.2.2.2.1 x.1.2.1.2.2.2.2.1) [fe C.aJ,fe C.gJ,fe C.eH,fe jh,fe C.aT] [] (by intros;unfold M.Am;repeat' first|with_reducible apply gG|with_reducible apply Gp|with_reducible apply Gq|with_reducible apply Gs|with_reducible apply Gt|(intro _)|apply gG|rfl)
def M.yx{R:Type}(aK:ak→Bool→Int→Option (ak))(w:ak)(w1:Bool)(n' gq:Int)(iT iG:aF)(iF:ak)(k:ak→Option R):Option R:=
 (M.aJ []).bind fun aRF=>
 ((idx iF 0).bind fun ax5=>
 ((dn .i64 ax5 0).bind fun aRG=>
 ((idx w aRG).bind fun ax6=>
 ((dn .i64 ax6 0).bind fun aRH=>
 (bif aRH !=16 then
 ((idx iF 0).bind fun ax7=>
 ((dn .i64 ax7 0).bind fun aRI=>
 ((M.eH w w1 aRI 1 false true false false).bind fun aRJ=>
 ((M.aJ [102,111,114,32,40]).bind fun aRK=>
 ((M.aJ [59]).bind fun aRL=>
 ((idx iF 1).bind fun ax8=>
 ((dn .i64 ax8 0).bind fun aRM=>
 ((M.lX w w1 aRM).bind fun aRN=>
 ((M.aJ [59]).bind fun aRO=>
 ((idx iF 2).bind fun ax9=>
 ((dn .i64 ax9 0).bind fun aRP=>
 ((M.lX w w1 aRP).bind fun aRQ=>
 ((M.aJ [41,32]).bind fun aRR=>
 ((idx iF 3).bind fun aya=>
 ((dn .i64 aya 0).bind fun aRS=>
 ((aK w w1 aRS).bind fun aRT=>
 ((M.aT 6 0 (aA [[D.sl true 4 aRK],[D.sl true 4 aRJ],[D.sl true 4 aRL],[D.sl true 4 aRN],[D.sl true 4 aRO],[D.sl true 4 aRQ],[D.sl true 4 aRR],[D.sl true 4 aRT]])).bind fun aDo=>(bif[[D.sl true 4 aDo]].all dM then(k aDo) else none)))))))))))))))))) else
 ((M.aJ [102,111,114,32,40]).bind fun aRU=>
 ((M.aJ [59]).bind fun aRV=>
 ((idx iF 1).bind fun ayb=>
 ((dn .i64 ayb 0).bind fun aRW=>
 ((M.lX w w1 aRW).bind fun aRX=>
 ((M.aJ [59]).bind fun aRY=>
 ((idx iF 2).bind fun ayc=>
 ((dn .i64 ayc 0).bind fun aRZ=>
 ((M.lX w w1 aRZ).bind fun aR0=>
 ((M.aJ [41,32]).bind fun aR1=>
 ((idx iF 3).bind fun ayd=>
 ((dn .i64 ayd 0).bind fun aR2=>
 ((aK w w1 aR2).bind fun aR3=>
 ((M.aT 6 0 (aA [[D.sl true 4 aRU],[D.sl true 4 aRF],[D.sl true 4 aRV],[D.sl true 4 aRX],[D.sl true 4 aRY],[D.sl true 4 aR0],[D.sl true 4 aR1],[D.sl true 4 aR3]])).bind fun aDp=>(bif[[D.sl true 4 aDp]].all dM then(k aDp) else none))))))))))))))))))))
theorem C.abN{aK:ak→Bool→Int→Option (ak)}(jh:S.kP.ok X0 fun x=>aK x.1.1.1 x.1.1.2.1 x.1.2.1):S.Dj.ok X0 fun x=>M.yx aK x.1.1.1 x.1.1.2.1 x.1.2.1.1 x.1.2.1.2.1 x.1.2.1.2.2.1 x.1.2.1.2.2.2.1 x.1.2.1.2.2.2.2.1 some:=fnS (fun x=>M.yx aK x.1.1.1 x.1.1.2.1 x.1.2.1.1 x.1.2.1.2.1 x.1.2.1.2.2.1 x.1.2.1.2.2.2.1 x.1.2.1.2.2.2.2.1) [fe C.aJ,fe C.eH,fe C.lX,fe jh,fe C.aT] [] (by intros;unfold M.yx;repeat' first|with_reducible apply gG|with_reducible apply Gp|with_reducible apply Gq|with_reducible apply Gs|with_reducible apply Gt|(intro _)|apply gG|rfl)
def M.fE{R:Type}(Dq:ak→Bool→Int→Int→aF→aF→ak→Option (ak))(aK:ak→Bool→Int→Option (ak))(Bc:ak→Bool→Int→Int→aF→aF→ak→Option (ak))(w:ak)(w1:Bool)(i:Int)(k:ak→Option R):Option R:=
 (idx w i).bind fun abO=>
 ((dn .i64 abO 0).bind fun n280=>
 ((dn .i64 abO 1).bind fun n281=>
 ((cStr abO 2).bind fun V9=>
 ((cStr abO 3).bind fun aoN=>
 ((BK 1 abO 4).bind fun Ec=>
 (bif n280==20 then
 ((idx Ec 0).bind fun aye=>
 ((dn .i64 aye 0).bind fun n286=>
 (M.gJ.bind fun aq2=>
 ((M.eH w w1 n286 aq2.1 aq2.2.1 aq2.2.2.1 aq2.2.2.2.1 aq2.2.2.2.2).bind fun aR4=>(k aR4))))) else
 (bif n280==21 then((M.uh w w1 n280 n281 V9 aoN Ec).bind fun aR5=>(k aR5)) else
 (bif n280==22 then((M.aJ [110,101,120,116]).bind fun aR6=>(k aR6)) else
 (bif n280==23 then((M.tV w w1 [101,120,105,116] Ec).bind fun aR7=>(k aR7)) else
 (bif n280==24 then((M.tV w w1 [114,101,116,117,114,110] Ec).bind fun aR8=>(k aR8)) else
 (bif n280==25 then((M.aJ [98,114,101,97,107]).bind fun aR9=>(k aR9)) else
 (bif n280==26 then((M.aJ [99,111,110,116,105,110,117,101]).bind fun aSa=>(k aSa)) else
 (bif n280==27 then
 (bif(↑Ec.length:Int)==0 then
 (bif(7+V9.length).ble 9223372036854775807 then((M.aJ ([100,101,108,101,116,101,32]++V9)).bind fun aSb=>(k aSb)) else none) else
 (bif(7+V9.length).ble 9223372036854775807 then
 (bif(([100,101,108,101,116,101,32]++V9).length+1).ble 9223372036854775807 then
 ((M.aJ ([100,101,108,101,116,101,32]++V9++[91])).bind fun aSc=>
 (M.gJ.bind fun aq3=>
 ((M.jd w w1 Ec aq3.1 aq3.2.1 aq3.2.2.1 aq3.2.2.2.1 aq3.2.2.2.2).bind fun aSd=>
 ((M.aJ [93]).bind fun aSe=>
 ((M.aT 6 0 (aA [[D.sl true 4 aSc],[D.sl true 4 aSd],[D.sl true 4 aSe]])).bind fun aDq=>(bif[[D.sl true 4 aDq]].all dM then(k aDq) else none)))))) else none) else none)) else
 (bif n280==28 then((Dq w w1 n280 n281 V9 aoN Ec).bind fun aSf=>(k aSf)) else
 (bif n280==29 then
 ((M.aJ [119,104,105,108,101,32,40]).bind fun aSg=>
 ((idx Ec 0).bind fun ayf=>
 ((dn .i64 ayf 0).bind fun aSh=>
 (M.gJ.bind fun aq4=>
 ((M.eH w w1 aSh aq4.1 aq4.2.1 aq4.2.2.1 aq4.2.2.2.1 aq4.2.2.2.2).bind fun aSi=>
 ((M.aJ [41,32]).bind fun aSj=>
 ((idx Ec 1).bind fun ayg=>
 ((dn .i64 ayg 0).bind fun aSk=>
 ((aK w w1 aSk).bind fun aSl=>
 ((M.aT 6 0 (aA [[D.sl true 4 aSg],[D.sl true 4 aSi],[D.sl true 4 aSj],[D.sl true 4 aSl]])).bind fun aDr=>(bif[[D.sl true 4 aDr]].all dM then(k aDr) else none))))))))))) else
 (bif n280==30 then
 ((M.aJ [100,111,32]).bind fun aSm=>
 ((idx Ec 0).bind fun ayh=>
 ((dn .i64 ayh 0).bind fun aSn=>
 ((aK w w1 aSn).bind fun aSo=>
 ((M.aJ [32,119,104,105,108,101,32,40]).bind fun aSp=>
 ((idx Ec 1).bind fun ayi=>
 ((dn .i64 ayi 0).bind fun aSq=>
 (M.gJ.bind fun aq5=>
 ((M.eH w w1 aSq aq5.1 aq5.2.1 aq5.2.2.1 aq5.2.2.2.1 aq5.2.2.2.2).bind fun aSr=>
 ((M.aJ [41]).bind fun aSs=>
 ((M.aT 6 0 (aA [[D.sl true 4 aSm],[D.sl true 4 aSo],[D.sl true 4 aSp],[D.sl true 4 aSr],[D.sl true 4 aSs]])).bind fun aDs=>(bif[[D.sl true 4 aDs]].all dM then(k aDs) else none)))))))))))) else
 (bif n280==31 then((Bc w w1 n280 n281 V9 aoN Ec).bind fun aSt=>(k aSt)) else
 (bif n280==32 then
 (bif(5+V9.length).ble 9223372036854775807 then
 (bif(([102,111,114,32,40]++V9).length+4).ble 9223372036854775807 then
 (bif(([102,111,114,32,40]++V9++[32,105,110,32]).length+aoN.length).ble 9223372036854775807 then
 (bif(([102,111,114,32,40]++V9++[32,105,110,32]++aoN).length+2).ble 9223372036854775807 then
 ((M.aJ ([102,111,114,32,40]++V9++[32,105,110,32]++aoN++[41,32])).bind fun aSu=>
 ((idx Ec 0).bind fun ayj=>
 ((dn .i64 ayj 0).bind fun aSv=>
 ((aK w w1 aSv).bind fun aSw=>
 ((M.aT 6 0 (aA [[D.sl true 4 aSu],[D.sl true 4 aSw]])).bind fun aDt=>(bif[[D.sl true 4 aDt]].all dM then(k aDt) else none)))))) else none) else none) else none) else none) else
 (bif n280==33 then((aK w w1 i).bind fun aSx=>(k aSx)) else((M.aJ V9).bind fun aSy=>(k aSy)))))))))))))))))))))
theorem C.ZM{Dq:ak→Bool→Int→Int→aF→aF→ak→Option (ak)}{aK:ak→Bool→Int→Option (ak)}{Bc:ak→Bool→Int→Int→aF→aF→ak→Option (ak)}(afi:S.Gv.ok X0 fun x=>Dq x.1.1.1 x.1.1.2.1 x.1.2.1.1 x.1.2.1.2.1 x.1.2.1.2.2.1 x.1.2.1.2.2.2.1 x.1.2.1.2.2.2.2.1)(jh:S.kP.ok X0 fun x=>aK x.1.1.1 x.1.1.2.1 x.1.2.1)(ado:S.Dj.ok X0 fun x=>Bc x.1.1.1 x.1.1.2.1 x.1.2.1.1 x.1.2.1.2.1 x.1.2.1.2.2.1 x.1.2.1.2.2.2.1 x.1.2.1.2.2.2.2.1):S.oM.ok X0 fun x=>M.fE Dq aK Bc x.1.1.1 x.1.1.2.1 x.1.2.1 some:=fnS (fun x=>M.fE Dq aK Bc x.1.1.1 x.1.1.2.1 x.1.2.1) [fe C.gJ,fe C.eH,fe C.uh,fe C.aJ,fe C.tV,fe C.jd,fe C.aT,fe afi,fe jh,fe ado] [] (by intros;unfold M.fE;repeat' first|with_reducible apply gG|with_reducible apply Gp|with_reducible apply Gq|with_reducible apply Gs|with_reducible apply Gt|(intro _)|apply gG|rfl)
def M.iC:Nat→(ak→Bool→Int→Option (ak))×(ak→Bool→Int→Int→aF→aF→ak→Option (ak))×(ak→Bool→Int→Int→aF→aF→ak→Option (ak))×(ak→Bool→Int→Option (ak))×(ak→Bool→ak→Option (ak))×(ak→Bool→Int→Option (ak))×(ak→Bool→Int→Int→aF→aF→ak→Option (ak))×(ak→Bool→Int→Int→aF→aF→ak→Option (ak)):=
 Nat.rec (fun _ _ _=>none,fun _ _ _ _ _ _ _=>none,fun _ _ _ _ _ _ _=>none,fun _ _ _=>none,fun _ _ _=>none,fun _ _ _=>none,fun _ _ _ _ _ _ _=>none,fun _ _ _ _ _ _ _=>none) fun _ qz=>(fun w w1 i=>M.fE qz.2.2.2.2.2.2.1 qz.2.2.2.2.2.1 qz.2.2.2.2.2.2.2 w w1 i some,fun w w1 n' gq iT iG iF=>M.FD qz.2.2.2.2.2.1 w w1 n' gq iT iG iF some,fun w w1 n' gq iT iG iF=>M.Iu qz.2.2.2.2.2.1 w w1 n' gq iT iG iF some,fun w w1 i=>M.yZ qz.2.2.2.2.2.1 qz.2.1 qz.2.2.1 qz.1 w w1 i some,fun w w1 kids=>M.y8 qz.2.2.2.1 w w1 kids some,fun w w1 i=>M.vX qz.2.2.2.2.1 w w1 i some,fun w w1 n' gq iT iG iF=>M.Am qz.2.2.2.2.2.1 w w1 n' gq iT iG iF some,fun w w1 n' gq iT iG iF=>M.yx qz.2.2.2.2.2.1 w w1 n' gq iT iG iF some)
def M.zf(n:Nat):ak→Bool→Int→Option (ak):=(M.iC n).1
def M.Lp(n:Nat):ak→Bool→Int→Int→aF→aF→ak→Option (ak):=(M.iC n).2.1
def M.Nq(n:Nat):ak→Bool→Int→Int→aF→aF→ak→Option (ak):=(M.iC n).2.2.1
def M.rO(n:Nat):ak→Bool→Int→Option (ak):=(M.iC n).2.2.2.1
def M.zh(n:Nat):ak→Bool→ak→Option (ak):=(M.iC n).2.2.2.2.1
def M.lV(n:Nat):ak→Bool→Int→Option (ak):=(M.iC n).2.2.2.2.2.1
def M.LY(n:Nat):ak→Bool→Int→Int→aF→aF→ak→Option (ak):=(M.iC n).2.2.2.2.2.2.1
def M.Kr(n:Nat):ak→Bool→Int→Int→aF→aF→ak→Option (ak):=(M.iC n).2.2.2.2.2.2.2
theorem M.abP(n:Nat):M.zf (n+1)=fun w w1 i=>M.fE (M.LY n) (M.lV n) (M.Kr n) w w1 i some:=rfl
theorem M.abQ(n:Nat):M.rO (n+1)=fun w w1 i=>M.yZ (M.lV n) (M.Lp n) (M.Nq n) (M.zf n) w w1 i some:=rfl
theorem M.abR(n:Nat):M.zh (n+1)=fun w w1 kids=>M.y8 (M.rO n) w w1 kids some:=rfl
theorem M.ZN(n:Nat):M.lV (n+1)=fun w w1 i=>M.vX (M.zh n) w w1 i some:=rfl
theorem M.Wh(n:Nat):M.LY (n+1)=fun w w1 n' gq iT iG iF=>M.Am (M.lV n) w w1 n' gq iT iG iF some:=rfl
theorem M.TT(n:Nat):M.Kr (n+1)=fun w w1 n' gq iT iG iF=>M.yx (M.lV n) w w1 n' gq iT iG iF some:=rfl
def M.oM(w:ak)(w1:Bool)(i:Int):Option (ak):=lim fun n=>M.zf n w w1 i
def M.yt(w:ak)(w1:Bool)(n' gq:Int)(iT iG:aF)(iF:ak):Option (ak):=lim fun n=>M.Lp n w w1 n' gq iT iG iF
def M.zZ(w:ak)(w1:Bool)(n' gq:Int)(iT iG:aF)(iF:ak):Option (ak):=lim fun n=>M.Nq n w w1 n' gq iT iG iF
def M.wL(w:ak)(w1:Bool)(i:Int):Option (ak):=lim fun n=>M.rO n w w1 i
def M.Aa(w:ak)(w1:Bool)(kids:ak):Option (ak):=lim fun n=>M.zh n w w1 kids
def M.kP(w:ak)(w1:Bool)(i:Int):Option (ak):=lim fun n=>M.lV n w w1 i
def M.Gv(w:ak)(w1:Bool)(n' gq:Int)(iT iG:aF)(iF:ak):Option (ak):=lim fun n=>M.LY n w w1 n' gq iT iG iF
def M.Dj(w:ak)(w1:Bool)(n' gq:Int)(iT iG:aF)(iF:ak):Option (ak):=lim fun n=>M.Kr n w w1 n' gq iT iG iF
theorem C.iC:∀n,(S.oM.ok X0 fun x=>M.zf n x.1.1.1 x.1.1.2.1 x.1.2.1)∧(S.yt.ok X0 fun x=>M.Lp n x.1.1.1 x.1.1.2.1 x.1.2.1.1 x.1.2.1.2.1 x.1.2.1.2.2.1 x.1.2.1.2.2.2.1 x.1.2.1.2.2.2.2.1)∧(S.zZ.ok X0 fun x=>M.Nq n x.1.1.1 x.1.1.2.1 x.1.2.1.1 x.1.2.1.2.1 x.1.2.1.2.2.1 x.1.2.1.2.2.2.1 x.1.2.1.2.2.2.2.1)∧(S.wL.ok X0 fun x=>M.rO n x.1.1.1 x.1.1.2.1 x.1.2.1)∧(S.Aa.ok X0 fun x=>M.zh n x.1.1.1 x.1.1.2.1 x.1.2.1)∧(S.kP.ok X0 fun x=>M.lV n x.1.1.1 x.1.1.2.1 x.1.2.1)∧(S.Gv.ok X0 fun x=>M.LY n x.1.1.1 x.1.1.2.1 x.1.2.1.1 x.1.2.1.2.1 x.1.2.1.2.2.1 x.1.2.1.2.2.2.1 x.1.2.1.2.2.2.2.1)∧(S.Dj.ok X0 fun x=>M.Kr n x.1.1.1 x.1.1.2.1 x.1.2.1.1 x.1.2.1.2.1 x.1.2.1.2.2.1 x.1.2.1.2.2.2.1 x.1.2.1.2.2.2.2.1)
 |0=>⟨fH.zero,fH.zero,fH.zero,fH.zero,fH.zero,fH.zero,fH.zero,fH.zero⟩
 |n+1=>have h:=C.iC n;⟨C.ZM h.2.2.2.2.2.2.1 h.2.2.2.2.2.1 h.2.2.2.2.2.2.2,C.X5 h.2.2.2.2.2.1,C.ZI h.2.2.2.2.2.1,C.ZJ h.2.2.2.2.2.1 h.2.1 h.2.2.1 h.1,C.ZL h.2.2.2.1,C.X6 h.2.2.2.2.1,C.adn h.2.2.2.2.2.1,C.abN h.2.2.2.2.2.1⟩
theorem C.oM:S.oM.ok X0 fun x=>M.oM x.1.1.1 x.1.1.2.1 x.1.2.1:=fH.lim fun n=>(C.iC n).1
theorem M.ZO{n:Nat}{w:ak}{w1:Bool}{i:Int}{r:ak}(h:M.zf n w w1 i=some r):M.oM w w1 i=some r:=
 fH.EJ (fun n=>(C.iC n).1) (by intro a b h;simp[S.oM,sg] at h;first|exact h|simp[Prod.ext_iff,h]) (x:=(((w,w1,()),i,()),())) h
theorem C.yt:S.yt.ok X0 fun x=>M.yt x.1.1.1 x.1.1.2.1 x.1.2.1.1 x.1.2.1.2.1 x.1.2.1.2.2.1 x.1.2.1.2.2.2.1 x.1.2.1.2.2.2.2.1:=fH.lim fun n=>(C.iC n).2.1
theorem C.zZ:S.zZ.ok X0 fun x=>M.zZ x.1.1.1 x.1.1.2.1 x.1.2.1.1 x.1.2.1.2.1 x.1.2.1.2.2.1 x.1.2.1.2.2.2.1 x.1.2.1.2.2.2.2.1:=fH.lim fun n=>(C.iC n).2.2.1
theorem C.wL:S.wL.ok X0 fun x=>M.wL x.1.1.1 x.1.1.2.1 x.1.2.1:=fH.lim fun n=>(C.iC n).2.2.2.1
theorem C.Aa:S.Aa.ok X0 fun x=>M.Aa x.1.1.1 x.1.1.2.1 x.1.2.1:=fH.lim fun n=>(C.iC n).2.2.2.2.1
theorem C.kP:S.kP.ok X0 fun x=>M.kP x.1.1.1 x.1.1.2.1 x.1.2.1:=fH.lim fun n=>(C.iC n).2.2.2.2.2.1
theorem C.Gv:S.Gv.ok X0 fun x=>M.Gv x.1.1.1 x.1.1.2.1 x.1.2.1.1 x.1.2.1.2.1 x.1.2.1.2.2.1 x.1.2.1.2.2.2.1 x.1.2.1.2.2.2.2.1:=fH.lim fun n=>(C.iC n).2.2.2.2.2.2.1
theorem C.Dj:S.Dj.ok X0 fun x=>M.Dj x.1.1.1 x.1.1.2.1 x.1.2.1.1 x.1.2.1.2.1 x.1.2.1.2.2.1 x.1.2.1.2.2.2.1 x.1.2.1.2.2.2.2.1:=fH.lim fun n=>(C.iC n).2.2.2.2.2.2.2
def M.Iy{R:Type}(l:ak)(k:ak→Option R):Option R:=
 (M.zO l).bind fun aSz=>
 (bif !aSz then(k []) else
 ((idx l (IntKind.i64.wrap ((↑l.length:Int) - 1))).bind fun ayk=>
 ((dn .i64 ayk 0).bind fun n277=>
 ((M.ug n277).bind fun aSA=>
 (bif !aSA then(k []) else
 ((M.oM l false (IntKind.i64.wrap ((↑l.length:Int) - 1))).bind fun aSB=>(k aSB)))))))
def M.wM(l:ak):Option (ak):=M.Iy l some
theorem C.wM:S.wM.ok X0 fun x=>M.wM x.1.1:=fnS (fun x=>M.Iy x.1.1) [fe C.zO,fe C.ug,fe C.oM] [] (by intros;simp only[M.Iy,nb]<;>rfl)
theorem C.jI:S.jI.ok X0 fun x=>M.jI x.1.1:=fH.Vt (p:=Prim.jI)
def M.Iz{R:Type}(l:ak)(k:Bool→Option R):Option R:=
 (M.jI l).bind fun aSC=>(k aSC.2)
def M.wO(l:ak):Option (Bool):=M.Iz l some
theorem C.wO:S.wO.ok X0 fun x=>M.wO x.1.1:=fnS (fun x=>M.Iz x.1.1) [fe C.jI] [] (by intros;simp only[M.Iz,nb]<;>rfl)
def M.yA{R:Type}(n' low high:Int)(k:Bool→Option R):Option R:=
 bif decide (n'≥low) then(k (decide (n'≤high))) else(k false)
def M.dV(n' low high:Int):Option (Bool):=M.yA n' low high some
theorem C.dV:S.dV.ok X0 fun x=>M.dV x.1.1 x.1.2.1 x.1.2.2.1:=fnS (fun x=>M.yA x.1.1 x.1.2.1 x.1.2.2.1) [] [] (by intros;simp only[M.yA,nb]<;>rfl)
def M.bW{R:Type}(kind:Int)(k:Bool→Option R):Option R:=
 (M.dV kind 1 15).bind fun aSD=>(k aSD)
def M.bK(kind:Int):Option (Bool):=M.bW kind some
theorem C.bK:S.bK.ok X0 fun x=>M.bK x.1.1:=fnS (fun x=>M.bW x.1.1) [fe C.dV] [] (by intros;simp only[M.bW,nb]<;>rfl)
def M.FK{R:Type}(b:Int)(k:Bool→Option R):Option R:=
 bif decide (b≥97) then
 (bif decide (b≤122) then(k true) else
 (bif decide (b≥65) then(bif decide (b≤90) then(k true) else(k (b==95))) else(k (b==95)))) else
 (bif decide (b≥65) then(bif decide (b≤90) then(k true) else(k (b==95))) else(k (b==95)))
def M.oq(b:Int):Option (Bool):=M.FK b some
theorem C.oq:S.oq.ok X0 fun x=>M.oq x.1.1:=fnS (fun x=>M.FK x.1.1) [] [] (by intros;simp only[M.FK,nb]<;>rfl)
def M.IB{R:Type}(b:Int)(k:Bool→Option R):Option R:=
 bif decide (b≥48) then(k (decide (b≤57))) else(k false)
def M.qP(b:Int):Option (Bool):=M.IB b some
theorem C.qP:S.qP.ok X0 fun x=>M.qP x.1.1:=fnS (fun x=>M.IB x.1.1) [] [] (by intros;simp only[M.IB,nb]<;>rfl)
def M.Cc{R:Type}(b:Int)(k:Bool→Option R):Option R:=
 (M.oq b).bind fun aSE=>(bif aSE then(k true) else((M.qP b).bind fun aSF=>(k aSF)))
def M.jL(b:Int):Option (Bool):=M.Cc b some
theorem C.jL:S.jL.ok X0 fun x=>M.jL x.1.1:=fnS (fun x=>M.Cc x.1.1) [fe C.oq,fe C.qP] [] (by intros;simp only[M.Cc,nb]<;>rfl)
def M.sV{R:Type}(s':aF)(v5 s:Int)(kn:Int→Option R)(ke:(Unit)⊕(Int)→Option R):Option R:=match s with
 |v6=>
 bif decide (v6<v5) then
 ((idx s' v6).bind fun aSG=>
 ((M.jL (IntKind.i64.wrap (↑aSG.toNat:Int))).bind fun aSH=>(bif !aSH then(ke (.inl ())) else(kn (IntKind.i64.wrap (v6+1)))))) else(ke (.inr v6))
def M.yG(s':aF)(v5 s:Int):=M.sV s' v5 s (fun s=>some (Sum.inl s)) fun t=>some (Sum.inr t)
def M.Ce(s':aF)(v5 s:Int):Option ((Unit)⊕(Int)):=iR (M.yG s' v5) s
def F.Ce:LE X0 200:=le 2 (La [fU 0 pS,fU 5 pI,fU 6 pI] []) (fun x=>x.1.2.2.1) (fun x s=>((x.1.1,x.1.2.1,s,()),())) (fun x=> .sum (.leaf (Unit) (fun t=>(Ex.ret,{tm:=[(2,V.d (D.bool false))],mem:=[]}))) (.leaf (Int) (fun t=>(Ex.exit 0,{tm:=[(0,V.d (D.str x.1.1)),(5,V.d (D.int .i64 x.1.2.1)),(6,V.d (D.int .i64 t)),(7,V.d (D.bool false))],mem:=[]})))) (fun x=>M.sV x.1.1 x.1.2.1) [fe C.jL] [] (by rintro _ _ _ _ _<;>simp only[M.sV,nb]<;>rfl)
def M.Ed{R:Type}(s':aF)(k:Bool→Option R):Option R:=
 (M.Ce s' ((↑s'.length:Int)) 0).bind fun aSI=>
 xZ aSI (fun aUe=>(k false)) fun aSJ=>
 letE aSJ fun aUf=>
 ((M.dV ((↑s'.length:Int)) 1 12).bind fun aSK=>
 (bif aSK then
 ((idx s' 0).bind fun aSL=>((M.oq (IntKind.i64.wrap (↑aSL.toNat:Int))).bind fun aSM=>(k aSM))) else(k false)))
def M.rG(s':aF):Option (Bool):=M.Ed s' some
theorem C.rG:S.rG.ok X0 fun x=>M.rG x.1.1:=fnS (fun x=>M.Ed x.1.1) [fe C.dV,fe C.oq] [F.Ce] (by intros;simp only[M.Ed,nb]<;>rfl)
def M.xA{R:Type}(s':ak)(v:aF)(v7 s:Int)(kn:Int→Option R)(ke:(Int)⊕(Int)→Option R):Option R:=match s with
 |v8=>
 bif decide (v8<v7) then
 ((idx s' v8).bind fun ayl=>
 ((cStr ayl 0).bind fun aSN=>(bif v==aSN then(ke (.inl v8)) else(kn (IntKind.i64.wrap (v8+1)))))) else(ke (.inr v8))
def M.Ci(s':ak)(v:aF)(v7 s:Int):=M.xA s' v v7 s (fun s=>some (Sum.inl s)) fun t=>some (Sum.inr t)
def M.FM(s':ak)(v:aF)(v7 s:Int):Option ((Int)⊕(Int)):=iR (M.Ci s' v v7) s
def F.FM:LE X0 206:=le 2 (La [fU 0 (pL false 1),fU 1 pS,fU 7 pI,fU 8 pI] []) (fun x=>x.1.2.2.2.1) (fun x s=>((x.1.1,x.1.2.1,x.1.2.2.1,s,()),())) (fun x=> .sum (.leaf (Int) (fun t=>(Ex.ret,{tm:=[(4,V.d (D.int .i64 t))],mem:=[]}))) (.leaf (Int) (fun t=>(Ex.exit 0,{tm:=[(0,V.d (D.sl false 1 x.1.1)),(1,V.d (D.str x.1.2.1)),(7,V.d (D.int .i64 x.1.2.2.1)),(8,V.d (D.int .i64 t)),(9,V.d (D.bool false))],mem:=[]})))) (fun x=>M.xA x.1.1 x.1.2.1 x.1.2.2.1) [] [] (by rintro _ _ _ _ _<;>simp only[M.xA,nb]<;>rfl)
def M.IC{R:Type}(s':ak)(v:aF)(k:Int→Option R):Option R:=
 (M.FM s' v ((↑s'.length:Int)) 0).bind fun aSO=>
 xZ aSO (fun aSP=>(k aSP)) fun aSQ=>
 letE aSQ fun aUg=>(k (-1))
def M.slices_Index(s':ak)(v:aF):Option (Int):=M.IC s' v some
theorem C.slices_Index:S.slices_Index.ok X0 fun x=>M.slices_Index x.1.1 x.1.2.1:=fnS (fun x=>M.IC x.1.1 x.1.2.1) [] [F.FM] (by intros;simp only[M.IC,nb]<;>rfl)
def M.Ee{R:Type}(s':aF)(k:Int→Option R):Option R:=
 (M.slices_Index (List.map (fun x=>[x]) zG) s').bind fun aDu=>(bif decide (aDu<0) then(k 0) else(k (IntKind.i64.wrap (10+aDu))))
def M.rH(s':aF):Option (Int):=M.Ee s' some
theorem C.rH:S.rH.ok X0 fun x=>M.rH x.1.1:=fnS (fun x=>M.Ee x.1.1) [fe C.slices_Index] [] (by intros;simp only[M.Ee,nb]<;>rfl)
def M.xB{R:Type}(s':ak)(v:aF)(k:Bool→Option R):Option R:=
 (M.slices_Index s' v).bind fun aSR=>(k (decide (aSR≥0)))
def M.slices_Contains(s':ak)(v:aF):Option (Bool):=M.xB s' v some
theorem C.slices_Contains:S.slices_Contains.ok X0 fun x=>M.slices_Contains x.1.1 x.1.2.1:=fnS (fun x=>M.xB x.1.1 x.1.2.1) [fe C.slices_Index] [] (by intros;simp only[M.xB,nb]<;>rfl)
def M.Ef{R:Type}(s':aF)(k:Bool→Option R):Option R:=
 (M.slices_Contains (List.map (fun x=>[x]) GV) s').bind fun aSS=>(k aSS)
def M.lq(s':aF):Option (Bool):=M.Ef s' some
theorem C.lq:S.lq.ok X0 fun x=>M.lq x.1.1:=fnS (fun x=>M.Ef x.1.1) [fe C.slices_Contains] [] (by intros;simp only[M.Ef,nb]<;>rfl)
def M.Kt{R:Type}(s':aF)(k:Bool→Option R):Option R:=
 (M.rG s').bind fun aST=>
 (bif aST then
 ((M.rH s').bind fun aSU=>(bif aSU==0 then((M.lq s').bind fun aSV=>(k !aSV)) else(k false))) else(k false))
def M.jE(s':aF):Option (Bool):=M.Kt s' some
theorem C.jE:S.jE.ok X0 fun x=>M.jE x.1.1:=fnS (fun x=>M.Kt x.1.1) [fe C.rG,fe C.rH,fe C.lq] [] (by intros;simp only[M.Kt,nb]<;>rfl)
theorem C.strings_Contains:S.strings_Contains.ok X0 fun x=>M.strings_Contains x.1.1 x.1.2.1:=fH.Vt (p:=Prim.strings_Contains)
def M.Ku{R:Type}(s':aF)(at':Int)(k:Int→Option R):Option R:=
 (M.dV at' 0 (IntKind.i64.wrap ((↑s'.length:Int) - 1))).bind fun aSW=>
 (bif !aSW then(k (-1)) else((idx s' at').bind fun aSX=>(k (IntKind.i64.wrap (↑aSX.toNat:Int)))))
def M.jF(s':aF)(at':Int):Option (Int):=M.Ku s' at' some
theorem C.jF:S.jF.ok X0 fun x=>M.jF x.1.1 x.1.2.1:=fnS (fun x=>M.Ku x.1.1 x.1.2.1) [fe C.dV] [] (by intros;simp only[M.Ku,nb]<;>rfl)
def M.yH{R:Type}(s':aF)(s:Int)(kn:Int→Option R)(ke:Int→Option R):Option R:=match s with
 |at'=>
 (M.jF s' at').bind fun aSY=>
 ((M.qP aSY).bind fun aSZ=>(bif aSZ then(kn (IntKind.i64.wrap (at'+1))) else(ke at')))
def M.LD(s':aF)(s:Int):=M.yH s' s (fun s=>some (Sum.inl s)) fun t=>some (Sum.inr t)
def M.Cj(s':aF)(s:Int):Option (Int):=iR (M.LD s') s
def F.Cj:LE X0 233:=le 1 (La [fU 0 pS,fU 1 pI] []) (fun x=>x.1.2.1) (fun x s=>((x.1.1,s,()),())) (fun x=> .leaf (Int) (fun t=>(Ex.exit 0,{tm:=[(0,V.d (D.str x.1.1)),(1,V.d (D.int .i64 t)),(8,V.d (D.bool false))],mem:=[]}))) (fun x=>M.yH x.1.1) [fe C.jF,fe C.qP] [] (by rintro _ _ _ _ _<;>simp only[M.yH,nb]<;>rfl)
def M.Eh{R:Type}(s':aF)(at':Int)(k:Int→Option R):Option R:=
 (M.Cj s' at').bind fun aS0=>(k aS0)
def M.eP(s':aF)(at':Int):Option (Int):=M.Eh s' at' some
theorem C.eP:S.eP.ok X0 fun x=>M.eP x.1.1 x.1.2.1:=fnS (fun x=>M.Eh x.1.1 x.1.2.1) [] [F.Cj] (by intros;simp only[M.Eh,nb]<;>rfl)
def M.Kv{R:Type}(s':aF)(at':Int)(k:Int→Option R):Option R:=
 (M.dV at' 0 (IntKind.i64.wrap ((↑s'.length:Int) - 1))).bind fun aS1=>
 (bif !aS1 then(k (-1)) else
 ((M.eP s' at').bind fun JE=>
 ((M.jF s' JE).bind fun aS2=>
 (bif aS2==46 then
 ((M.eP s' (IntKind.i64.wrap (JE+1))).bind fun Ns=>
 (bif IntKind.i64.wrap (IntKind.i64.wrap (JE - at')+IntKind.i64.wrap (IntKind.i64.wrap (Ns - JE) - 1))==0 then(k (-1)) else
 ((M.jF s' Ns).bind fun aDv=>
 (bif aDv==101 then
 ((M.jF s' (IntKind.i64.wrap (Ns+1))).bind fun aDw=>
 (bif aDw==43 then
 ((M.eP s' (IntKind.i64.wrap (IntKind.i64.wrap (Ns+1)+1))).bind fun aDx=>
 (bif decide (aDx>IntKind.i64.wrap (IntKind.i64.wrap (Ns+1)+1)) then(k aDx) else(k Ns))) else
 (bif aDw==45 then
 ((M.eP s' (IntKind.i64.wrap (IntKind.i64.wrap (Ns+1)+1))).bind fun aDy=>
 (bif decide (aDy>IntKind.i64.wrap (IntKind.i64.wrap (Ns+1)+1)) then(k aDy) else(k Ns))) else
 ((M.eP s' (IntKind.i64.wrap (Ns+1))).bind fun aDz=>(bif decide (aDz>IntKind.i64.wrap (Ns+1)) then(k aDz) else(k Ns)))))) else
 (bif aDv==69 then
 ((M.jF s' (IntKind.i64.wrap (Ns+1))).bind fun aDA=>
 (bif aDA==43 then
 ((M.eP s' (IntKind.i64.wrap (IntKind.i64.wrap (Ns+1)+1))).bind fun aDB=>
 (bif decide (aDB>IntKind.i64.wrap (IntKind.i64.wrap (Ns+1)+1)) then(k aDB) else(k Ns))) else
 (bif aDA==45 then
 ((M.eP s' (IntKind.i64.wrap (IntKind.i64.wrap (Ns+1)+1))).bind fun aDC=>
 (bif decide (aDC>IntKind.i64.wrap (IntKind.i64.wrap (Ns+1)+1)) then(k aDC) else(k Ns))) else
 ((M.eP s' (IntKind.i64.wrap (Ns+1))).bind fun aDD=>(bif decide (aDD>IntKind.i64.wrap (Ns+1)) then(k aDD) else(k Ns)))))) else(k Ns)))))) else
 (bif IntKind.i64.wrap (JE - at')==0 then(k (-1)) else
 ((M.jF s' JE).bind fun aDE=>
 (bif aDE==101 then
 ((M.jF s' (IntKind.i64.wrap (JE+1))).bind fun aDF=>
 (bif aDF==43 then
 ((M.eP s' (IntKind.i64.wrap (IntKind.i64.wrap (JE+1)+1))).bind fun aDG=>
 (bif decide (aDG>IntKind.i64.wrap (IntKind.i64.wrap (JE+1)+1)) then(k aDG) else(k JE))) else
 (bif aDF==45 then
 ((M.eP s' (IntKind.i64.wrap (IntKind.i64.wrap (JE+1)+1))).bind fun aDH=>
 (bif decide (aDH>IntKind.i64.wrap (IntKind.i64.wrap (JE+1)+1)) then(k aDH) else(k JE))) else
 ((M.eP s' (IntKind.i64.wrap (JE+1))).bind fun aDI=>(bif decide (aDI>IntKind.i64.wrap (JE+1)) then(k aDI) else(k JE)))))) else
 (bif aDE==69 then
 ((M.jF s' (IntKind.i64.wrap (JE+1))).bind fun aDJ=>
 (bif aDJ==43 then
 ((M.eP s' (IntKind.i64.wrap (IntKind.i64.wrap (JE+1)+1))).bind fun aDK=>
 (bif decide (aDK>IntKind.i64.wrap (IntKind.i64.wrap (JE+1)+1)) then(k aDK) else(k JE))) else
 (bif aDJ==45 then
 ((M.eP s' (IntKind.i64.wrap (IntKind.i64.wrap (JE+1)+1))).bind fun aDL=>
 (bif decide (aDL>IntKind.i64.wrap (IntKind.i64.wrap (JE+1)+1)) then(k aDL) else(k JE))) else
 ((M.eP s' (IntKind.i64.wrap (JE+1))).bind fun aDM=>(bif decide (aDM>IntKind.i64.wrap (JE+1)) then(k aDM) else(k JE)))))) else(k JE)))))))))
def M.zQ(s':aF)(at':Int):Option (Int):=M.Kv s' at' some
theorem C.zQ:S.zQ.ok X0 fun x=>M.zQ x.1.1 x.1.2.1:=fnS (fun x=>M.Kv x.1.1 x.1.2.1) [fe C.dV,fe C.eP,fe C.jF] [] (by intros;unfold M.Kv;repeat' first|with_reducible apply gG|with_reducible apply Gp|with_reducible apply Gq|with_reducible apply Gs|with_reducible apply Gt|(intro _)|apply gG|rfl)
def M.pz{R:Type}(s':aF)(quote s:Int)(kn:Int→Option R)(ke:(Int)⊕(Int)→Option R):Option R:=match s with
 |i=>
 bif decide (i<(↑s'.length:Int)) then
 ((idx s' i).bind fun aS3=>
 (bif(↑aS3.toNat:Int) !=10 then
 ((idx s' i).bind fun aS4=>
 (bif IntKind.i64.wrap (↑aS4.toNat:Int)==quote then(ke (.inl (IntKind.i64.wrap (i+1)))) else
 ((idx s' i).bind fun aS5=>
 (bif(↑aS5.toNat:Int)==92 then
 ((M.jF s' (IntKind.i64.wrap (i+1))).bind fun aS6=>
 (bif aS6 !=10 then(kn (IntKind.i64.wrap (IntKind.i64.wrap (i+1)+1))) else(kn (IntKind.i64.wrap (i+1))))) else(kn (IntKind.i64.wrap (i+1))))))) else(ke (.inr i)))) else(ke (.inr i))
def M.sW(s':aF)(quote s:Int):=M.pz s' quote s (fun s=>some (Sum.inl s)) fun t=>some (Sum.inr t)
def M.oW(s':aF)(quote s:Int):Option ((Int)⊕(Int)):=iR (M.sW s' quote) s
def F.oW:LE X0 235:=le 4 (La [fU 0 pS,fU 2 pI,fU 7 pI] []) (fun x=>x.1.2.2.1) (fun x s=>((x.1.1,x.1.2.1,s,()),())) (fun x=> .sum (.leaf (Int) (fun t=>(Ex.ret,{tm:=[(6,V.d (D.int .i64 t))],mem:=[]}))) (.leaf (Int) (fun t=>(Ex.exit 0,{tm:=[(0,V.d (D.str x.1.1)),(2,V.d (D.int .i64 x.1.2.1)),(7,V.d (D.int .i64 t)),(24,V.d (D.bool false))],mem:=[]})))) (fun x=>M.pz x.1.1 x.1.2.1) [fe C.jF] [] (by rintro _ _ _ _ _<;>simp only[M.pz,nb]<;>rfl)
def M.Ei{R:Type}(s':aF)(at' quote:Int)(k:Int→Option R):Option R:=
 (M.jF s' at').bind fun aS7=>
 (bif aS7 !=quote then(k (-1)) else
 ((M.oW s' quote (IntKind.i64.wrap (at'+1))).bind fun aDN=>
 xZ aDN (fun aS8=>(k aS8)) fun aDO=>
 letE aDO fun aUh=>(k (-1))))
def M.mY(s':aF)(at' quote:Int):Option (Int):=M.Ei s' at' quote some
theorem C.mY:S.mY.ok X0 fun x=>M.mY x.1.1 x.1.2.1 x.1.2.2.1:=fnS (fun x=>M.Ei x.1.1 x.1.2.1 x.1.2.2.1) [fe C.jF] [F.oW] (by intros;simp only[M.Ei,nb]<;>rfl)
def M.Kw{R:Type}(s':aF)(at':Int)(k:Int→Option R):Option R:=
 (M.mY s' at' 34).bind fun aDP=>(k aDP)
def M.zS(s':aF)(at':Int):Option (Int):=M.Kw s' at' some
theorem C.zS:S.zS.ok X0 fun x=>M.zS x.1.1 x.1.2.1:=fnS (fun x=>M.Kw x.1.1 x.1.2.1) [fe C.mY] [] (by intros;simp only[M.Kw,nb]<;>rfl)
def M.Ky{R:Type}(s':aF)(at':Int)(k:Int→Option R):Option R:=
 (M.mY s' at' 47).bind fun auX=>(bif auX==IntKind.i64.wrap (at'+2) then(k (-1)) else(k auX))
def M.zT(s':aF)(at':Int):Option (Int):=M.Ky s' at' some
theorem C.zT:S.zT.ok X0 fun x=>M.zT x.1.1 x.1.2.1:=fnS (fun x=>M.Ky x.1.1 x.1.2.1) [fe C.mY] [] (by intros;simp only[M.Ky,nb]<;>rfl)
def M.xC{R:Type}(kind:Int)(k:Bool→Option R):Option R:=
 (M.dV kind 10 26).bind fun aDQ=>(k aDQ)
def M.nK(kind:Int):Option (Bool):=M.xC kind some
theorem C.nK:S.nK.ok X0 fun x=>M.nK x.1.1:=fnS (fun x=>M.xC x.1.1) [fe C.dV] [] (by intros;simp only[M.xC,nb]<;>rfl)
def M.xE{R:Type}(kind:Int)(k:Bool→Option R):Option R:=
 (M.dV kind 30 68).bind fun aDR=>(k aDR)
def M.iH(kind:Int):Option (Bool):=M.xE kind some
theorem C.iH:S.iH.ok X0 fun x=>M.iH x.1.1:=fnS (fun x=>M.xE x.1.1) [fe C.dV] [] (by intros;simp only[M.xE,nb]<;>rfl)
def M.IE{R:Type}(kind:Int)(k:aF→Option R):Option R:=
 bif kind==1 then(k [10]) else
 ((M.nK kind).bind fun aDS=>
 (bif aDS then
 (bif decide (0≤IntKind.i64.wrap (kind - 10)) && decide (IntKind.i64.wrap (kind - 10)<17) then
 ((cStr zG (0+(IntKind.i64.wrap (kind - 10)).toNat * 1)).bind fun aDT=>(k aDT)) else none) else
 ((M.iH kind).bind fun aDU=>
 (bif aDU then
 (bif decide (0≤IntKind.i64.wrap (kind - 30)) && decide (IntKind.i64.wrap (kind - 30)<39) then
 ((cStr MR (0+(IntKind.i64.wrap (kind - 30)).toNat * 1)).bind fun aDV=>(k aDV)) else none) else(k [])))))
def M.iy(kind:Int):Option (aF):=M.IE kind some
theorem C.iy:S.iy.ok X0 fun x=>M.iy x.1.1:=fnS (fun x=>M.IE x.1.1) [fe C.nK,fe C.iH] [] (by intros;simp only[M.IE,nb]<;>rfl)
def M.IG{R:Type}(t':Int)(gX:aF)(iK:Int)(k:Bool→Option R):Option R:=
 bif gX==[] then(k false) else
 (bif t'==2 then
 ((idx gX 0).bind fun aS9=>
 (bif(↑aS9.toNat:Int)==35 then((M.strings_Contains gX [10]).bind fun aTa=>(k !aTa)) else(k false))) else
 (bif t'==3 then((M.zQ gX 0).bind fun aTb=>(k (aTb==(↑gX.length:Int)))) else
 (bif t'==4 then((M.zS gX 0).bind fun aDW=>(k (aDW==(↑gX.length:Int)))) else
 (bif t'==5 then((M.zT gX 0).bind fun aDX=>(k (aDX==(↑gX.length:Int)))) else
 (bif t'==6 then((M.jE gX).bind fun aDY=>(k aDY)) else
 (bif t'==7 then((M.jE gX).bind fun aDZ=>(k aDZ)) else
 (bif t'==8 then((M.lq gX).bind fun aD0=>(k aD0)) else((M.iy t').bind fun aD1=>(k (gX==aD1))))))))))
def M.ny(t':Int)(gX:aF)(iK:Int):Option (Bool):=M.IG t' gX iK some
theorem C.ny:S.ny.ok X0 fun x=>M.ny x.1.1.1 x.1.1.2.1 x.1.1.2.2.1:=fnS (fun x=>M.IG x.1.1.1 x.1.1.2.1 x.1.1.2.2.1) [fe C.strings_Contains,fe C.zQ,fe C.zS,fe C.zT,fe C.jE,fe C.lq,fe C.iy] [] (by intros;simp only[M.IG,nb]<;>rfl)
def M.cu{R:Type}(kind:Int)(k:Bool→Option R):Option R:=
 bif kind==51 then(k true) else(k (kind==52))
def M.dA(kind:Int):Option (Bool):=M.cu kind some
theorem C.dA:S.dA.ok X0 fun x=>M.dA x.1.1:=fnS (fun x=>M.cu x.1.1) [] [] (by intros;simp only[M.cu,nb]<;>rfl)
def M.Dt{R:Type}(op':Int)(k:Int→Option R):Option R:=
 bif op'==44 then(k 3) else
 (bif op'==45 then(k 4) else
 (bif op'==67 then(k 6) else
 (bif op'==46 then(k 6) else
 (bif op'==63 then(k 7) else
 (bif op'==48 then(k 7) else
 (bif op'==47 then(k 7) else
 (bif op'==50 then(k 7) else
 (bif op'==62 then(k 7) else
 (bif op'==49 then(k 7) else
 (bif op'==99 then(k 8) else
 (bif op'==55 then(k 9) else
 (bif op'==56 then(k 9) else
 (bif op'==57 then(k 10) else
 (bif op'==58 then(k 10) else(bif op'==59 then(k 10) else(bif op'==60 then(k 12) else(k 0)))))))))))))))))
def M.lJ(op':Int):Option (Int):=M.Dt op' some
theorem C.lJ:S.lJ.ok X0 fun x=>M.lJ x.1.1:=fnS (fun x=>M.Dt x.1.1) [] [] (by intros;unfold M.Dt;repeat' first|with_reducible apply gG|with_reducible apply Gp|with_reducible apply Gq|with_reducible apply Gs|with_reducible apply Gt|(intro _)|apply gG|rfl)
def M.FN{R:Type}(kind:Int)(k:Bool→Option R):Option R:=
 bif kind==54 then(k true) else((M.dV kind 38 43).bind fun aD2=>(k aD2))
def M.um(kind:Int):Option (Bool):=M.FN kind some
theorem C.um:S.um.ok X0 fun x=>M.um x.1.1:=fnS (fun x=>M.FN x.1.1) [fe C.dV] [] (by intros;simp only[M.FN,nb]<;>rfl)
def M.bF{R:Type}(n' gq:Int)(iT iG:aF)(iF:ak)(k:Bool×Bool×Bool×Int×Int→Option R):Option R:=
 bif n'==1 then((M.jE iT).bind fun aTc=>(k ((gq==0,aTc,false,0,0)))) else
 (bif n'==2 then
 (bif decide (0≤IntKind.i64.wrap (n' - 2)) && decide (IntKind.i64.wrap (n' - 2)<3) then
 ((dn .i64 [D.int .i64 3,D.int .i64 4,D.int .i64 5] (IntKind.i64.wrap (n' - 2)).toNat).bind fun aTd=>((M.ny aTd iT 0).bind fun aD3=>(k ((gq==0,aD3,false,0,0))))) else none) else
 (bif n'==3 then
 (bif decide (0≤IntKind.i64.wrap (n' - 2)) && decide (IntKind.i64.wrap (n' - 2)<3) then
 ((dn .i64 [D.int .i64 3,D.int .i64 4,D.int .i64 5] (IntKind.i64.wrap (n' - 2)).toNat).bind fun aD4=>((M.ny aD4 iT 0).bind fun aD5=>(k ((gq==0,aD5,false,0,0))))) else none) else
 (bif n'==4 then
 (bif decide (0≤IntKind.i64.wrap (n' - 2)) && decide (IntKind.i64.wrap (n' - 2)<3) then
 ((dn .i64 [D.int .i64 3,D.int .i64 4,D.int .i64 5] (IntKind.i64.wrap (n' - 2)).toNat).bind fun aD6=>((M.ny aD6 iT 0).bind fun aD7=>(k ((gq==0,aD7,false,0,0))))) else none) else
 (bif n'==5 then((M.jE iT).bind fun aD8=>(k ((gq==0,aD8,false,1,6)))) else
 (bif n'==13 then((M.jE iT).bind fun aD9=>(k ((gq==0,aD9,false,1,6)))) else
 (bif n'==6 then(k ((gq==0,iT==[],false,1,1))) else
 (bif n'==7 then((M.jE iT).bind fun aEa=>(k ((gq==0,aEa,false,0,6)))) else
 (bif n'==8 then((M.lq iT).bind fun aEb=>(k ((gq==0,aEb,false,0,6)))) else
 (bif n'==9 then((M.dA gq).bind fun aEc=>(k ((aEc,iT==[],false,1,1)))) else
 (bif n'==10 then((M.dA gq).bind fun aEd=>(k ((aEd,iT==[],false,1,1)))) else
 (bif n'==11 then
 (bif gq==55 then(k ((true,iT==[],false,1,1))) else
 (bif gq==56 then(k ((true,iT==[],false,1,1))) else(k ((gq==61,iT==[],false,1,1))))) else
 (bif n'==12 then((M.lJ gq).bind fun aEe=>(k ((aEe !=0,iT==[],false,2,2)))) else
 (bif n'==14 then(k ((gq==0,iT==[],false,3,3))) else((M.um gq).bind fun aEf=>(k ((aEf,iT==[],false,2,2)))))))))))))))))
def M.bQ(n' gq:Int)(iT iG:aF)(iF:ak):Option (Bool×Bool×Bool×Int×Int):=M.bF n' gq iT iG iF some
theorem C.bQ:S.bQ.ok X0 fun x=>M.bQ x.1.1.1 x.1.1.2.1 x.1.1.2.2.1 x.1.1.2.2.2.1 x.1.1.2.2.2.2.1:=fnS (fun x=>M.bF x.1.1.1 x.1.1.2.1 x.1.1.2.2.1 x.1.1.2.2.2.1 x.1.1.2.2.2.2.1) [fe C.jE,fe C.ny,fe C.lq,fe C.dA,fe C.lJ,fe C.um] [] (by intros;unfold M.bF;repeat' first|with_reducible apply gG|with_reducible apply Gp|with_reducible apply Gq|with_reducible apply Gs|with_reducible apply Gt|(intro _)|apply gG|rfl)
def M.bY{R:Type}(kind:Int)(k:Bool→Option R):Option R:=
 (M.dV kind 20 34).bind fun aEg=>(k aEg)
def M.cO(kind:Int):Option (Bool):=M.bY kind some
theorem C.cO:S.cO.ok X0 fun x=>M.cO x.1.1:=fnS (fun x=>M.bY x.1.1) [fe C.dV] [] (by intros;simp only[M.bY,nb]<;>rfl)
def M.bG{R:Type}(n' gq:Int)(iT iG:aF)(iF:ak)(k:Bool×Bool×Bool×Int×Int→Option R):Option R:=
 bif n'==20 then(k ((gq==0,iT==[],iG==[],1,1))) else
 (bif n'==21 then
 (bif gq==0 then
 ((M.slices_Contains ([[D.str []],[D.str [62]],[D.str [62,62]],[D.str [124]]]) iG).bind fun auY=>
 (bif !iG==[] then(k ((true,iT==[],auY,IntKind.i64.wrap (gq+1),7))) else(k ((true,iT==[],auY,gq,6))))) else
 ((M.slices_Contains ([[D.str []],[D.str [62]],[D.str [62,62]],[D.str [124]]]) iG).bind fun auZ=>
 (bif !iG==[] then(k ((gq==1,iT==[],auZ,IntKind.i64.wrap (gq+1),7))) else(k ((gq==1,iT==[],auZ,gq,6)))))) else
 (bif n'==23 then(k ((gq==0,iT==[],iG==[],0,1))) else
 (bif n'==24 then(k ((gq==0,iT==[],iG==[],0,1))) else
 (bif n'==27 then((M.jE iT).bind fun aEh=>(k ((gq==0,aEh,iG==[],0,6)))) else
 (bif n'==28 then(k ((gq==0,iT==[],iG==[],2,3))) else
 (bif n'==29 then(k ((gq==0,iT==[],iG==[],2,2))) else
 (bif n'==30 then(k ((gq==0,iT==[],iG==[],2,2))) else
 (bif n'==31 then(k ((gq==0,iT==[],iG==[],4,4))) else
 (bif n'==32 then
 ((M.jE iT).bind fun aEi=>((M.jE iG).bind fun aEj=>(k ((gq==0,aEi,aEj,1,1))))) else
 (bif n'==33 then(k ((gq==0,iT==[],iG==[],0,400))) else
 (bif n'==34 then((M.ny 2 iT 0).bind fun aEk=>(k ((gq==0,aEk,iG==[],0,0)))) else(k ((gq==0,iT==[],iG==[],0,0))))))))))))))
def M.bT(n' gq:Int)(iT iG:aF)(iF:ak):Option (Bool×Bool×Bool×Int×Int):=M.bG n' gq iT iG iF some
theorem C.bT:S.bT.ok X0 fun x=>M.bT x.1.1.1 x.1.1.2.1 x.1.1.2.2.1 x.1.1.2.2.2.1 x.1.1.2.2.2.2.1:=fnS (fun x=>M.bG x.1.1.1 x.1.1.2.1 x.1.1.2.2.1 x.1.1.2.2.2.1 x.1.1.2.2.2.2.1) [fe C.slices_Contains,fe C.jE,fe C.ny] [] (by intros;unfold M.bG;repeat' first|with_reducible apply gG|with_reducible apply Gp|with_reducible apply Gq|with_reducible apply Gs|with_reducible apply Gt|(intro _)|apply gG|rfl)
def M.bH{R:Type}(n' gq:Int)(iT iG:aF)(iF:ak)(k:Bool×Bool×Bool×Int×Int→Option R):Option R:=
 bif n'==40 then(k ((gq==0,iT==[],iG==[],1,1))) else
 (bif n'==41 then(k ((gq==0,iT==[],iG==[],1,1))) else
 (bif n'==42 then
 ((M.dV gq 1 3).bind fun au0=>
 (bif gq==3 then(k ((au0,iT==[],iG==[],2,2))) else(k ((au0,iT==[],iG==[],1,1))))) else
 (bif n'==43 then
 (bif gq==1 then
 (bif gq==3 then(k ((true,iT==[],iG==[],3,3))) else(k ((true,iT==[],iG==[],2,2)))) else
 (bif gq==3 then(k ((gq==3,iT==[],iG==[],3,3))) else(k ((gq==3,iT==[],iG==[],2,2))))) else
 (bif n'==44 then((M.jE iT).bind fun aEl=>(k ((gq==0,aEl,iG==[],1,7)))) else(k ((gq==0,iT==[],iG==[],0,400)))))))
def M.bU(n' gq:Int)(iT iG:aF)(iF:ak):Option (Bool×Bool×Bool×Int×Int):=M.bH n' gq iT iG iF some
theorem C.bU:S.bU.ok X0 fun x=>M.bU x.1.1.1 x.1.1.2.1 x.1.1.2.2.1 x.1.1.2.2.2.1 x.1.1.2.2.2.2.1:=fnS (fun x=>M.bH x.1.1.1 x.1.1.2.1 x.1.1.2.2.1 x.1.1.2.2.2.1 x.1.1.2.2.2.2.1) [fe C.dV,fe C.jE] [] (by intros;simp only[M.bH,nb]<;>rfl)
def M.bf{R:Type}(n' gq:Int)(iT iG:aF)(iF:ak)(k:Bool→Option R):Option R:=
 (M.bK n').bind fun aTe=>
 (bif aTe then
 ((M.bQ n' gq iT iG iF).bind fun ano=>
 (bif ano.1 then
 (bif ano.2.1 then
 (bif iG==[] then
 ((M.dV ((↑iF.length:Int)) ano.2.2.2.1 ano.2.2.2.2).bind fun aEm=>(k aEm)) else(k false)) else(k false)) else(k false))) else
 (bif n'==16 then
 (bif gq==0 then
 (bif iT==[] then
 (bif iG==[] then((M.dV ((↑iF.length:Int)) 0 0).bind fun aEn=>(k aEn)) else(k false)) else(k false)) else(k false)) else
 ((M.cO n').bind fun aEo=>
 (bif aEo then
 ((M.bT n' gq iT iG iF).bind fun agD=>
 (bif agD.1 then
 (bif agD.2.1 then
 (bif agD.2.2.1 then
 ((M.dV ((↑iF.length:Int)) agD.2.2.2.1 agD.2.2.2.2).bind fun aEp=>(k aEp)) else(k false)) else(k false)) else(k false))) else
 ((M.dV n' 40 45).bind fun aEq=>
 (bif aEq then
 ((M.bU n' gq iT iG iF).bind fun agE=>
 (bif agE.1 then
 (bif agE.2.1 then
 (bif agE.2.2.1 then
 ((M.dV ((↑iF.length:Int)) agE.2.2.2.1 agE.2.2.2.2).bind fun aEr=>(k aEr)) else(k false)) else(k false)) else(k false))) else(k false)))))))
def M.bM(n' gq:Int)(iT iG:aF)(iF:ak):Option (Bool):=M.bf n' gq iT iG iF some
theorem C.bM:S.bM.ok X0 fun x=>M.bM x.1.1.1 x.1.1.2.1 x.1.1.2.2.1 x.1.1.2.2.2.1 x.1.1.2.2.2.2.1:=fnS (fun x=>M.bf x.1.1.1 x.1.1.2.1 x.1.1.2.2.1 x.1.1.2.2.2.1 x.1.1.2.2.2.2.1) [fe C.bK,fe C.bQ,fe C.dV,fe C.cO,fe C.bT,fe C.bU] [] (by intros;unfold M.bf;repeat' first|with_reducible apply gG|with_reducible apply Gp|with_reducible apply Gq|with_reducible apply Gs|with_reducible apply Gt|(intro _)|apply gG|rfl)
def M.FP{R:Type}(kind:Int)(k:Bool→Option R):Option R:=
 bif kind==1 then(k true) else(bif kind==5 then(k true) else(k (kind==6)))
def M.ou(kind:Int):Option (Bool):=M.FP kind some
theorem C.ou:S.ou.ok X0 fun x=>M.ou x.1.1:=fnS (fun x=>M.FP x.1.1) [] [] (by intros;simp only[M.FP,nb]<;>rfl)
def M.Kz{R:Type}(kind:Int)(k:Bool→Option R):Option R:=
 (M.dV kind 40 44).bind fun aEs=>(k aEs)
def M.zU(kind:Int):Option (Bool):=M.Kz kind some
theorem C.zU:S.zU.ok X0 fun x=>M.zU x.1.1:=fnS (fun x=>M.Kz x.1.1) [fe C.dV] [] (by intros;simp only[M.Kz,nb]<;>rfl)
def M.bV{R:Type}(n' gq:Int)(iT iG:aF)(iF:ak)(k' kid:Int)(k:Bool→Option R):Option R:=
 bif n'==9 then((M.ou kid).bind fun aEt=>(k aEt)) else
 (bif n'==10 then((M.ou kid).bind fun aEu=>(k aEu)) else
 (bif n'==15 then
 (bif k'==0 then
 ((M.ou kid).bind fun aEv=>
 (bif aEv then(k true) else(bif decide (k'>0) then((M.bK kid).bind fun aEw=>(k aEw)) else(k false)))) else(bif decide (k'>0) then((M.bK kid).bind fun aEx=>(k aEx)) else(k false))) else
 (bif n'==28 then
 (bif decide (k'>0) then(k (kid==33)) else((M.bK kid).bind fun aEy=>(k aEy))) else
 (bif n'==29 then
 (bif decide (k'>0) then(k (kid==33)) else((M.bK kid).bind fun aEz=>(k aEz))) else
 (bif n'==31 then
 (bif decide (k'<3) then
 (bif kid==16 then(k true) else
 (bif k'==IntKind.i64.wrap ((↑iF.length:Int) - 1) then(k (kid==33)) else((M.bK kid).bind fun aEA=>(k aEA)))) else
 (bif k'==IntKind.i64.wrap ((↑iF.length:Int) - 1) then(k (kid==33)) else((M.bK kid).bind fun aEB=>(k aEB)))) else
 (bif n'==30 then(bif k'==0 then(k (kid==33)) else((M.bK kid).bind fun aEC=>(k aEC))) else
 (bif n'==32 then(k (kid==33)) else
 (bif n'==40 then(k (kid==33)) else
 (bif n'==41 then(k (kid==33)) else
 (bif n'==33 then((M.cO kid).bind fun aED=>(k aED)) else
 (bif n'==42 then
 (bif k'==IntKind.i64.wrap ((↑iF.length:Int) - 1) then
 (bif decide (gq≥2) then(k (kid==33)) else((M.bK kid).bind fun aEE=>(k aEE))) else((M.bK kid).bind fun aEF=>(k aEF))) else
 (bif n'==43 then
 (bif k'==IntKind.i64.wrap ((↑iF.length:Int) - 1) then(bif gq==3 then(k (kid==33)) else((M.bK kid).bind fun aEG=>(k aEG))) else((M.bK kid).bind fun aEH=>(k aEH))) else
 (bif n'==44 then
 (bif !k'==IntKind.i64.wrap ((↑iF.length:Int) - 1) then(k (kid==1)) else(k (kid==33))) else
 (bif n'==45 then((M.zU kid).bind fun aEI=>(bif aEI then(k true) else(k (kid==34)))) else((M.bK kid).bind fun aEJ=>(k aEJ))))))))))))))))
def M.dh(n' gq:Int)(iT iG:aF)(iF:ak)(k' kid:Int):Option (Bool):=M.bV n' gq iT iG iF k' kid some
theorem C.dh:S.dh.ok X0 fun x=>M.dh x.1.1.1 x.1.1.2.1 x.1.1.2.2.1 x.1.1.2.2.2.1 x.1.1.2.2.2.2.1 x.1.2.1 x.1.2.2.1:=fnS (fun x=>M.bV x.1.1.1 x.1.1.2.1 x.1.1.2.2.1 x.1.1.2.2.2.1 x.1.1.2.2.2.2.1 x.1.2.1 x.1.2.2.1) [fe C.ou,fe C.bK,fe C.cO,fe C.zU] [] (by intros;unfold M.bV;repeat' first|with_reducible apply gG|with_reducible apply Gp|with_reducible apply Gq|with_reducible apply Gs|with_reducible apply Gt|(intro _)|apply gG|rfl)
def M.kK{R:Type}(ji:ak→Int→Option (Int×Int×aF×aF×ak))(s:(ak×ak×Int×Int×Int×Int×aF×aF×Int×Int×aF×aF)⊕(ak×ak×Int×Int×Int×Int×aF×aF×Int×Int×aF×aF×ak))(kn:(ak×ak×Int×Int×Int×Int×aF×aF×Int×Int×aF×aF)⊕(ak×ak×Int×Int×Int×Int×aF×aF×Int×Int×aF×aF×ak)→Option R)(ke:(ak×ak×Int×Int×Int×Int×aF×aF×Int×Int×aF×aF)⊕(ak×ak×Int×Int×Int×Int×aF×aF×Int×Int×aF×aF×ak)→Option R):Option R:=match s with
 | .inl ((l,v23,v24,v25,x',uJ,xX,CV,zC,Rf,LV,ES))=>
 bif decide (v25<v24) then
 ((idx v23 v25).bind fun aug=>
 ((dn .i64 aug 0).bind fun aEK=>
 ((ji l aEK).bind fun agF=>
 (kn (.inr ((l,v23,v24,IntKind.i64.wrap (v25+1),x',uJ,xX,CV,zC,Rf,LV,ES,[[D.int .i64 agF.1,D.int .i64 agF.2.1,D.str agF.2.2.1,D.str agF.2.2.2.1,D.sl true 5 agF.2.2.2.2]]))))))) else(ke (.inl ((l,v23,v24,v25,x',uJ,xX,CV,zC,Rf,LV,ES))))
 | .inr ((l,v23,v24,v25,x',uJ,xX,CV,zC,Rf,LV,ES,x'8))=>
 bif decide (v25<v24) then
 ((idx v23 v25).bind fun auh=>
 ((dn .i64 auh 0).bind fun aEL=>
 ((ji l aEL).bind fun Nu=>
 (bif((x'8.length+[[D.int .i64 Nu.1,D.int .i64 Nu.2.1,D.str Nu.2.2.1,D.str Nu.2.2.2.1,D.sl true 5 Nu.2.2.2.2]].length) * 72).ble 140737488355328 then
 (bif(x'8.length+[[D.int .i64 Nu.1,D.int .i64 Nu.2.1,D.str Nu.2.2.1,D.str Nu.2.2.2.1,D.sl true 5 Nu.2.2.2.2]].length).ble 140737488355328 then
 (kn (.inr ((l,v23,v24,IntKind.i64.wrap (v25+1),x',uJ,xX,CV,zC,Rf,LV,ES,x'8++[[D.int .i64 Nu.1,D.int .i64 Nu.2.1,D.str Nu.2.2.1,D.str Nu.2.2.2.1,D.sl true 5 Nu.2.2.2.2]])))) else none) else none)))) else(ke (.inr ((l,v23,v24,v25,x',uJ,xX,CV,zC,Rf,LV,ES,x'8))))
def M.kL(ji:ak→Int→Option (Int×Int×aF×aF×ak))(s:(ak×ak×Int×Int×Int×Int×aF×aF×Int×Int×aF×aF)⊕(ak×ak×Int×Int×Int×Int×aF×aF×Int×Int×aF×aF×ak)):=M.kK ji s (fun s=>some (Sum.inl s)) fun t=>some (Sum.inr t)
def M.Du(ji:ak→Int→Option (Int×Int×aF×aF×ak))(s:(ak×ak×Int×Int×Int×Int×aF×aF×Int×Int×aF×aF)⊕(ak×ak×Int×Int×Int×Int×aF×aF×Int×Int×aF×aF×ak)):Option ((ak×ak×Int×Int×Int×Int×aF×aF×Int×Int×aF×aF)⊕(ak×ak×Int×Int×Int×Int×aF×aF×Int×Int×aF×aF×ak)):=iR (M.kL ji) s
def F.Du{ji:ak→Int→Option (Int×Int×aF×aF×ak)}(Ot:S.nP.ok X0 fun x=>ji x.1.1 x.1.2.1):LE X0 88:=le 4 (pOr (La [fU 0 (pL false 5),fU 4 (pP 300000 0),fU 6 (pP 300001 0),fU 23 (pL false 1),fU 24 pI,fU 25 pI] [fU 300000 (cB 53 [pI,pI,pS,pS,abk 5]),fU 300001 (cB 53 [pI,pI,pS,pS,abk 5])]) (La [fU 0 (pL false 5),fU 4 (pP 300000 0),fU 6 (pP 300001 0),fU 23 (pL false 1),fU 24 pI,fU 25 pI] [fU 300000 (cB 53 [pI,pI,pS,pS,abk 5]),fU 300001 (cB 53 [pI,pI,pS,pS,pO 300002 0]),fU 300002 (cA false false 0 5)])) (σ:=(ak×ak×Int×Int×Int×Int×aF×aF×Int×Int×aF×aF)⊕(ak×ak×Int×Int×Int×Int×aF×aF×Int×Int×aF×aF×ak)) (fun x=>(match x with| .inl x=> .inl ((x.1.1,x.1.2.2.2.1,x.1.2.2.2.2.1,x.1.2.2.2.2.2.1,x.2.1.1,x.2.1.2.1,x.2.1.2.2.1,x.2.1.2.2.2.1,x.2.2.1.1,x.2.2.1.2.1,x.2.2.1.2.2.1,x.2.2.1.2.2.2.1))| .inr x=> .inr ((x.1.1,x.1.2.2.2.1,x.1.2.2.2.2.1,x.1.2.2.2.2.2.1,x.2.1.1,x.2.1.2.1,x.2.1.2.2.1,x.2.1.2.2.2.1,x.2.2.1.1,x.2.2.1.2.1,x.2.2.1.2.2.1,x.2.2.1.2.2.2.1,x.2.2.2.1)))) (fun x s=>(match s with| .inl s=> .inl (((s.1,(),(),s.2.1,s.2.2.1,s.2.2.2.1,()),((s.2.2.2.2.1,s.2.2.2.2.2.1,s.2.2.2.2.2.2.1,s.2.2.2.2.2.2.2.1,(),()),(s.2.2.2.2.2.2.2.2.1,s.2.2.2.2.2.2.2.2.2.1,s.2.2.2.2.2.2.2.2.2.2.1,s.2.2.2.2.2.2.2.2.2.2.2,(),()),())))| .inr s=> .inr (((s.1,(),(),s.2.1,s.2.2.1,s.2.2.2.1,()),((s.2.2.2.2.1,s.2.2.2.2.2.1,s.2.2.2.2.2.2.1,s.2.2.2.2.2.2.2.1,(),()),(s.2.2.2.2.2.2.2.2.1,s.2.2.2.2.2.2.2.2.2.1,s.2.2.2.2.2.2.2.2.2.2.1,s.2.2.2.2.2.2.2.2.2.2.2.1,(),()),s.2.2.2.2.2.2.2.2.2.2.2.2,()))))) (fun x=> .sum (.leaf (ak×ak×Int×Int×Int×Int×aF×aF×Int×Int×aF×aF) (fun t=>(Ex.exit 0,{tm:=[(0,V.d (D.sl false 5 t.1)),(4,V.ptr 300000 0),(6,V.ptr 300001 0),(23,V.d (D.sl false 1 t.2.1)),(24,V.d (D.int .i64 t.2.2.1)),(25,V.d (D.int .i64 t.2.2.2.1)),(26,V.d (D.bool false))],mem:=[(300000,Cell.box 53 [V.d (D.int .i64 t.2.2.2.2.1),V.d (D.int .i64 t.2.2.2.2.2.1),V.d (D.str t.2.2.2.2.2.2.1),V.d (D.str t.2.2.2.2.2.2.2.1),V.nil 5]),(300001,Cell.box 53 [V.d (D.int .i64 t.2.2.2.2.2.2.2.2.1),V.d (D.int .i64 t.2.2.2.2.2.2.2.2.2.1),V.d (D.str t.2.2.2.2.2.2.2.2.2.2.1),V.d (D.str t.2.2.2.2.2.2.2.2.2.2.2),V.nil 5])]}))) (.leaf (ak×ak×Int×Int×Int×Int×aF×aF×Int×Int×aF×aF×ak) (fun t=>(Ex.exit 0,{tm:=[(0,V.d (D.sl false 5 t.1)),(4,V.ptr 300000 0),(6,V.ptr 300001 0),(23,V.d (D.sl false 1 t.2.1)),(24,V.d (D.int .i64 t.2.2.1)),(25,V.d (D.int .i64 t.2.2.2.1)),(26,V.d (D.bool false))],mem:=[(300000,Cell.box 53 [V.d (D.int .i64 t.2.2.2.2.1),V.d (D.int .i64 t.2.2.2.2.2.1),V.d (D.str t.2.2.2.2.2.2.1),V.d (D.str t.2.2.2.2.2.2.2.1),V.nil 5]),(300001,Cell.box 53 [V.d (D.int .i64 t.2.2.2.2.2.2.2.2.1),V.d (D.int .i64 t.2.2.2.2.2.2.2.2.2.1),V.d (D.str t.2.2.2.2.2.2.2.2.2.2.1),V.d (D.str t.2.2.2.2.2.2.2.2.2.2.2.1),V.own 300002 0]),(300002,Cell.arr false false 0 5 t.2.2.2.2.2.2.2.2.2.2.2.2)]})))) (fun x=>M.kK ji) [fe Ot] [] (by rintro _ _ (⟨_,_,_,_,_,_,_,_,_,_,_,_⟩|⟨_,_,_,_,_,_,_,_,_,_,_,_,_⟩) _ _<;>simp only[M.kK,nb]<;>rfl) (hE:=by intro _ _ s _;rcases s with s|s<;>kernel_rfl)
def M.BD{R:Type}(ji:ak→Int→Option (Int×Int×aF×aF×ak))(l:ak)(i:Int)(k:Int×Int×aF×aF×ak→Option R):Option R:=
 (idx l i).bind fun Wi=>
 ((dn .i64 Wi 0).bind fun aEM=>
 ((dn .i64 Wi 1).bind fun aEN=>
 ((cStr Wi 2).bind fun aEO=>
 ((cStr Wi 3).bind fun aEP=>
 ((BK 1 Wi 4).bind fun agG=>
 ((M.Du ji (.inl ((l,agG,(↑agG.length:Int),0,0,0,[],[],aEM,aEN,aEO,aEP)))).bind fun aEQ=>
 xZ aEQ (fun anp=>
 (k ((anp.2.2.2.2.2.2.2.2.1,anp.2.2.2.2.2.2.2.2.2.1,anp.2.2.2.2.2.2.2.2.2.2.1,anp.2.2.2.2.2.2.2.2.2.2.2,[])))) fun aER=>
 letE aER fun agH=>
 (k ((agH.2.2.2.2.2.2.2.2.1,agH.2.2.2.2.2.2.2.2.2.1,agH.2.2.2.2.2.2.2.2.2.2.1,agH.2.2.2.2.2.2.2.2.2.2.2.1,agH.2.2.2.2.2.2.2.2.2.2.2.2)))))))))
def M.jq:Nat→ak→Int→Option (Int×Int×aF×aF×ak)
 |0=>fun _ _=>none
 |n+1=>fun l i=>M.BD (M.jq n) l i some
def M.nP(l:ak)(i:Int):Option (Int×Int×aF×aF×ak):=lim fun n=>M.jq n l i
theorem C.abS{ji:ak→Int→Option (Int×Int×aF×aF×ak)}(Ot:S.nP.ok X0 fun x=>ji x.1.1 x.1.2.1):S.nP.ok X0 fun x=>M.BD ji x.1.1 x.1.2.1 some:=fnS (fun x=>M.BD ji x.1.1 x.1.2.1) [] [F.Du Ot] (by intros;simp only[M.BD,nb]<;>rfl)
theorem C.jq:∀n,S.nP.ok X0 fun x=>M.jq n x.1.1 x.1.2.1
 |0=>fH.zero
 |n+1=>C.abS (C.jq n)
theorem C.nP:S.nP.ok X0 fun x=>M.nP x.1.1 x.1.2.1:=fH.lim C.jq
theorem M.Ri{n:Nat}{l:ak}{i:Int}{r:Int×Int×aF×aF×ak}(h:M.jq n l i=some r):M.nP l i=some r:=
 fH.EJ C.jq (by intro a b h;simp[S.nP,sg] at h;first|exact h|simp[Prod.ext_iff,h]) (x:=((l,i,()),())) h
def M.EX{R:Type}(l:ak)(k:Int×Int×aF×aF×ak→Option R):Option R:=
 (M.nP l (IntKind.i64.wrap ((↑l.length:Int) - 1))).bind fun agI=>
 (k ((agI.1,agI.2.1,agI.2.2.1,agI.2.2.2.1,agI.2.2.2.2)))
def M.rJ(l:ak):Option (Int×Int×aF×aF×ak):=M.EX l some
theorem C.rJ:S.rJ.ok X0 fun x=>M.rJ x.1.1:=fnS (fun x=>M.EX x.1.1) [fe C.nP] [] (by intros;simp only[M.EX,nb]<;>rfl)
def M.rP{R:Type}(gu:Int→Int→aF→aF→ak→Option (Int))(v7:ak)(v8:Int)(s:Int×Int)(kn:Int×Int→Option R)(ke:Int×Int→Option R):Option R:=match s with
 |(most,v9)=>
 bif decide (v9<v8) then
 ((idx v7 v9).bind fun Wj=>
 ((dn .i64 Wj 0).bind fun aES=>
 ((dn .i64 Wj 1).bind fun aET=>
 ((cStr Wj 2).bind fun aEU=>
 ((cStr Wj 3).bind fun aEV=>
 ((BK 5 Wj 4).bind fun aq6=>
 ((gu aES aET aEU aEV aq6).bind fun au1=>(kn ((bif decide (most<au1) then au1 else most,IntKind.i64.wrap (v9+1))))))))))) else(ke ((most,v9)))
def M.xG(gu:Int→Int→aF→aF→ak→Option (Int))(v7:ak)(v8:Int)(s:Int×Int):=M.rP gu v7 v8 s (fun s=>some (Sum.inl s)) fun t=>some (Sum.inr t)
def M.Ap(gu:Int→Int→aF→aF→ak→Option (Int))(v7:ak)(v8:Int)(s:Int×Int):Option (Int×Int):=iR (M.xG gu v7 v8) s
def F.Ap{gu:Int→Int→aF→aF→ak→Option (Int)}(II:S.kC.ok X0 fun x=>gu x.1.1.1 x.1.1.2.1 x.1.1.2.2.1 x.1.1.2.2.2.1 x.1.1.2.2.2.2.1):LE X0 78:=le 3 (La [fU 3 pI,fU 7 (pL false 5),fU 8 pI,fU 9 pI] []) (fun x=>(x.1.1,x.1.2.2.2.1)) (fun x s=>((s.1,x.1.2.1,x.1.2.2.1,s.2,()),())) (fun x=> .leaf (Int×Int) (fun t=>(Ex.exit 0,{tm:=[(3,V.d (D.int .i64 t.1)),(7,V.d (D.sl false 5 x.1.2.1)),(8,V.d (D.int .i64 x.1.2.2.1)),(9,V.d (D.int .i64 t.2)),(10,V.d (D.bool false))],mem:=[]}))) (fun x=>M.rP gu x.1.2.1 x.1.2.2.1) [fe II] [] (by rintro _ _ ⟨_,_⟩ _ _<;>simp only[M.rP,nb]<;>rfl)
def M.xH{R:Type}(gu:Int→Int→aF→aF→ak→Option (Int))(t' gX:Int)(iK jr:aF)(iM:ak)(k:Int→Option R):Option R:=
 (M.Ap gu iM ((↑iM.length:Int)) ((0,0))).bind fun aEW=>(k (IntKind.i64.wrap (aEW.1+1)))
def M.jA:Nat→Int→Int→aF→aF→ak→Option (Int)
 |0=>fun _ _ _ _ _=>none
 |n+1=>fun t' gX iK jr iM=>M.xH (M.jA n) t' gX iK jr iM some
def M.kC(t' gX:Int)(iK jr:aF)(iM:ak):Option (Int):=lim fun n=>M.jA n t' gX iK jr iM
theorem C.U8{gu:Int→Int→aF→aF→ak→Option (Int)}(II:S.kC.ok X0 fun x=>gu x.1.1.1 x.1.1.2.1 x.1.1.2.2.1 x.1.1.2.2.2.1 x.1.1.2.2.2.2.1):S.kC.ok X0 fun x=>M.xH gu x.1.1.1 x.1.1.2.1 x.1.1.2.2.1 x.1.1.2.2.2.1 x.1.1.2.2.2.2.1 some:=fnS (fun x=>M.xH gu x.1.1.1 x.1.1.2.1 x.1.1.2.2.1 x.1.1.2.2.2.1 x.1.1.2.2.2.2.1) [] [F.Ap II] (by intros;simp only[M.xH,nb]<;>rfl)
theorem C.jA:∀n,S.kC.ok X0 fun x=>M.jA n x.1.1.1 x.1.1.2.1 x.1.1.2.2.1 x.1.1.2.2.2.1 x.1.1.2.2.2.2.1
 |0=>fH.zero
 |n+1=>C.U8 (C.jA n)
theorem C.kC:S.kC.ok X0 fun x=>M.kC x.1.1.1 x.1.1.2.1 x.1.1.2.2.1 x.1.1.2.2.2.1 x.1.1.2.2.2.2.1:=fH.lim C.jA
theorem M.U9{n:Nat}{t' gX:Int}{iK jr:aF}{iM:ak}{r:Int}(h:M.jA n t' gX iK jr iM=some r):M.kC t' gX iK jr iM=some r:=
 fH.EJ C.jA (by intro a b h;simp[S.kC,sg] at h;first|exact h|simp[Prod.ext_iff,h]) (x:=(((t',gX,iK,jr,iM,()),()),())) h
def M.zi{R:Type}(l v10:ak)(v11 v12:Int)(v20:ak)(v21 x' uJ:Int)(xX CV:aF)(zC:ak)(s:Int)(kn:Int→Option R)(ke:(Unit)⊕(Int)→Option R):Option R:=match s with
 |v22=>
 bif decide (v22<v21) then
 ((idx v20 v22).bind fun aui=>
 ((dn .i64 aui 0).bind fun aEX=>
 ((idx l aEX).bind fun auj=>
 ((dn .i64 auj 0).bind fun aEY=>
 ((M.dh x' uJ xX CV zC v22 aEY).bind fun aEZ=>(bif !aEZ then(ke (.inl ())) else(kn (IntKind.i64.wrap (v22+1))))))))) else(ke (.inr v22))
def M.JF(l v10:ak)(v11 v12:Int)(v20:ak)(v21 x' uJ:Int)(xX CV:aF)(zC:ak)(s:Int):=M.zi l v10 v11 v12 v20 v21 x' uJ xX CV zC s (fun s=>some (Sum.inl s)) fun t=>some (Sum.inr t)
def M.Dv(l v10:ak)(v11 v12:Int)(v20:ak)(v21 x' uJ:Int)(xX CV:aF)(zC:ak)(s:Int):Option ((Unit)⊕(Int)):=iR (M.JF l v10 v11 v12 v20 v21 x' uJ xX CV zC) s
def F.Dv:LE X0 33:=le 9 (La [fU 0 (pL false 5),fU 4 (pP 300000 0),fU 10 (pL false 5),fU 11 pI,fU 12 pI,fU 20 (pL false 1),fU 21 pI,fU 22 pI] [fU 300000 (cB 42 [pI,pI,pS,pS,pL false 1])]) (fun x=>x.1.2.2.2.2.2.2.2.1) (fun x s=>((x.1.1,(),x.1.2.2.1,x.1.2.2.2.1,x.1.2.2.2.2.1,x.1.2.2.2.2.2.1,x.1.2.2.2.2.2.2.1,s,()),((x.2.1.1,x.2.1.2.1,x.2.1.2.2.1,x.2.1.2.2.2.1,x.2.1.2.2.2.2.1,()),()))) (fun x=> .sum (.leaf (Unit) (fun t=>(Ex.ret,{tm:=[(2,V.d (D.bool false))],mem:=[]}))) (.leaf (Int) (fun t=>(Ex.exit 2,{tm:=[(0,V.d (D.sl false 5 x.1.1)),(4,V.ptr 300000 0),(10,V.d (D.sl false 5 x.1.2.2.1)),(11,V.d (D.int .i64 x.1.2.2.2.1)),(12,V.d (D.int .i64 x.1.2.2.2.2.1)),(20,V.d (D.sl false 1 x.1.2.2.2.2.2.1)),(21,V.d (D.int .i64 x.1.2.2.2.2.2.2.1)),(22,V.d (D.int .i64 t)),(23,V.d (D.bool false))],mem:=[(300000,Cell.box 42 [V.d (D.int .i64 x.2.1.1),V.d (D.int .i64 x.2.1.2.1),V.d (D.str x.2.1.2.2.1),V.d (D.str x.2.1.2.2.2.1),V.d (D.sl false 1 x.2.1.2.2.2.2.1)])]})))) (fun x=>M.zi x.1.1 x.1.2.2.1 x.1.2.2.2.1 x.1.2.2.2.2.1 x.1.2.2.2.2.2.1 x.1.2.2.2.2.2.2.1 x.2.1.1 x.2.1.2.1 x.2.1.2.2.1 x.2.1.2.2.2.1 x.2.1.2.2.2.2.1) [fe C.dh] [] (by rintro _ _ _ _ _<;>simp only[M.zi,nb]<;>rfl)
def M.zk{R:Type}(l v10:ak)(v11 s:Int)(kn:Int→Option R)(ke:(Unit)⊕(Int)→Option R):Option R:=match s with
 |v12=>
 bif decide (v12<v11) then
 ((idx v10 v12).bind fun abT=>
 ((dn .i64 abT 0).bind fun aE0=>
 ((dn .i64 abT 1).bind fun aE1=>
 ((cStr abT 2).bind fun aE2=>
 ((cStr abT 3).bind fun aE3=>
 ((BK 1 abT 4).bind fun aam=>
 ((M.bM aE0 aE1 aE2 aE3 aam).bind fun aE4=>
 (bif !aE4 then(ke (.inl ())) else
 ((M.Dv l v10 v11 v12 aam ((↑aam.length:Int)) aE0 aE1 aE2 aE3 aam 0).bind fun aE5=>
 xZ aE5 (fun aTQ=>(ke (.inl ()))) fun aE6=>
 letE aE6 fun aTR=>(kn (IntKind.i64.wrap (v12+1)))))))))))) else(ke (.inr v12))
def M.JG(l v10:ak)(v11 s:Int):=M.zk l v10 v11 s (fun s=>some (Sum.inl s)) fun t=>some (Sum.inr t)
def M.Dw(l v10:ak)(v11 s:Int):Option ((Unit)⊕(Int)):=iR (M.JG l v10 v11) s
def F.Dw:LE X0 33:=le 4 (La [fU 0 (pL false 5),fU 10 (pL false 5),fU 11 pI,fU 12 pI] []) (fun x=>x.1.2.2.2.1) (fun x s=>((x.1.1,x.1.2.1,x.1.2.2.1,s,()),())) (fun x=> .sum (.leaf (Unit) (fun t=>(Ex.ret,{tm:=[(2,V.d (D.bool false))],mem:=[]}))) (.leaf (Int) (fun t=>(Ex.exit 0,{tm:=[(0,V.d (D.sl false 5 x.1.1)),(10,V.d (D.sl false 5 x.1.2.1)),(11,V.d (D.int .i64 x.1.2.2.1)),(12,V.d (D.int .i64 t)),(13,V.d (D.bool false))],mem:=[]})))) (fun x=>M.zk x.1.1 x.1.2.1 x.1.2.2.1) [fe C.bM] [F.Dv] (by rintro _ _ _ _ _<;>simp only[M.zk,nb]<;>rfl)
def M.KA{R:Type}(l:ak)(k:Bool→Option R):Option R:=
 (M.wO l).bind fun aTf=>
 (bif !aTf then(k false) else
 ((M.Dw l l ((↑l.length:Int)) 0).bind fun aE7=>
 xZ aE7 (fun aTS=>(k false)) fun aE8=>
 letE aE8 fun aTT=>
 ((M.rJ l).bind fun agJ=>
 ((M.kC agJ.1 agJ.2.1 agJ.2.2.1 agJ.2.2.2.1 (aA agJ.2.2.2.2)).bind fun aE9=>(k (decide (aE9≤40)))))))
def M.zV(l:ak):Option (Bool):=M.KA l some
theorem C.zV:S.zV.ok X0 fun x=>M.zV x.1.1:=fnS (fun x=>M.KA x.1.1) [fe C.wO,fe C.rJ,fe C.kC] [F.Dw] (by intros;simp only[M.KA,nb]<;>rfl)
def M.Va{R:Type}(k:Int×Bool×Bool×Bool×Bool→Option R):Option R:=
 k ((1,false,false,false,false))
def M.qo:Option (Int×Bool×Bool×Bool×Bool):=M.Va some
theorem C.qo:S.qo.ok X0 fun x=>M.qo:=fnS (fun x=>M.Va) [] [] (by intros;simp only[M.Va,nb]<;>rfl)
def M.mJ{R:Type}(s:(Int×Int×Int×Int×aF×aF×Int×Int×aF×aF)⊕(Int×Int×Int×Int×aF×aF×Int×Int×aF×aF×ak))(kn:(Int×Int×Int×Int×aF×aF×Int×Int×aF×aF)⊕(Int×Int×Int×Int×aF×aF×Int×Int×aF×aF×ak)→Option R)(ke:(Int×Int×Int×Int×aF×aF×Int×Int×aF×aF)⊕(Int×Int×Int×Int×aF×aF×Int×Int×aF×aF×ak)→Option R):Option R:=match s with
 | .inl ((v16,v17,x',uJ,xX,CV,zC,Rf,LV,ES))=>
 bif decide (v17<v16) then
 (kn (.inr ((v16,IntKind.i64.wrap (v17+1),x',uJ,xX,CV,zC,Rf,LV,ES,[[D.int .i64 v17]])))) else(ke (.inl ((v16,v17,x',uJ,xX,CV,zC,Rf,LV,ES))))
 | .inr ((v16,v17,x',uJ,xX,CV,zC,Rf,LV,ES,x'8))=>
 bif decide (v17<v16) then
 (bif((x'8.length+[[D.int .i64 v17]].length) * 8).ble 140737488355328 then
 (bif(x'8.length+[[D.int .i64 v17]].length).ble 140737488355328 then
 (kn (.inr ((v16,IntKind.i64.wrap (v17+1),x',uJ,xX,CV,zC,Rf,LV,ES,x'8++[[D.int .i64 v17]])))) else none) else none) else(ke (.inr ((v16,v17,x',uJ,xX,CV,zC,Rf,LV,ES,x'8))))
def M.pF(s:(Int×Int×Int×Int×aF×aF×Int×Int×aF×aF)⊕(Int×Int×Int×Int×aF×aF×Int×Int×aF×aF×ak)):=M.mJ s (fun s=>some (Sum.inl s)) fun t=>some (Sum.inr t)
def M.Cm(s:(Int×Int×Int×Int×aF×aF×Int×Int×aF×aF)⊕(Int×Int×Int×Int×aF×aF×Int×Int×aF×aF×ak)):Option ((Int×Int×Int×Int×aF×aF×Int×Int×aF×aF)⊕(Int×Int×Int×Int×aF×aF×Int×Int×aF×aF×ak)):=iR (M.pF) s
def F.Cm:LE X0 140:=le 3 (pOr (La [fU 2 (pP 300000 0),fU 3 (pP 300001 0),fU 16 pI,fU 17 pI] [fU 300000 (cB 42 [pI,pI,pS,pS,abk 1]),fU 300001 (cB 42 [pI,pI,pS,pS,abk 1])]) (La [fU 2 (pP 300000 0),fU 3 (pP 300001 0),fU 16 pI,fU 17 pI] [fU 300000 (cB 42 [pI,pI,pS,pS,abk 1]),fU 300001 (cB 42 [pI,pI,pS,pS,pO 300002 0]),fU 300002 (cA false true 0 1)])) (σ:=(Int×Int×Int×Int×aF×aF×Int×Int×aF×aF)⊕(Int×Int×Int×Int×aF×aF×Int×Int×aF×aF×ak)) (fun x=>(match x with| .inl x=> .inl ((x.1.2.2.1,x.1.2.2.2.1,x.2.1.1,x.2.1.2.1,x.2.1.2.2.1,x.2.1.2.2.2.1,x.2.2.1.1,x.2.2.1.2.1,x.2.2.1.2.2.1,x.2.2.1.2.2.2.1))| .inr x=> .inr ((x.1.2.2.1,x.1.2.2.2.1,x.2.1.1,x.2.1.2.1,x.2.1.2.2.1,x.2.1.2.2.2.1,x.2.2.1.1,x.2.2.1.2.1,x.2.2.1.2.2.1,x.2.2.1.2.2.2.1,x.2.2.2.1)))) (fun x s=>(match s with| .inl s=> .inl ((((),(),s.1,s.2.1,()),((s.2.2.1,s.2.2.2.1,s.2.2.2.2.1,s.2.2.2.2.2.1,(),()),(s.2.2.2.2.2.2.1,s.2.2.2.2.2.2.2.1,s.2.2.2.2.2.2.2.2.1,s.2.2.2.2.2.2.2.2.2,(),()),())))| .inr s=> .inr ((((),(),s.1,s.2.1,()),((s.2.2.1,s.2.2.2.1,s.2.2.2.2.1,s.2.2.2.2.2.1,(),()),(s.2.2.2.2.2.2.1,s.2.2.2.2.2.2.2.1,s.2.2.2.2.2.2.2.2.1,s.2.2.2.2.2.2.2.2.2.1,(),()),s.2.2.2.2.2.2.2.2.2.2,()))))) (fun x=> .sum (.leaf (Int×Int×Int×Int×aF×aF×Int×Int×aF×aF) (fun t=>(Ex.exit 0,{tm:=[(2,V.ptr 300000 0),(3,V.ptr 300001 0),(16,V.d (D.int .i64 t.1)),(17,V.d (D.int .i64 t.2.1)),(18,V.d (D.bool false))],mem:=[(300000,Cell.box 42 [V.d (D.int .i64 t.2.2.1),V.d (D.int .i64 t.2.2.2.1),V.d (D.str t.2.2.2.2.1),V.d (D.str t.2.2.2.2.2.1),V.nil 1]),(300001,Cell.box 42 [V.d (D.int .i64 t.2.2.2.2.2.2.1),V.d (D.int .i64 t.2.2.2.2.2.2.2.1),V.d (D.str t.2.2.2.2.2.2.2.2.1),V.d (D.str t.2.2.2.2.2.2.2.2.2),V.nil 1])]}))) (.leaf (Int×Int×Int×Int×aF×aF×Int×Int×aF×aF×ak) (fun t=>(Ex.exit 0,{tm:=[(2,V.ptr 300000 0),(3,V.ptr 300001 0),(16,V.d (D.int .i64 t.1)),(17,V.d (D.int .i64 t.2.1)),(18,V.d (D.bool false))],mem:=[(300000,Cell.box 42 [V.d (D.int .i64 t.2.2.1),V.d (D.int .i64 t.2.2.2.1),V.d (D.str t.2.2.2.2.1),V.d (D.str t.2.2.2.2.2.1),V.nil 1]),(300001,Cell.box 42 [V.d (D.int .i64 t.2.2.2.2.2.2.1),V.d (D.int .i64 t.2.2.2.2.2.2.2.1),V.d (D.str t.2.2.2.2.2.2.2.2.1),V.d (D.str t.2.2.2.2.2.2.2.2.2.1),V.own 300002 0]),(300002,Cell.arr false true 0 1 t.2.2.2.2.2.2.2.2.2.2)]})))) (fun x=>M.mJ) [] [] (by rintro _ _ (⟨_,_,_,_,_,_,_,_,_,_⟩|⟨_,_,_,_,_,_,_,_,_,_,_⟩) _ _<;>simp only[M.mJ,nb]<;>rfl) (hE:=by intro _ _ s _;rcases s with s|s<;>kernel_rfl)
def M.Ej{R:Type}(t' gX:Int)(iK jr:aF)(iM:ak)(k:Int×Int×aF×aF×ak→Option R):Option R:=
 (M.Cm (.inl (((↑iM.length:Int),0,0,0,[],[],t',gX,iK,jr)))).bind fun aFa=>
 xZ aFa (fun anq=>
 (k ((anq.2.2.2.2.2.2.1,anq.2.2.2.2.2.2.2.1,anq.2.2.2.2.2.2.2.2.1,anq.2.2.2.2.2.2.2.2.2,[])))) fun aFb=>
 letE aFb fun ad9=>
 (bif aB ad9.2.2.2.2.2.2.2.2.2.2 then
 (k ((ad9.2.2.2.2.2.2.1,ad9.2.2.2.2.2.2.2.1,ad9.2.2.2.2.2.2.2.2.1,ad9.2.2.2.2.2.2.2.2.2.1,ad9.2.2.2.2.2.2.2.2.2.2))) else none)
def M.jB(t' gX:Int)(iK jr:aF)(iM:ak):Option (Int×Int×aF×aF×ak):=M.Ej t' gX iK jr iM some
theorem C.jB:S.jB.ok X0 fun x=>M.jB x.1.1.1 x.1.1.2.1 x.1.1.2.2.1 x.1.1.2.2.2.1 x.1.1.2.2.2.2.1:=fnS (fun x=>M.Ej x.1.1.1 x.1.1.2.1 x.1.1.2.2.1 x.1.1.2.2.2.1 x.1.1.2.2.2.2.1) [] [F.Cm] (by intros;simp only[M.Ej,nb]<;>rfl)
def M.IJ{R:Type}(n' gq:Int)(iT iG:aF)(iF:ak)(k:Int→Option R):Option R:=
 bif n'==15 then(k 1) else
 (bif n'==14 then(k 2) else
 (bif n'==13 then(k 5) else
 (bif n'==12 then((M.lJ gq).bind fun aFc=>(k aFc)) else
 (bif n'==11 then(k 11) else
 (bif n'==9 then(k 13) else
 (bif n'==10 then(k 13) else
 (bif n'==6 then(k 14) else
 (bif n'==1 then(k 15) else
 (bif n'==2 then(k 15) else
 (bif n'==3 then(k 15) else
 (bif n'==4 then(k 15) else
 (bif n'==5 then(k 15) else(bif n'==7 then(k 15) else(bif n'==8 then(k 15) else(k 0)))))))))))))))
def M.lY(n' gq:Int)(iT iG:aF)(iF:ak):Option (Int):=M.IJ n' gq iT iG iF some
theorem C.lY:S.lY.ok X0 fun x=>M.lY x.1.1.1 x.1.1.2.1 x.1.1.2.2.1 x.1.1.2.2.2.1 x.1.1.2.2.2.2.1:=fnS (fun x=>M.IJ x.1.1.1 x.1.1.2.1 x.1.1.2.2.1 x.1.1.2.2.2.1 x.1.1.2.2.2.2.1) [fe C.lJ] [] (by intros;unfold M.IJ;repeat' first|with_reducible apply gG|with_reducible apply Gp|with_reducible apply Gq|with_reducible apply Gs|with_reducible apply Gt|(intro _)|apply gG|rfl)
def M.LZ{R:Type}(p:Int)(p1 p2 p3 p4:Bool)(k:Bool→Option R):Option R:=
 (M.dV p 1 15).bind fun aFd=>(bif aFd then(bif !p1 then(k true) else(k (p==14))) else(k false))
def M.yu(p:Int)(p1 p2 p3 p4:Bool):Option (Bool):=M.LZ p p1 p2 p3 p4 some
theorem C.yu:S.yu.ok X0 fun x=>M.yu x.1.1.1 x.1.1.2.1 x.1.1.2.2.1 x.1.1.2.2.2.1 x.1.1.2.2.2.2.1:=fnS (fun x=>M.LZ x.1.1.1 x.1.1.2.1 x.1.1.2.2.1 x.1.1.2.2.2.1 x.1.1.2.2.2.2.1) [fe C.dV] [] (by intros;unfold M.LZ;repeat' first|with_reducible apply gG|with_reducible apply Gp|with_reducible apply Gq|with_reducible apply Gs|with_reducible apply Gt|(intro _)|apply gG|rfl)
def M.N9{R:Type}(n' gq:Int)(iT iG:aF)(iF:ak)(p:Int)(p1 p2 p3 p4:Bool)(k:Bool→Option R):Option R:=
 (M.lY n' gq iT iG iF).bind fun Bd=>
 ((M.yu p p1 p2 p3 p4).bind fun aFe=>
 (bif !aFe then(k false) else
 (bif Bd==0 then(k false) else
 (bif p2 then
 (bif n'==13 then(k false) else
 (bif p3 then
 (bif n'==12 then
 (bif gq==62 then(k false) else
 (bif p4 then
 (bif n'==11 then(k false) else
 (bif n'==9 then(k false) else
 (bif n'==4 then(k false) else
 (bif p1 then(bif n'==9 then(k true) else(k (decide (Bd≥p)))) else(k (decide (Bd≥p))))))) else
 (bif p1 then(bif n'==9 then(k true) else(k (decide (Bd≥p)))) else(k (decide (Bd≥p)))))) else
 (bif p4 then
 (bif n'==11 then(k false) else
 (bif n'==9 then(k false) else
 (bif n'==4 then(k false) else
 (bif p1 then(bif n'==9 then(k true) else(k (decide (Bd≥p)))) else(k (decide (Bd≥p))))))) else
 (bif p1 then(bif n'==9 then(k true) else(k (decide (Bd≥p)))) else(k (decide (Bd≥p)))))) else
 (bif p4 then
 (bif n'==11 then(k false) else
 (bif n'==9 then(k false) else
 (bif n'==4 then(k false) else
 (bif p1 then(bif n'==9 then(k true) else(k (decide (Bd≥p)))) else(k (decide (Bd≥p))))))) else
 (bif p1 then(bif n'==9 then(k true) else(k (decide (Bd≥p)))) else(k (decide (Bd≥p))))))) else
 (bif p3 then
 (bif n'==12 then
 (bif gq==62 then(k false) else
 (bif p4 then
 (bif n'==11 then(k false) else
 (bif n'==9 then(k false) else
 (bif n'==4 then(k false) else
 (bif p1 then(bif n'==9 then(k true) else(k (decide (Bd≥p)))) else(k (decide (Bd≥p))))))) else
 (bif p1 then(bif n'==9 then(k true) else(k (decide (Bd≥p)))) else(k (decide (Bd≥p)))))) else
 (bif p4 then
 (bif n'==11 then(k false) else
 (bif n'==9 then(k false) else
 (bif n'==4 then(k false) else
 (bif p1 then(bif n'==9 then(k true) else(k (decide (Bd≥p)))) else(k (decide (Bd≥p))))))) else
 (bif p1 then(bif n'==9 then(k true) else(k (decide (Bd≥p)))) else(k (decide (Bd≥p)))))) else
 (bif p4 then
 (bif n'==11 then(k false) else
 (bif n'==9 then(k false) else
 (bif n'==4 then(k false) else
 (bif p1 then(bif n'==9 then(k true) else(k (decide (Bd≥p)))) else(k (decide (Bd≥p))))))) else
 (bif p1 then(bif n'==9 then(k true) else(k (decide (Bd≥p)))) else(k (decide (Bd≥p))))))))))
def M.BA(n' gq:Int)(iT iG:aF)(iF:ak)(p:Int)(p1 p2 p3 p4:Bool):Option (Bool):=M.N9 n' gq iT iG iF p p1 p2 p3 p4 some
theorem C.BA:S.BA.ok X0 fun x=>M.BA x.1.1.1 x.1.1.2.1 x.1.1.2.2.1 x.1.1.2.2.2.1 x.1.1.2.2.2.2.1 x.1.2.1.1 x.1.2.1.2.1 x.1.2.1.2.2.1 x.1.2.1.2.2.2.1 x.1.2.1.2.2.2.2.1:=fnS (fun x=>M.N9 x.1.1.1 x.1.1.2.1 x.1.1.2.2.1 x.1.1.2.2.2.1 x.1.1.2.2.2.2.1 x.1.2.1.1 x.1.2.1.2.1 x.1.2.1.2.2.1 x.1.2.1.2.2.2.1 x.1.2.1.2.2.2.2.1) [fe C.lY,fe C.yu] [] (by intros;unfold M.N9;repeat' first|with_reducible apply gG|with_reducible apply Gp|with_reducible apply Gq|with_reducible apply Gs|with_reducible apply Gt|(intro _)|apply gG|rfl)
def M.Rj{R:Type}(s':aF)(k:Int×Int×aF×ak×Int→Option R):Option R:=
 k ((1,0,s',[],0))
def M.bI(s':aF):Option (Int×Int×aF×ak×Int):=M.Rj s' some
theorem C.bI:S.bI.ok X0 fun x=>M.bI x.1.1:=fnS (fun x=>M.Rj x.1.1) [] [] (by intros;simp only[M.Rj,nb]<;>rfl)
def M.Rk{R:Type}(k:Int×Int×aF×ak×Int→Option R):Option R:=
 k ((2,0,[],[],0))
def M.rY:Option (Int×Int×aF×ak×Int):=M.Rk some
theorem C.rY:S.rY.ok X0 fun x=>M.rY:=fnS (fun x=>M.Rk) [] [] (by intros;simp only[M.Rk,nb]<;>rfl)
def M.L6{R:Type}(v0:Int)(k:Int×Bool×Bool×Bool×Bool→Option R):Option R:=
 M.qo.bind fun agK=>
 (k ((agK.1,agK.2.1,agK.2.2.1,agK.2.2.2.1,agK.2.2.2.2)))
def M.Dk(v0:Int):Option (Int×Bool×Bool×Bool×Bool):=M.L6 v0 some
theorem C.Dk:S.Dk.ok X0 fun x=>M.Dk x.1.1:=fnS (fun x=>M.L6 x.1.1) [fe C.qo] [] (by intros;simp only[M.L6,nb]<;>rfl)
def M.Vb{R:Type}(list:ak)(k:Int×Int×aF×ak×Int→Option R):Option R:=
 k ((6,0,[],list,0))
def M.dI(list:ak):Option (Int×Int×aF×ak×Int):=M.Vb list some
theorem C.dI:S.dI.ok X0 fun x=>M.dI x.1.1:=fnS (fun x=>M.Vb x.1.1) [] [] (by intros;simp only[M.Vb,nb]<;>rfl)
def M.Rl{R:Type}(d d1:Int)(d2:aF)(d3:ak)(d4:Int)(k:Int×Int×aF×ak×Int→Option R):Option R:=
 k ((4,4,[],[[D.int .i64 d,D.int .i64 d1,D.str d2,D.sl false 5 d3,D.int .i64 d4]],0))
def M.pq(d d1:Int)(d2:aF)(d3:ak)(d4:Int):Option (Int×Int×aF×ak×Int):=M.Rl d d1 d2 d3 d4 some
theorem C.pq:S.pq.ok X0 fun x=>M.pq x.1.1.1 x.1.1.2.1 x.1.1.2.2.1 x.1.1.2.2.2.1 x.1.1.2.2.2.2.1:=fnS (fun x=>M.Rl x.1.1.1 x.1.1.2.1 x.1.1.2.2.1 x.1.1.2.2.2.1 x.1.1.2.2.2.2.1) [] [] (by intros;simp only[M.Rl,nb]<;>rfl)
def M.P7{R:Type}(d d1:Int)(d2:aF)(d3:ak)(d4:Int)(k:Int×Int×aF×ak×Int→Option R):Option R:=
 k ((5,0,[],[[D.int .i64 d,D.int .i64 d1,D.str d2,D.sl false 5 d3,D.int .i64 d4]],0))
def M.oN(d d1:Int)(d2:aF)(d3:ak)(d4:Int):Option (Int×Int×aF×ak×Int):=M.P7 d d1 d2 d3 d4 some
theorem C.oN:S.oN.ok X0 fun x=>M.oN x.1.1.1 x.1.1.2.1 x.1.1.2.2.1 x.1.1.2.2.2.1 x.1.1.2.2.2.2.1:=fnS (fun x=>M.P7 x.1.1.1 x.1.1.2.1 x.1.1.2.2.1 x.1.1.2.2.2.1 x.1.1.2.2.2.2.1) [] [] (by intros;simp only[M.P7,nb]<;>rfl)
def M.xI{R:Type}(eU:Int→Int→aF→aF→ak→Int→Bool→Bool→Bool→Bool→Option (Int×Int×aF×ak×Int))(v9:ak)(v10 x' uJ:Int)(xX:aF)(CV:Int)(s:Int×ak)(kn:Int×ak→Option R)(ke:Int×ak→Option R):Option R:=match s with
 |(v11,zC)=>
 bif decide (v11<v10) then
 ((idx v9 v11).bind fun Wn=>
 ((dn .i64 Wn 0).bind fun au2=>
 ((dn .i64 Wn 1).bind fun au3=>
 ((cStr Wn 2).bind fun au4=>
 ((cStr Wn 3).bind fun au5=>
 ((BK 5 Wn 4).bind fun agL=>
 (bif decide (v11>0) then
 ((M.bI [44]).bind fun Bf=>
 (M.rY.bind fun Bg=>
 (bif((zC.length+[[D.int .i64 Bf.1,D.int .i64 Bf.2.1,D.str Bf.2.2.1,D.sl false 5 (aA Bf.2.2.2.1),D.int .i64 Bf.2.2.2.2],[D.int .i64 Bg.1,D.int .i64 Bg.2.1,D.str Bg.2.2.1,D.sl false 5 (aA Bg.2.2.2.1),D.int .i64 Bg.2.2.2.2]].length) * 64).ble 140737488355328 then
 (bif(zC.length+[[D.int .i64 Bf.1,D.int .i64 Bf.2.1,D.str Bf.2.2.1,D.sl false 5 (aA Bf.2.2.2.1),D.int .i64 Bf.2.2.2.2],[D.int .i64 Bg.1,D.int .i64 Bg.2.1,D.str Bg.2.2.1,D.sl false 5 (aA Bg.2.2.2.1),D.int .i64 Bg.2.2.2.2]].length).ble 140737488355328 then
 ((M.Dk v11).bind fun agM=>
 ((eU au2 au3 au4 au5 agL agM.1 agM.2.1 agM.2.2.1 agM.2.2.2.1 agM.2.2.2.2).bind fun Nv=>
 (bif(((zC++[[D.int .i64 Bf.1,D.int .i64 Bf.2.1,D.str Bf.2.2.1,D.sl false 5 (aA Bf.2.2.2.1),D.int .i64 Bf.2.2.2.2],[D.int .i64 Bg.1,D.int .i64 Bg.2.1,D.str Bg.2.2.1,D.sl false 5 (aA Bg.2.2.2.1),D.int .i64 Bg.2.2.2.2]]).length+[[D.int .i64 Nv.1,D.int .i64 Nv.2.1,D.str Nv.2.2.1,D.sl false 5 (aA Nv.2.2.2.1),D.int .i64 Nv.2.2.2.2]].length) * 64).ble 140737488355328 then
 (bif((zC++[[D.int .i64 Bf.1,D.int .i64 Bf.2.1,D.str Bf.2.2.1,D.sl false 5 (aA Bf.2.2.2.1),D.int .i64 Bf.2.2.2.2],[D.int .i64 Bg.1,D.int .i64 Bg.2.1,D.str Bg.2.2.1,D.sl false 5 (aA Bg.2.2.2.1),D.int .i64 Bg.2.2.2.2]]).length+[[D.int .i64 Nv.1,D.int .i64 Nv.2.1,D.str Nv.2.2.1,D.sl false 5 (aA Nv.2.2.2.1),D.int .i64 Nv.2.2.2.2]].length).ble 140737488355328 then
 (kn ((IntKind.i64.wrap (v11+1),zC++[[D.int .i64 Bf.1,D.int .i64 Bf.2.1,D.str Bf.2.2.1,D.sl false 5 (aA Bf.2.2.2.1),D.int .i64 Bf.2.2.2.2],[D.int .i64 Bg.1,D.int .i64 Bg.2.1,D.str Bg.2.2.1,D.sl false 5 (aA Bg.2.2.2.1),D.int .i64 Bg.2.2.2.2]]++[[D.int .i64 Nv.1,D.int .i64 Nv.2.1,D.str Nv.2.2.1,D.sl false 5 (aA Nv.2.2.2.1),D.int .i64 Nv.2.2.2.2]]))) else none) else none))) else none) else none))) else
 ((M.Dk v11).bind fun agN=>
 ((eU au2 au3 au4 au5 agL agN.1 agN.2.1 agN.2.2.1 agN.2.2.2.1 agN.2.2.2.2).bind fun Nw=>
 (bif((zC.length+[[D.int .i64 Nw.1,D.int .i64 Nw.2.1,D.str Nw.2.2.1,D.sl false 5 (aA Nw.2.2.2.1),D.int .i64 Nw.2.2.2.2]].length) * 64).ble 140737488355328 then
 (bif(zC.length+[[D.int .i64 Nw.1,D.int .i64 Nw.2.1,D.str Nw.2.2.1,D.sl false 5 (aA Nw.2.2.2.1),D.int .i64 Nw.2.2.2.2]].length).ble 140737488355328 then
 (kn ((IntKind.i64.wrap (v11+1),zC++[[D.int .i64 Nw.1,D.int .i64 Nw.2.1,D.str Nw.2.2.1,D.sl false 5 (aA Nw.2.2.2.1),D.int .i64 Nw.2.2.2.2]]))) else none) else none)))))))))) else(ke ((v11,zC)))
def M.IK(eU:Int→Int→aF→aF→ak→Int→Bool→Bool→Bool→Bool→Option (Int×Int×aF×ak×Int))(v9:ak)(v10 x' uJ:Int)(xX:aF)(CV:Int)(s:Int×ak):=M.xI eU v9 v10 x' uJ xX CV s (fun s=>some (Sum.inl s)) fun t=>some (Sum.inr t)
def M.FQ(eU:Int→Int→aF→aF→ak→Int→Bool→Bool→Bool→Bool→Option (Int×Int×aF×ak×Int))(v9:ak)(v10 x' uJ:Int)(xX:aF)(CV:Int)(s:Int×ak):Option (Int×ak):=iR (M.IK eU v9 v10 x' uJ xX CV) s
def F.FQ{eU:Int→Int→aF→aF→ak→Int→Bool→Bool→Bool→Bool→Option (Int×Int×aF×ak×Int)}(Dx:S.gV.ok X0 fun x=>eU x.1.1.1 x.1.1.2.1 x.1.1.2.2.1 x.1.1.2.2.2.1 x.1.1.2.2.2.2.1 x.1.2.1.1 x.1.2.1.2.1 x.1.2.1.2.2.1 x.1.2.1.2.2.2.1 x.1.2.1.2.2.2.2.1):LE X0 83:=le 3 (La [fU 1 (atz 84 [] []),fU 4 (pP 300000 0),fU 5 (pO 300001 0),fU 9 (pL false 5),fU 10 pI,fU 11 pI] [fU 300000 (cB 49 [pI,pI,pS,abk 5,pI]),fU 300001 (cA false false 0 5)]) (fun x=>(x.1.2.2.2.2.2.1,x.2.2.1)) (fun x s=>((((),()),(),(),x.1.2.2.2.1,x.1.2.2.2.2.1,s.1,()),((x.2.1.1,x.2.1.2.1,x.2.1.2.2.1,(),x.2.1.2.2.2.2.1,()),s.2,()))) (fun x=> .leaf (Int×ak) (fun t=>(Ex.exit 0,{tm:=[(1,V.clo 84 [] []),(4,V.ptr 300000 0),(5,V.own 300001 0),(9,V.d (D.sl false 5 x.1.2.2.2.1)),(10,V.d (D.int .i64 x.1.2.2.2.2.1)),(11,V.d (D.int .i64 t.1)),(12,V.d (D.bool false))],mem:=[(300000,Cell.box 49 [V.d (D.int .i64 x.2.1.1),V.d (D.int .i64 x.2.1.2.1),V.d (D.str x.2.1.2.2.1),V.nil 5,V.d (D.int .i64 x.2.1.2.2.2.2.1)]),(300001,Cell.arr false false 0 5 t.2)]}))) (fun x=>M.xI eU x.1.2.2.2.1 x.1.2.2.2.2.1 x.2.1.1 x.2.1.2.1 x.2.1.2.2.1 x.2.1.2.2.2.2.1) [fe C.bI,fe C.rY,fe C.Dk,fe Dx] [] (by rintro _ _ ⟨_,_⟩ _ _<;>simp only[M.xI,nb]<;>rfl)
def M.zl{R:Type}(eU:Int→Int→aF→aF→ak→Int→Bool→Bool→Bool→Bool→Option (Int×Int×aF×ak×Int))(kids:ak)(k:Int×Int×aF×ak×Int→Option R):Option R:=
 (M.FQ eU kids ((↑kids.length:Int)) 0 0 [] 0 ((0,[]))).bind fun aFf=>
 ((M.dI aFf.2).bind fun agO=>
 ((M.pq agO.1 agO.2.1 agO.2.2.1 (aA agO.2.2.2.1) agO.2.2.2.2).bind fun agP=>
 ((M.oN agP.1 agP.2.1 agP.2.2.1 (aA agP.2.2.2.1) agP.2.2.2.2).bind fun agQ=>
 (k ((agQ.1,agQ.2.1,agQ.2.2.1,aA agQ.2.2.2.1,agQ.2.2.2.2))))))
theorem C.ZP{eU:Int→Int→aF→aF→ak→Int→Bool→Bool→Bool→Bool→Option (Int×Int×aF×ak×Int)}(Dx:S.gV.ok X0 fun x=>eU x.1.1.1 x.1.1.2.1 x.1.1.2.2.1 x.1.1.2.2.2.1 x.1.1.2.2.2.2.1 x.1.2.1.1 x.1.2.1.2.1 x.1.2.1.2.2.1 x.1.2.1.2.2.2.1 x.1.2.1.2.2.2.2.1):S.nC.ok X0 fun x=>M.zl eU x.1.1 some:=fnS (fun x=>M.zl eU x.1.1) [fe C.dI,fe C.pq,fe C.oN] [F.FQ Dx] (by intros;simp only[M.zl,nb]<;>rfl)
def M.FT{R:Type}(op' k':Int)(k:Int→Option R):Option R:=
 (M.lJ op').bind fun abU=>
 (bif abU==3 then(bif k'==0 then(k 3) else(k 4)) else
 (bif abU==4 then(bif k'==0 then(k 4) else(k 5)) else
 (bif abU==6 then(bif k'==0 then(k 7) else(k 7)) else
 (bif abU==7 then(bif k'==0 then(k 8) else(k 8)) else
 (bif abU==8 then(bif k'==0 then(k 8) else(k 9)) else
 (bif abU==9 then(bif k'==0 then(k 9) else(k 10)) else
 (bif abU==10 then(bif k'==0 then(k 10) else(k 11)) else(bif k'==0 then(k 13) else(k 11)))))))))
def M.uo(op' k':Int):Option (Int):=M.FT op' k' some
theorem C.uo:S.uo.ok X0 fun x=>M.uo x.1.1 x.1.2.1:=fnS (fun x=>M.FT x.1.1 x.1.2.1) [fe C.lJ] [] (by intros;unfold M.FT;repeat' first|with_reducible apply gG|with_reducible apply Gp|with_reducible apply Gq|with_reducible apply Gs|with_reducible apply Gt|(intro _)|apply gG|rfl)
def M.FU{R:Type}(n' gq:Int)(iT iG:aF)(iF:ak)(k':Int)(k:Int→Option R):Option R:=
 bif n'==15 then(bif decide (k'>0) then(k 1) else(k 14)) else
 (bif n'==14 then(bif decide (k'>0) then(k 2) else(k 3)) else
 (bif n'==13 then(k 5) else
 (bif n'==11 then(k 11) else(bif n'==12 then((M.uo gq k').bind fun aFg=>(k aFg)) else(k 14)))))
def M.qQ(n' gq:Int)(iT iG:aF)(iF:ak)(k':Int):Option (Int):=M.FU n' gq iT iG iF k' some
theorem C.qQ:S.qQ.ok X0 fun x=>M.qQ x.1.1.1 x.1.1.2.1 x.1.1.2.2.1 x.1.1.2.2.2.1 x.1.1.2.2.2.2.1 x.1.2.1:=fnS (fun x=>M.FU x.1.1.1 x.1.1.2.1 x.1.1.2.2.1 x.1.1.2.2.2.1 x.1.1.2.2.2.2.1 x.1.2.1) [fe C.uo] [] (by intros;simp only[M.FU,nb]<;>rfl)
def M.KC{R:Type}(n' gq:Int)(iT iG:aF)(iF:ak)(k' p:Int)(p1 p2 p3 p4:Bool)(k:Int×Bool×Bool×Bool×Bool→Option R):Option R:=
 (M.yu p p1 p2 p3 p4).bind fun aFh=>
 (bif !aFh then(k ((0,false,false,false,false))) else
 ((M.dV k' 0 (IntKind.i64.wrap ((↑iF.length:Int) - 1))).bind fun aFi=>
 (bif !aFi then(k ((0,false,false,false,false))) else
 ((M.lY n' gq iT iG iF).bind fun aFj=>
 (bif aFj==0 then(k ((0,false,false,false,false))) else
 ((M.lY n' gq iT iG iF).bind fun aFk=>
 (bif aFk==15 then
 (M.qo.bind fun agR=>
 (k ((agR.1,agR.2.1,agR.2.2.1,agR.2.2.2.1,agR.2.2.2.2)))) else
 (bif n'==13 then
 (bif decide ((↑iF.length:Int)>1) then
 (M.qo.bind fun agS=>
 (k ((agS.1,agS.2.1,agS.2.2.1,agS.2.2.2.1,agS.2.2.2.2)))) else
 ((M.qQ n' gq iT iG iF k').bind fun Rn=>
 (bif n'==11 then(k ((Rn,n'==6,p2,p3,false))) else
 (bif n'==9 then(k ((Rn,n'==6,p2,p3,false))) else
 (bif n'==10 then(k ((Rn,n'==6,p2,p3,false))) else
 (bif n'==6 then(k ((Rn,n'==6,p2,p3,false))) else
 (bif k'==0 then
 (bif p4 then(k ((Rn,n'==6,p2,p3,true))) else
 (bif k'==1 then
 (bif n'==12 then(k ((Rn,n'==6,p2,p3,gq==99))) else(k ((Rn,n'==6,p2,p3,false)))) else(k ((Rn,n'==6,p2,p3,false))))) else
 (bif k'==1 then
 (bif n'==12 then(k ((Rn,n'==6,p2,p3,gq==99))) else(k ((Rn,n'==6,p2,p3,false)))) else(k ((Rn,n'==6,p2,p3,false))))))))))) else
 ((M.qQ n' gq iT iG iF k').bind fun Ro=>
 (bif n'==11 then(k ((Ro,n'==6,p2,p3,false))) else
 (bif n'==9 then(k ((Ro,n'==6,p2,p3,false))) else
 (bif n'==10 then(k ((Ro,n'==6,p2,p3,false))) else
 (bif n'==6 then(k ((Ro,n'==6,p2,p3,false))) else
 (bif k'==0 then
 (bif p4 then(k ((Ro,n'==6,p2,p3,true))) else
 (bif k'==1 then
 (bif n'==12 then(k ((Ro,n'==6,p2,p3,gq==99))) else(k ((Ro,n'==6,p2,p3,false)))) else(k ((Ro,n'==6,p2,p3,false))))) else
 (bif k'==1 then
 (bif n'==12 then(k ((Ro,n'==6,p2,p3,gq==99))) else(k ((Ro,n'==6,p2,p3,false)))) else(k ((Ro,n'==6,p2,p3,false))))))))))))))))))
def M.uq(n' gq:Int)(iT iG:aF)(iF:ak)(k' p:Int)(p1 p2 p3 p4:Bool):Option (Int×Bool×Bool×Bool×Bool):=M.KC n' gq iT iG iF k' p p1 p2 p3 p4 some
theorem C.uq:S.uq.ok X0 fun x=>M.uq x.1.1.1 x.1.1.2.1 x.1.1.2.2.1 x.1.1.2.2.2.1 x.1.1.2.2.2.2.1 x.1.2.1 x.1.2.2.1.1 x.1.2.2.1.2.1 x.1.2.2.1.2.2.1 x.1.2.2.1.2.2.2.1 x.1.2.2.1.2.2.2.2.1:=fnS (fun x=>M.KC x.1.1.1 x.1.1.2.1 x.1.1.2.2.1 x.1.1.2.2.2.1 x.1.1.2.2.2.2.1 x.1.2.1 x.1.2.2.1.1 x.1.2.2.1.2.1 x.1.2.2.1.2.2.1 x.1.2.2.1.2.2.2.1 x.1.2.2.1.2.2.2.2.1) [fe C.yu,fe C.dV,fe C.lY,fe C.qo,fe C.qQ] [] (by intros;unfold M.KC;repeat' first|with_reducible apply gG|with_reducible apply Gp|with_reducible apply Gq|with_reducible apply Gs|with_reducible apply Gt|(intro _)|apply gG|rfl)
def M.FV{R:Type}(n' gq:Int)(iT iG:aF)(iF:ak)(k':Int)(k:Bool→Option R):Option R:=
 bif k'==0 then(bif n'==9 then(k true) else(bif n'==10 then(k true) else(k (n'==15)))) else(k false)
def M.oz(n' gq:Int)(iT iG:aF)(iF:ak)(k':Int):Option (Bool):=M.FV n' gq iT iG iF k' some
theorem C.oz:S.oz.ok X0 fun x=>M.oz x.1.1.1 x.1.1.2.1 x.1.1.2.2.1 x.1.1.2.2.2.1 x.1.1.2.2.2.2.1 x.1.2.1:=fnS (fun x=>M.FV x.1.1.1 x.1.1.2.1 x.1.1.2.2.1 x.1.1.2.2.2.1 x.1.1.2.2.2.2.1 x.1.2.1) [] [] (by intros;simp only[M.FV,nb]<;>rfl)
def M.BF{R:Type}(jO:Int→Int→aF→aF→ak→Int→Bool→Bool→Bool→Bool→Option (Int×Int×aF×ak×Int))(eU:Int→Int→aF→aF→ak→Int→Bool→Bool→Bool→Bool→Option (Int×Int×aF×ak×Int))(t' gX:Int)(iK jr:aF)(iM:ak)(k' p:Int)(p1 p2 p3 p4:Bool)(k:Int×Int×aF×ak×Int→Option R):Option R:=
 (M.jB t' gX iK jr iM).bind fun TU=>
 ((M.uq TU.1 TU.2.1 TU.2.2.1 TU.2.2.2.1 TU.2.2.2.2 k' p p1 p2 p3 p4).bind fun TV=>
 ((M.oz TU.1 TU.2.1 TU.2.2.1 TU.2.2.2.1 TU.2.2.2.2 k').bind fun aFl=>
 (bif aFl then
 ((idx iM k').bind fun Wp=>
 ((dn .i64 Wp 0).bind fun aFm=>
 ((dn .i64 Wp 1).bind fun aFo=>
 ((cStr Wp 2).bind fun aFp=>
 ((cStr Wp 3).bind fun aFq=>
 ((BK 5 Wp 4).bind fun aq7=>
 ((jO aFm aFo aFp aFq aq7 TV.1 TV.2.1 TV.2.2.1 TV.2.2.2.1 TV.2.2.2.2).bind fun agT=>
 (k ((agT.1,agT.2.1,agT.2.2.1,aA agT.2.2.2.1,agT.2.2.2.2)))))))))) else
 ((idx iM k').bind fun Wq=>
 ((dn .i64 Wq 0).bind fun aFr=>
 ((dn .i64 Wq 1).bind fun aFs=>
 ((cStr Wq 2).bind fun aFt=>
 ((cStr Wq 3).bind fun aFu=>
 ((BK 5 Wq 4).bind fun aq8=>
 ((eU aFr aFs aFt aFu aq8 TV.1 TV.2.1 TV.2.2.1 TV.2.2.2.1 TV.2.2.2.2).bind fun agU=>
 (k ((agU.1,agU.2.1,agU.2.2.1,aA agU.2.2.2.1,agU.2.2.2.2)))))))))))))
theorem C.abV{jO:Int→Int→aF→aF→ak→Int→Bool→Bool→Bool→Bool→Option (Int×Int×aF×ak×Int)}{eU:Int→Int→aF→aF→ak→Int→Bool→Bool→Bool→Bool→Option (Int×Int×aF×ak×Int)}(Ny:S.wP.ok X0 fun x=>jO x.1.1.1 x.1.1.2.1 x.1.1.2.2.1 x.1.1.2.2.2.1 x.1.1.2.2.2.2.1 x.1.2.1.1 x.1.2.1.2.1 x.1.2.1.2.2.1 x.1.2.1.2.2.2.1 x.1.2.1.2.2.2.2.1)(Dx:S.gV.ok X0 fun x=>eU x.1.1.1 x.1.1.2.1 x.1.1.2.2.1 x.1.1.2.2.2.1 x.1.1.2.2.2.2.1 x.1.2.1.1 x.1.2.1.2.1 x.1.2.1.2.2.1 x.1.2.1.2.2.2.1 x.1.2.1.2.2.2.2.1):S.zW.ok X0 fun x=>M.BF jO eU x.1.1.1 x.1.1.2.1 x.1.1.2.2.1 x.1.1.2.2.2.1 x.1.1.2.2.2.2.1 x.1.2.1 x.1.2.2.1.1 x.1.2.2.1.2.1 x.1.2.2.1.2.2.1 x.1.2.2.1.2.2.2.1 x.1.2.2.1.2.2.2.2.1 some:=fnS (fun x=>M.BF jO eU x.1.1.1 x.1.1.2.1 x.1.1.2.2.1 x.1.1.2.2.2.1 x.1.1.2.2.2.2.1 x.1.2.1 x.1.2.2.1.1 x.1.2.2.1.2.1 x.1.2.2.1.2.2.1 x.1.2.2.1.2.2.2.1 x.1.2.2.1.2.2.2.2.1) [fe C.jB,fe C.uq,fe C.oz,fe Ny,fe Dx] [] (by intros;unfold M.BF;repeat' first|with_reducible apply gG|with_reducible apply Gp|with_reducible apply Gq|with_reducible apply Gs|with_reducible apply Gt|(intro _)|apply gG|rfl)
def M.Aq{R:Type}(tokens c c1:ak)(c2:Bool)(k:ak×ak×Bool→Option R):Option R:=
 bif((c.length+tokens.length) * 32).ble 140737488355328 then
 (bif(c.length+tokens.length).ble 140737488355328 then
 (bif aB (c++tokens) then(bif aB c1 then(k ((c++tokens,c1,c2))) else none) else none) else none) else none
def M.bZ(tokens c c1:ak)(c2:Bool):Option (ak×ak×Bool):=M.Aq tokens c c1 c2 some
theorem C.bZ:S.bZ.ok X0 fun x=>M.bZ x.1.2.1 x.2.1.1 x.2.1.2.1 x.2.1.2.2.1:=fnS (fun x=>M.Aq x.1.2.1 x.2.1.1 x.2.1.2.1 x.2.1.2.2.1) [] [] (by intros;unfold M.Aq;repeat' first|with_reducible apply gG|with_reducible apply Gp|with_reducible apply Gq|with_reducible apply Gs|with_reducible apply Gt|(intro _)|apply gG|rfl)
def M.Oa{R:Type}(kind:Int)(k:Int×aF×Int→Option R):Option R:=
 (M.iy kind).bind fun aFv=>(k ((kind,aFv,0)))
def M.iY(kind:Int):Option (Int×aF×Int):=M.Oa kind some
theorem C.iY:S.iY.ok X0 fun x=>M.iY x.1.1:=fnS (fun x=>M.Oa x.1.1) [fe C.iy] [] (by intros;simp only[M.Oa,nb]<;>rfl)
def M.lZ{R:Type}(bP:Int→Int→aF→aF→ak→Int→Int→Bool→Bool→Bool→Bool→ak→ak→Bool→Option (ak×ak×Bool))(shut v18 x' uJ:Int)(xX CV:aF)(zC:ak)(Rf:Int)(LV ES x'8 x'9:Bool)(s:Int×Bool×ak×ak)(kn:Int×Bool×ak×ak→Option R)(ke:Int×Bool×ak×ak→Option R):Option R:=match s with
 |(v19,v,aq9,ara)=>
 bif decide (v19<v18) then
 (bif decide (v19>0) then
 ((M.iY 36).bind fun arb=>
 (bif aB aq9 then
 (bif aB ara then
 ((M.bZ ([[D.int .i64 arb.1,D.str arb.2.1,D.int .i64 arb.2.2]]) aq9 ara v).bind fun agV=>
 (bif aB agV.1 then
 (bif aB agV.2.1 then
 ((bP x' uJ xX CV zC v19 Rf LV ES x'8 x'9 agV.1 agV.2.1 agV.2.2).bind fun ard=>(kn ((IntKind.i64.wrap (v19+1),ard.2.2,ard.1,ard.2.1)))) else none) else none)) else none) else none)) else
 (bif aB aq9 then
 (bif aB ara then
 ((bP x' uJ xX CV zC v19 Rf LV ES x'8 x'9 aq9 ara v).bind fun arf=>(kn ((IntKind.i64.wrap (v19+1),arf.2.2,arf.1,arf.2.1)))) else none) else none)) else(ke ((v19,v,aq9,ara)))
def M.l9(bP:Int→Int→aF→aF→ak→Int→Int→Bool→Bool→Bool→Bool→ak→ak→Bool→Option (ak×ak×Bool))(shut v18 x' uJ:Int)(xX CV:aF)(zC:ak)(Rf:Int)(LV ES x'8 x'9:Bool)(s:Int×Bool×ak×ak):=M.lZ bP shut v18 x' uJ xX CV zC Rf LV ES x'8 x'9 s (fun s=>some (Sum.inl s)) fun t=>some (Sum.inr t)
def M.jR(bP:Int→Int→aF→aF→ak→Int→Int→Bool→Bool→Bool→Bool→ak→ak→Bool→Option (ak×ak×Bool))(shut v18 x' uJ:Int)(xX CV:aF)(zC:ak)(Rf:Int)(LV ES x'8 x'9:Bool)(s:Int×Bool×ak×ak):Option (Int×Bool×ak×ak):=iR (M.l9 bP shut v18 x' uJ xX CV zC Rf LV ES x'8 x'9) s
def F.jR{bP:Int→Int→aF→aF→ak→Int→Int→Bool→Bool→Bool→Bool→ak→ak→Bool→Option (ak×ak×Bool)}(vk:S.jv.ok X0 fun x=>bP x.1.2.1.1 x.1.2.1.2.1 x.1.2.1.2.2.1 x.1.2.1.2.2.2.1 x.1.2.1.2.2.2.2.1 x.1.2.2.1 x.1.2.2.2.1.1 x.1.2.2.2.1.2.1 x.1.2.2.2.1.2.2.1 x.1.2.2.2.1.2.2.2.1 x.1.2.2.2.1.2.2.2.2.1 x.2.1.1 x.2.1.2.1 x.2.1.2.2.1):LE X0 256:=le 3 (La [fU 0 (pP 100000 0),fU 3 pI,fU 6 (pP 300000 0),fU 9 (pP 300001 0),fU 18 pI,fU 19 pI] [fU 100000 (cB 182 [pO 300002 0,pO 300003 0,pB]),fU 300000 (cB 53 [pI,pI,pS,pS,pL false 5]),fU 300001 (cB 65 [pI,pB,pB,pB,pB]),fU 300002 (cA false true 0 3),fU 300003 (cA false true 0 2)]) (fun x=>(x.1.2.2.2.2.2.1,x.2.1.2.2.1,x.2.2.2.2.1,x.2.2.2.2.2.1)) (fun x s=>(((),x.1.2.1,(),(),x.1.2.2.2.2.1,s.1,()),(((),(),s.2.1,()),(x.2.2.1.1,x.2.2.1.2.1,x.2.2.1.2.2.1,x.2.2.1.2.2.2.1,x.2.2.1.2.2.2.2.1,()),(x.2.2.2.1.1,x.2.2.2.1.2.1,x.2.2.2.1.2.2.1,x.2.2.2.1.2.2.2.1,x.2.2.2.1.2.2.2.2.1,()),s.2.2.1,s.2.2.2,()))) (fun x=> .leaf (Int×Bool×ak×ak) (fun t=>(Ex.exit 0,{tm:=[(0,V.ptr 100000 0),(3,V.d (D.int .i64 x.1.2.1)),(6,V.ptr 300000 0),(9,V.ptr 300001 0),(18,V.d (D.int .i64 x.1.2.2.2.2.1)),(19,V.d (D.int .i64 t.1)),(20,V.d (D.bool false))],mem:=[(100000,Cell.box 182 [V.own 300002 0,V.own 300003 0,V.d (D.bool t.2.1)]),(300000,Cell.box 53 [V.d (D.int .i64 x.2.2.1.1),V.d (D.int .i64 x.2.2.1.2.1),V.d (D.str x.2.2.1.2.2.1),V.d (D.str x.2.2.1.2.2.2.1),V.d (D.sl false 5 x.2.2.1.2.2.2.2.1)]),(300001,Cell.box 65 [V.d (D.int .i64 x.2.2.2.1.1),V.d (D.bool x.2.2.2.1.2.1),V.d (D.bool x.2.2.2.1.2.2.1),V.d (D.bool x.2.2.2.1.2.2.2.1),V.d (D.bool x.2.2.2.1.2.2.2.2.1)]),(300002,Cell.arr false true 0 3 t.2.2.1),(300003,Cell.arr false true 0 2 t.2.2.2)]}))) (fun x=>M.lZ bP x.1.2.1 x.1.2.2.2.2.1 x.2.2.1.1 x.2.2.1.2.1 x.2.2.1.2.2.1 x.2.2.1.2.2.2.1 x.2.2.1.2.2.2.2.1 x.2.2.2.1.1 x.2.2.2.1.2.1 x.2.2.2.1.2.2.1 x.2.2.2.1.2.2.2.1 x.2.2.2.1.2.2.2.2.1) [fe C.iY,fe C.bZ,fe vk] [] (by rintro _ _ ⟨_,_,_,_⟩ _ _<;>unfold M.lZ<;>repeat' first|with_reducible apply gG|with_reducible apply Gp|with_reducible apply Gq|with_reducible apply Gs|with_reducible apply Gt|(intro _)|apply gG|rfl)
def M.pG{R:Type}(bP:Int→Int→aF→aF→ak→Int→Int→Bool→Bool→Bool→Bool→ak→ak→Bool→Option (ak×ak×Bool))(t' gX:Int)(iK jr:aF)(iM:ak)(open' shut p:Int)(p1 p2 p3 p4:Bool)(c c1:ak)(c2:Bool)(k:ak×ak×Bool→Option R):Option R:=
 (M.iY open').bind fun arh=>
 (bif aB c then
 (bif aB c1 then
 ((M.bZ ([[D.int .i64 arh.1,D.str arh.2.1,D.int .i64 arh.2.2]]) c c1 c2).bind fun ari=>
 ((M.jR bP shut ((↑iM.length:Int)) t' gX iK jr iM p p1 p2 p3 p4 ((0,ari.2.2,ari.1,ari.2.1))).bind fun agW=>
 ((M.iY shut).bind fun arj=>
 (bif aB agW.2.2.1 then
 (bif aB agW.2.2.2 then
 ((M.bZ ([[D.int .i64 arj.1,D.str arj.2.1,D.int .i64 arj.2.2]]) agW.2.2.1 agW.2.2.2 agW.2.1).bind fun agX=>
 (bif aB agX.1 then(bif aB agX.2.1 then(k ((agX.1,agX.2.1,agX.2.2))) else none) else none)) else none) else none)))) else none) else none)
theorem C.Rq{bP:Int→Int→aF→aF→ak→Int→Int→Bool→Bool→Bool→Bool→ak→ak→Bool→Option (ak×ak×Bool)}(vk:S.jv.ok X0 fun x=>bP x.1.2.1.1 x.1.2.1.2.1 x.1.2.1.2.2.1 x.1.2.1.2.2.2.1 x.1.2.1.2.2.2.2.1 x.1.2.2.1 x.1.2.2.2.1.1 x.1.2.2.2.1.2.1 x.1.2.2.2.1.2.2.1 x.1.2.2.2.1.2.2.2.1 x.1.2.2.2.1.2.2.2.2.1 x.2.1.1 x.2.1.2.1 x.2.1.2.2.1):S.mO.ok X0 fun x=>M.pG bP x.1.2.1.1 x.1.2.1.2.1 x.1.2.1.2.2.1 x.1.2.1.2.2.2.1 x.1.2.1.2.2.2.2.1 x.1.2.2.1 x.1.2.2.2.1 x.1.2.2.2.2.1.1 x.1.2.2.2.2.1.2.1 x.1.2.2.2.2.1.2.2.1 x.1.2.2.2.2.1.2.2.2.1 x.1.2.2.2.2.1.2.2.2.2.1 x.2.1.1 x.2.1.2.1 x.2.1.2.2.1 some:=fnS (fun x=>M.pG bP x.1.2.1.1 x.1.2.1.2.1 x.1.2.1.2.2.1 x.1.2.1.2.2.2.1 x.1.2.1.2.2.2.2.1 x.1.2.2.1 x.1.2.2.2.1 x.1.2.2.2.2.1.1 x.1.2.2.2.2.1.2.1 x.1.2.2.2.2.1.2.2.1 x.1.2.2.2.2.1.2.2.2.1 x.1.2.2.2.2.1.2.2.2.2.1 x.2.1.1 x.2.1.2.1 x.2.1.2.2.1) [fe C.iY,fe C.bZ] [F.jR vk] (by intros;unfold M.pG;repeat' first|with_reducible apply gG|with_reducible apply Gp|with_reducible apply Gq|with_reducible apply Gs|with_reducible apply Gt|(intro _)|apply gG|rfl)
def M.dY{R:Type}(bP:Int→Int→aF→aF→ak→Int→Int→Bool→Bool→Bool→Bool→ak→ak→Bool→Option (ak×ak×Bool))(fP:Int→Int→aF→aF→ak→Int→Int→Int→Bool→Bool→Bool→Bool→ak→ak→Bool→Option (ak×ak×Bool))(t' gX:Int)(iK jr:aF)(iM:ak)(p:Int)(p1 p2 p3 p4:Bool)(c c1:ak)(c2:Bool)(k:ak×ak×Bool→Option R):Option R:=
 bif t'==9 then
 ((M.iY gX).bind fun ark=>
 (bif aB c then
 (bif aB c1 then
 ((M.bZ ([[D.int .i64 ark.1,D.str ark.2.1,D.int .i64 ark.2.2]]) c c1 c2).bind fun agY=>
 (bif aB agY.1 then
 (bif aB agY.2.1 then
 ((bP t' gX iK jr iM 0 p p1 p2 p3 p4 agY.1 agY.2.1 agY.2.2).bind fun agZ=>
 (bif aB agZ.1 then(bif aB agZ.2.1 then(k ((agZ.1,agZ.2.1,agZ.2.2))) else none) else none)) else none) else none)) else none) else none)) else
 (bif t'==11 then
 ((M.iY gX).bind fun arl=>
 (bif aB c then
 (bif aB c1 then
 ((M.bZ ([[D.int .i64 arl.1,D.str arl.2.1,D.int .i64 arl.2.2]]) c c1 c2).bind fun ag0=>
 (bif aB ag0.1 then
 (bif aB ag0.2.1 then
 ((bP t' gX iK jr iM 0 p p1 p2 p3 p4 ag0.1 ag0.2.1 ag0.2.2).bind fun ag1=>
 (bif aB ag1.1 then(bif aB ag1.2.1 then(k ((ag1.1,ag1.2.1,ag1.2.2))) else none) else none)) else none) else none)) else none) else none)) else
 (bif t'==6 then
 ((M.iY 68).bind fun arn=>
 (bif aB c then
 (bif aB c1 then
 ((M.bZ ([[D.int .i64 arn.1,D.str arn.2.1,D.int .i64 arn.2.2]]) c c1 c2).bind fun ag2=>
 (bif aB ag2.1 then
 (bif aB ag2.2.1 then
 ((bP t' gX iK jr iM 0 p p1 p2 p3 p4 ag2.1 ag2.2.1 ag2.2.2).bind fun ag3=>
 (bif aB ag3.1 then(bif aB ag3.2.1 then(k ((ag3.1,ag3.2.1,ag3.2.2))) else none) else none)) else none) else none)) else none) else none)) else
 (bif t'==10 then
 (bif aB c then
 (bif aB c1 then
 ((bP t' gX iK jr iM 0 p p1 p2 p3 p4 c c1 c2).bind fun ag4=>
 ((M.iY gX).bind fun aro=>
 (bif aB ag4.1 then
 (bif aB ag4.2.1 then
 ((M.bZ ([[D.int .i64 aro.1,D.str aro.2.1,D.int .i64 aro.2.2]]) ag4.1 ag4.2.1 ag4.2.2).bind fun ag5=>
 (bif aB ag5.1 then(bif aB ag5.2.1 then(k ((ag5.1,ag5.2.1,ag5.2.2))) else none) else none)) else none) else none))) else none) else none) else
 (bif t'==13 then
 (bif decide ((↑iM.length:Int)>1) then
 (bif aB c then
 (bif aB c1 then
 ((fP t' gX iK jr iM 32 33 p p1 p2 p3 p4 c c1 c2).bind fun ag6=>
 ((M.iY 24).bind fun arp=>
 (bif aB ag6.1 then
 (bif aB ag6.2.1 then
 ((M.bZ ([[D.int .i64 arp.1,D.str arp.2.1,D.int .i64 arp.2.2],[D.int .i64 6,D.str iK,D.int .i64 0]]) ag6.1 ag6.2.1 ag6.2.2).bind fun ag7=>
 (bif aB ag7.1 then(bif aB ag7.2.1 then(k ((ag7.1,ag7.2.1,ag7.2.2))) else none) else none)) else none) else none))) else none) else none) else
 (bif aB c then
 (bif aB c1 then
 ((bP t' gX iK jr iM 0 p p1 p2 p3 p4 c c1 c2).bind fun ag8=>
 ((M.iY 24).bind fun arq=>
 (bif aB ag8.1 then
 (bif aB ag8.2.1 then
 ((M.bZ ([[D.int .i64 arq.1,D.str arq.2.1,D.int .i64 arq.2.2],[D.int .i64 6,D.str iK,D.int .i64 0]]) ag8.1 ag8.2.1 ag8.2.2).bind fun ag9=>
 (bif aB ag9.1 then(bif aB ag9.2.1 then(k ((ag9.1,ag9.2.1,ag9.2.2))) else none) else none)) else none) else none))) else none) else none)) else
 (bif t'==14 then
 (bif aB c then
 (bif aB c1 then
 ((bP t' gX iK jr iM 0 p p1 p2 p3 p4 c c1 c2).bind fun aha=>
 ((M.iY 65).bind fun ars=>
 (bif aB aha.1 then
 (bif aB aha.2.1 then
 ((M.bZ ([[D.int .i64 ars.1,D.str ars.2.1,D.int .i64 ars.2.2]]) aha.1 aha.2.1 aha.2.2).bind fun ahb=>
 (bif aB ahb.1 then
 (bif aB ahb.2.1 then
 ((bP t' gX iK jr iM 1 p p1 p2 p3 p4 ahb.1 ahb.2.1 ahb.2.2).bind fun ahc=>
 ((M.iY 66).bind fun aru=>
 (bif aB ahc.1 then
 (bif aB ahc.2.1 then
 ((M.bZ ([[D.int .i64 aru.1,D.str aru.2.1,D.int .i64 aru.2.2]]) ahc.1 ahc.2.1 ahc.2.2).bind fun ahd=>
 (bif aB ahd.1 then
 (bif aB ahd.2.1 then
 ((bP t' gX iK jr iM 2 p p1 p2 p3 p4 ahd.1 ahd.2.1 ahd.2.2).bind fun ahe=>
 (bif aB ahe.1 then(bif aB ahe.2.1 then(k ((ahe.1,ahe.2.1,ahe.2.2))) else none) else none)) else none) else none)) else none) else none))) else none) else none)) else none) else none))) else none) else none) else
 (bif aB c then
 (bif aB c1 then
 ((bP t' gX iK jr iM 0 p p1 p2 p3 p4 c c1 c2).bind fun TW=>
 (bif gX !=99 then
 ((M.iY gX).bind fun arv=>
 (bif aB TW.1 then
 (bif aB TW.2.1 then
 ((M.bZ ([[D.int .i64 arv.1,D.str arv.2.1,D.int .i64 arv.2.2]]) TW.1 TW.2.1 TW.2.2).bind fun ahf=>
 (bif aB ahf.1 then
 (bif aB ahf.2.1 then
 ((bP t' gX iK jr iM 1 p p1 p2 p3 p4 ahf.1 ahf.2.1 ahf.2.2).bind fun ahg=>
 (bif aB ahg.1 then(bif aB ahg.2.1 then(k ((ahg.1,ahg.2.1,ahg.2.2))) else none) else none)) else none) else none)) else none) else none)) else
 (bif aB TW.1 then
 (bif aB TW.2.1 then
 ((bP t' gX iK jr iM 1 p p1 p2 p3 p4 TW.1 TW.2.1 TW.2.2).bind fun ahh=>
 (bif aB ahh.1 then(bif aB ahh.2.1 then(k ((ahh.1,ahh.2.1,ahh.2.2))) else none) else none)) else none) else none))) else none) else none))))))
theorem C.Ou{bP:Int→Int→aF→aF→ak→Int→Int→Bool→Bool→Bool→Bool→ak→ak→Bool→Option (ak×ak×Bool)}{fP:Int→Int→aF→aF→ak→Int→Int→Int→Bool→Bool→Bool→Bool→ak→ak→Bool→Option (ak×ak×Bool)}(vk:S.jv.ok X0 fun x=>bP x.1.2.1.1 x.1.2.1.2.1 x.1.2.1.2.2.1 x.1.2.1.2.2.2.1 x.1.2.1.2.2.2.2.1 x.1.2.2.1 x.1.2.2.2.1.1 x.1.2.2.2.1.2.1 x.1.2.2.2.1.2.2.1 x.1.2.2.2.1.2.2.2.1 x.1.2.2.2.1.2.2.2.2.1 x.2.1.1 x.2.1.2.1 x.2.1.2.2.1)(EM:S.mO.ok X0 fun x=>fP x.1.2.1.1 x.1.2.1.2.1 x.1.2.1.2.2.1 x.1.2.1.2.2.2.1 x.1.2.1.2.2.2.2.1 x.1.2.2.1 x.1.2.2.2.1 x.1.2.2.2.2.1.1 x.1.2.2.2.2.1.2.1 x.1.2.2.2.2.1.2.2.1 x.1.2.2.2.2.1.2.2.2.1 x.1.2.2.2.2.1.2.2.2.2.1 x.2.1.1 x.2.1.2.1 x.2.1.2.2.1):S.lH.ok X0 fun x=>M.dY bP fP x.1.2.1.1 x.1.2.1.2.1 x.1.2.1.2.2.1 x.1.2.1.2.2.2.1 x.1.2.1.2.2.2.2.1 x.1.2.2.1.1 x.1.2.2.1.2.1 x.1.2.2.1.2.2.1 x.1.2.2.1.2.2.2.1 x.1.2.2.1.2.2.2.2.1 x.2.1.1 x.2.1.2.1 x.2.1.2.2.1 some:=fnS (fun x=>M.dY bP fP x.1.2.1.1 x.1.2.1.2.1 x.1.2.1.2.2.1 x.1.2.1.2.2.2.1 x.1.2.1.2.2.2.2.1 x.1.2.2.1.1 x.1.2.2.1.2.1 x.1.2.2.1.2.2.1 x.1.2.2.1.2.2.2.1 x.1.2.2.1.2.2.2.2.1 x.2.1.1 x.2.1.2.1 x.2.1.2.2.1) [fe C.iY,fe C.bZ,fe vk,fe EM] [] (by intros;unfold M.dY;repeat' first|with_reducible apply gG|with_reducible apply Gp|with_reducible apply Gq|with_reducible apply Gs|with_reducible apply Gt|(intro _)|apply gG|rfl)
end
end Go.Proofs.YtbpldgeajbfgnaaGreatDoor
