import Derived.Test.YtoaeipkhadpbiaaGreatDoorPForms4
set_option linter.defProp false
namespace Go.Proofs.YtoaeipkhadpbiaaGreatDoor
open Go Go.Vm
open Go.IntKind (i64)
set_option linter.unusedVariables false
set_option linter.unusedSimpArgs false
noncomputable section
variable {R:Type}
def M.yV(iO:zai)(v7:aA)(v8:Int)(s:Int×Int)(kn:Int×Int->Option R)(ke:Int×Int->Option R):Option R:=match s with
 |(sum,v9)=>bif decide (v9<v8) then((idx v7 v9).bind λb=>Q9 5 b λaLb aLc aLd aLe azx=>((iO aLb aLc aLd aLe azx).bind λa=>kn (i64.wrap (sum+a),i64.wrap (v9+1)))) else ke (sum,v9)
def M.DI iO v7 v8 s:=M.yV iO v7 v8 s (λs=>some (Sum.inl s)) λt=>some (Sum.inr t)
def M.GZ iO v7 v8 s:=gV (M.DI iO v7 v8) s
def F.GZ{iO:zai}(Oy:S.ny.ok X0 λx=>mD iO x.1.1):LE X0 71:=le 3 (Hw [dN 3 pI,dN 7 (pL false 5),dN 8 pI,dN 9 pI] []) (λx=>(x.1.1,x.1.va.1)) (λx s=>((s.1,x.1.2.1,x.1.2.2.1,s.2,()),())) (λx=> .leaf (Int×Int) (λt=>(Ex.exit 0,⟨[(3,jk t.1),(7,Du 5 x.1.2.1),(8,jk x.1.2.2.1),(9,jk t.2),(10,kX false)],[]⟩))) (λx=>M.yV iO x.1.2.1 x.1.2.2.1) [fe Oy] [] (by rintro _ _ ⟨_,_⟩ _ _<;>simp only[Q9,M.yV,nb]<;>rfl)
def M.Ed(iO:zai)(t' II:Int)(TD VL:aP)(Uu:aA)(k:Int->Option R):=(M.GZ iO Uu ((↑Uu.length:Int)) (1,0)).bind λa=>k a.1
def M.kP:zan
 |0=>λ_ _ _ _ _=>none
 |n+1=>λt' II TD VL Uu=>M.Ed (M.kP n) t' II TD VL Uu some
def M.ny t' II TD VL Uu:=lim λn=>M.kP n t' II TD VL Uu
def C.aeJ{iO:zai}(Oy:S.ny.ok X0 λx=>mD iO x.1.1):S.ny.ok X0 λx=>mD (M.Ed iO) x.1.1 some:=fnS (λx=>M.Ed iO x.1.1.1 x.1.1.2.1 x.1.1.2.2.1 x.1.1.va.1 x.1.1.va.2.1) [] [F.GZ Oy] (by intros;simp only[M.Ed,nb]<;>rfl)
def C.kP:∀n,S.ny.ok X0 λx=>M.kP n x.1.1.1 x.1.1.2.1 x.1.1.2.2.1 x.1.1.va.1 x.1.1.va.2.1
 |0=>fJ.zero
 |n+1=>C.aeJ (C.kP n)
def C.ny:S.ny.ok X0 λx=>mD M.ny x.1.1:=fJ.lim C.kP
def M.aeK{n:Nat}{t' II:Int}{TD VL:aP}{Uu:aA}{r:Int}(h:M.kP n t' II TD VL Uu=some r):M.ny t' II TD VL Uu=some r:=fJ.JA C.kP (by intro a b h;simp[S.ny,re,sg] at h;first|exact h|simp[Prod.ext_iff,h]) (x:=(((t',II,TD,VL,Uu,()),()),())) h
def M.xY(iF:zai)(v7:aA)(v8:Int)(s:Int×Int)(kn:Int×Int->Option R)(ke:Int×Int->Option R):Option R:=match s with
 |(most,v9)=>bif decide (v9<v8) then((idx v7 v9).bind λb=>Q9 5 b λaLh aLi aLj aLk azy=>((iF aLh aLi aLj aLk azy).bind λa=>kn (bif decide (most<a) then a else most,i64.wrap (v9+1)))) else ke (most,v9)
def M.CW iF v7 v8 s:=M.xY iF v7 v8 s (λs=>some (Sum.inl s)) λt=>some (Sum.inr t)
def M.FI iF v7 v8 s:=gV (M.CW iF v7 v8) s
def F.FI{iF:zai}(Nz:S.lJ.ok X0 λx=>mD iF x.1.1):LE X0 72:=le 3 (Hw [dN 3 pI,dN 7 (pL false 5),dN 8 pI,dN 9 pI] []) (λx=>(x.1.1,x.1.va.1)) (λx s=>((s.1,x.1.2.1,x.1.2.2.1,s.2,()),())) (λx=> .leaf (Int×Int) (λt=>(Ex.exit 0,⟨[(3,jk t.1),(7,Du 5 x.1.2.1),(8,jk x.1.2.2.1),(9,jk t.2),(10,kX false)],[]⟩))) (λx=>M.xY iF x.1.2.1 x.1.2.2.1) [fe Nz] [] (by rintro _ _ ⟨_,_⟩ _ _<;>simp only[Q9,M.xY,nb]<;>rfl)
def M.CX(iF:zai)(t' II:Int)(TD VL:aP)(Uu:aA)(k:Int->Option R):=(M.FI iF Uu ((↑Uu.length:Int)) (0,0)).bind λa=>k (i64.wrap (a.1+1))
def M.jL:zan
 |0=>λ_ _ _ _ _=>none
 |n+1=>λt' II TD VL Uu=>M.CX (M.jL n) t' II TD VL Uu some
def M.lJ t' II TD VL Uu:=lim λn=>M.jL n t' II TD VL Uu
def C.adF{iF:zai}(Nz:S.lJ.ok X0 λx=>mD iF x.1.1):S.lJ.ok X0 λx=>mD (M.CX iF) x.1.1 some:=fnS (λx=>M.CX iF x.1.1.1 x.1.1.2.1 x.1.1.2.2.1 x.1.1.va.1 x.1.1.va.2.1) [] [F.FI Nz] (by intros;simp only[M.CX,nb]<;>rfl)
def C.jL:∀n,S.lJ.ok X0 λx=>M.jL n x.1.1.1 x.1.1.2.1 x.1.1.2.2.1 x.1.1.va.1 x.1.1.va.2.1
 |0=>fJ.zero
 |n+1=>C.adF (C.jL n)
def C.lJ:S.lJ.ok X0 λx=>mD M.lJ x.1.1:=fJ.lim C.jL
def M.adG{n:Nat}{t' II:Int}{TD VL:aP}{Uu:aA}{r:Int}(h:M.jL n t' II TD VL Uu=some r):M.lJ t' II TD VL Uu=some r:=fJ.JA C.jL (by intro a b h;simp[S.lJ,re,sg] at h;first|exact h|simp[Prod.ext_iff,h]) (x:=(((t',II,TD,VL,Uu,()),()),())) h
abbrev M.NC(t' II:Int)(TD VL:aP)(Uu:aA)(k:Int×Int->Option R):=(M.ny t' II TD VL Uu).bind λb=>bif decide (b>400) then(k (1,0)) else (M.lJ t' II TD VL Uu).bind λa=>bif decide (a>40) then(k (4,0)) else k (0,0)
def M.tH t' II TD VL Uu:=M.NC t' II TD VL Uu some
def C.tH:=fTa S.tH (λx=>M.NC x.1.1.1 x.1.1.2.1 x.1.1.2.2.1 x.1.1.va.1 x.1.1.va.2.1) [fe C.ny,fe C.lJ]
def M.rO(iP:zaj)(s:zax⊕zay)(kn:zax⊕zay->Option R)(ke:zax⊕zay->Option R):Option R:=match s with
 | .inl (v18,v19,v20,x',lX,vH,uZ,vI)=>bif decide (v20<v19) then((idx v18 v20).bind λd=>Q9 5 d λaLo aLp aLq aLr azz=>((iP aLo aLp aLq aLr azz x').bind λb=>kn (.inr (v18,v19,i64.wrap (v20+1),b,lX,vH,uZ,vI,[[D.int .i64 (i64.wrap ((↑b.length:Int) - 1))]])))) else(ke (.inl (v18,v19,v20,x',lX,vH,uZ,vI)))
 | .inr (v18,v19,v20,x',lX,vH,uZ,vI,xJ)=>bif decide (v20<v19) then((idx v18 v20).bind λc=>Q9 5 c λaLs aLt aLu aLv azA=>((iP aLs aLt aLu aLv azA x').bind λa=>oC xJ [[D.int .i64 (i64.wrap ((↑a.length:Int) - 1))]] 8 λe=>kn (.inr (v18,v19,i64.wrap (v20+1),a,lX,vH,uZ,vI,e)))) else ke (.inr (v18,v19,v20,x',lX,vH,uZ,vI,xJ))
def M.wJ iP s:=M.rO iP s (λs=>some (Sum.inl s)) λt=>some (Sum.inr t)
def M.Ji iP s:=gV (M.wJ iP) s
def F.Ji{iP:zaj}(Qd:S.oU.ok X0 λx=>mD iP x.1.1 x.1.2.1):LE X0 73:=le 3 (pOr (Hw [dN 1 (pO 300000 0),dN 5 (pP 300001 0),dN 18 (pL false 5),dN 19 pI,dN 20 pI] [dN 300000 (cA false false 0 5),dN 300001 (cB 57 [pI,pI,pS,pS,Q5 1])]) (Hw [dN 1 (pO 300000 0),dN 5 (pP 300001 0),dN 18 (pL false 5),dN 19 pI,dN 20 pI] [dN 300000 (cA false false 0 5),dN 300001 (cB 57 [pI,pI,pS,pS,pO 300002 0]),dN 300002 (cA false true 0 1)])) (σ:=zax⊕zay) (λx=>(match x with| .inl x=> .inl ((x.1.2.2.1,x.1.va.1,x.1.va.2.1,x.2.1,x.2.2.1.1,x.2.2.1.2.1,x.2.2.1.2.2.1,x.2.2.1.va.1))| .inr x=> .inr ((x.1.2.2.1,x.1.va.1,x.1.va.2.1,x.2.1,x.2.2.1.1,x.2.2.1.2.1,x.2.2.1.2.2.1,x.2.2.1.va.1,x.va.1)))) (λx s=>(match s with| .inl s=> .inl ((((),(),s.1,s.2.1,s.2.2.1,()),(s.va.1,(s.va.2.1,s.va.2.2.1,s.va.va.1,s.va.va.2,(),()),())))| .inr s=> .inr ((((),(),s.1,s.2.1,s.2.2.1,()),(s.va.1,(s.va.2.1,s.va.2.2.1,s.va.va.1,s.va.va.2.1,(),()),s.wd,()))))) (λx=> .sum (.leaf zax (λt=>(Ex.exit 0,⟨[(1,V.own 300000 0),(5,V.ptr 300001 0),(18,Du 5 t.1),(19,jk t.2.1),(20,jk t.2.2.1),(21,kX false)],[(300000,Cell.arr false false 0 5 t.va.1),(300001,Cell.box 57 [jk t.va.2.1,jk t.va.2.2.1,Dx t.va.va.1,Dx t.va.va.2,V.nil 1])]⟩))) (.leaf zay (λt=>(Ex.exit 0,⟨[(1,V.own 300000 0),(5,V.ptr 300001 0),(18,Du 5 t.1),(19,jk t.2.1),(20,jk t.2.2.1),(21,kX false)],[(300000,Cell.arr false false 0 5 t.va.1),(300001,Cell.box 57 [jk t.va.2.1,jk t.va.2.2.1,Dx t.va.va.1,Dx t.va.va.2.1,V.own 300002 0]),(300002,Cell.arr false true 0 1 t.wd)]⟩)))) (λx=>M.rO iP) [fe Qd] [] (by rintro _ _ (⟨_,_,_,_,_,_,_,_⟩|⟨_,_,_,_,_,_,_,_,_⟩) _ _<;>simp only[oC,Q9,M.rO,nb]<;>rfl) (hE:=by intro _ _ s _;rcases s with s|s<;>kernel_rfl)
def M.Gl(iP:zaj)(t' II:Int)(TD VL:aP)(Uu l:aA)(k:aA->Option R):=(M.Ji iP (.inl (Uu,(↑Uu.length:Int),0,l,t',II,TD,VL))).bind λd=>iD d (λb=>oC b.2.2.2.1 [[D.int .i64 b.2.2.2.2.1,D.int .i64 b.2.2.2.2.2.1,D.str b.2.2.2.2.2.2.1,D.str b.2.2.2.2.2.2.2,D.sl true 1 []]] 72 λza=>k za) λc=>letE c λa=>bif ah a.2.2.2.2.2.2.2.2 then(oC a.2.2.2.1 [[D.int .i64 a.2.2.2.2.1,D.int .i64 a.2.2.2.2.2.1,D.str a.2.2.2.2.2.2.1,D.str a.2.2.2.2.2.2.2.1,D.sl true 1 a.2.2.2.2.2.2.2.2]] 72 λza=>k za) else none
def M.jM:Nat->Int->Int->aP->aP->aA->aA->Option (aA)
 |0=>λ_ _ _ _ _ _=>none
 |n+1=>λt' II TD VL Uu l=>M.Gl (M.jM n) t' II TD VL Uu l some
def M.oU t' II TD VL Uu l:=lim λn=>M.jM n t' II TD VL Uu l
def C.afy{iP:zaj}(Qd:S.oU.ok X0 λx=>mD iP x.1.1 x.1.2.1):S.oU.ok X0 λx=>mD (M.Gl iP) x.1.1 x.1.2.1 some:=fnS (λx=>M.Gl iP x.1.1.1 x.1.1.2.1 x.1.1.2.2.1 x.1.1.va.1 x.1.1.va.2.1 x.1.2.1) [] [F.Ji Qd] (by intros;simp only[oC,M.Gl,nb]<;>rfl)
def C.jM:∀n,S.oU.ok X0 λx=>M.jM n x.1.1.1 x.1.1.2.1 x.1.1.2.2.1 x.1.1.va.1 x.1.1.va.2.1 x.1.2.1
 |0=>fJ.zero
 |n+1=>C.afy (C.jM n)
def C.oU:S.oU.ok X0 λx=>mD M.oU x.1.1 x.1.2.1:=fJ.lim C.jM
def M.afz{n:Nat}{t' II:Int}{TD VL:aP}{Uu l r:aA}(h:M.jM n t' II TD VL Uu l=some r):M.oU t' II TD VL Uu l=some r:=fJ.JA C.jM (by intro a b h;simp[S.oU,rl,sg] at h;first|exact h|simp[Prod.ext_iff,h]) (x:=(((t',II,TD,VL,Uu,()),l,()),())) h
abbrev M.Jj(t' II:Int)(TD VL:aP)(Uu:aA)(k:aA->Option R):=(M.oU t' II TD VL Uu []).bind λa=>k a
def M.oH t' II TD VL Uu:=M.Jj t' II TD VL Uu some
def C.oH:=fTa S.oH (λx=>M.Jj x.1.1.1 x.1.1.2.1 x.1.1.2.2.1 x.1.1.va.1 x.1.1.va.2.1) [fe C.oU]
def M.qy(s:zaz⊕zaA)(kn:zaz⊕zaA->Option R)(ke:zaz⊕zaA->Option R):Option R:=match s with
 | .inl (l,x',lX,vH,uZ,vI,xJ,DY,JD,JO,PY)=>bif !vI then(bif decide (uZ<(↑l.length:Int)) then(bif ah PY then((M.dV vH uZ vI PY).bind λd=>bif((ak (ak d.2.1)).length * 72).ble 140737488355328 then(bif(ak (ak d.2.1)).length.ble 140737488355328 then(bif ah d.2.2.2.2.2 then((M.kN d.2.2.1 d.2.2.2.1 d.2.2.2.2.1 d.2.2.2.2.2).bind λb=>oC (ak (ak d.2.1)) [[D.int .i64 b.1,D.int .i64 b.2.1,D.str b.2.2.1,D.str b.2.2.2.1,D.sl false 5 (ak b.2.2.2.2.2.1)]] 72 λza=>bif ah b.2.2.2.2.2.2.2.2.2 then((M.bQ b.2.2.2.2.2.2.1 b.2.2.2.2.2.2.2.1 b.2.2.2.2.2.2.2.2.1 b.2.2.2.2.2.2.2.2.2).bind λf=>kn (.inr (l,x',lX,f.1,f.2.1,f.2.2.1,xJ,DY,JD,JO,f.2.2.2,za))) else none) else none) else none) else none) else none) else ke (.inl (l,x',lX,vH,uZ,vI,xJ,DY,JD,JO,PY))) else(ke (.inl (l,x',lX,vH,uZ,vI,xJ,DY,JD,JO,PY)))
 | .inr (l,x',lX,vH,uZ,vI,xJ,DY,JD,JO,PY,FC)=>bif !vI then(bif decide (uZ<(↑l.length:Int)) then(bif ah PY then((M.dV vH uZ vI PY).bind λc=>bif((FC.length+(ak (ak c.2.1)).length) * 72).ble 140737488355328 then(bif(FC.length+(ak (ak c.2.1)).length).ble 140737488355328 then(bif ah c.2.2.2.2.2 then((M.kN c.2.2.1 c.2.2.2.1 c.2.2.2.2.1 c.2.2.2.2.2).bind λa=>oC (FC++ak (ak c.2.1)) [[D.int .i64 a.1,D.int .i64 a.2.1,D.str a.2.2.1,D.str a.2.2.2.1,D.sl false 5 (ak a.2.2.2.2.2.1)]] 72 λza=>bif ah a.2.2.2.2.2.2.2.2.2 then((M.bQ a.2.2.2.2.2.2.1 a.2.2.2.2.2.2.2.1 a.2.2.2.2.2.2.2.2.1 a.2.2.2.2.2.2.2.2.2).bind λe=>kn (.inr (l,x',lX,e.1,e.2.1,e.2.2.1,xJ,DY,JD,JO,e.2.2.2,za))) else none) else none) else none) else none) else none) else ke (.inr (l,x',lX,vH,uZ,vI,xJ,DY,JD,JO,PY,FC))) else ke (.inr (l,x',lX,vH,uZ,vI,xJ,DY,JD,JO,PY,FC))
def M.qA s:=M.qy s (λs=>some (Sum.inl s)) λt=>some (Sum.inr t)
def M.yX s:=gV (M.qA) s
def F.yX:LE X0 9:=le 6 (pOr (Hw [dN 0 (pL false 3),dN 3 (pP 300000 0),dN 5 (pP 300001 0),dN 6 (pP 300002 0)] [dN 300000 (cB 26 [pI,pI]),dN 300001 (cB 65 [pL false 3,pI,pB,pO 300003 0]),dN 300002 (cB 68 [pI,pI,pS,pS,Q5 5]),dN 300003 (cA false true 0 1)]) (Hw [dN 0 (pL false 3),dN 3 (pP 300000 0),dN 5 (pP 300001 0),dN 6 (pP 300002 0)] [dN 300000 (cB 26 [pI,pI]),dN 300001 (cB 65 [pL false 3,pI,pB,pO 300003 0]),dN 300002 (cB 68 [pI,pI,pS,pS,pO 300004 0]),dN 300003 (cA false true 0 1),dN 300004 (cA false false 0 5)])) (σ:=zaz⊕zaA) (λx=>(match x with| .inl x=> .inl ((x.1.1,x.2.1.1,x.2.1.2.1,x.2.2.1.1,x.2.2.1.2.1,x.2.2.1.2.2.1,x.va.1.1,x.va.1.2.1,x.va.1.2.2.1,x.va.1.va.1,x.va.2.1))| .inr x=> .inr ((x.1.1,x.2.1.1,x.2.1.2.1,x.2.2.1.1,x.2.2.1.2.1,x.2.2.1.2.2.1,x.va.1.1,x.va.1.2.1,x.va.1.2.2.1,x.va.1.va.1,x.va.2.1,x.va.2.2.1)))) (λx s=>(match s with| .inl s=> .inl (((s.1,(),(),(),()),((s.2.1,s.2.2.1,()),(s.va.1,s.va.2.1,s.va.2.2.1,(),()),(s.va.va.1,s.va.va.2.1,s.wd.1,s.wd.2.1,(),()),s.wd.2.2,())))| .inr s=> .inr (((s.1,(),(),(),()),((s.2.1,s.2.2.1,()),(s.va.1,s.va.2.1,s.va.2.2.1,(),()),(s.va.va.1,s.va.va.2.1,s.wd.1,s.wd.2.1,(),()),s.wd.2.2.1,s.wd.va,()))))) (λx=> .sum (.leaf zaz (λt=>(Ex.exit 0,⟨[(0,Du 3 t.1),(3,V.ptr 300000 0),(5,V.ptr 300001 0),(6,V.ptr 300002 0),(33,kX false)],[(300000,Cell.box 26 [jk t.2.1,jk t.2.2.1]),(300001,Cell.box 65 [Du 3 t.va.1,jk t.va.2.1,kX t.va.2.2.1,V.own 300003 0]),(300002,Cell.box 68 [jk t.va.va.1,jk t.va.va.2.1,Dx t.wd.1,Dx t.wd.2.1,V.nil 5]),(300003,Cell.arr false true 0 1 t.wd.2.2)]⟩))) (.leaf zaA (λt=>(Ex.exit 0,⟨[(0,Du 3 t.1),(3,V.ptr 300000 0),(5,V.ptr 300001 0),(6,V.ptr 300002 0),(33,kX false)],[(300000,Cell.box 26 [jk t.2.1,jk t.2.2.1]),(300001,Cell.box 65 [Du 3 t.va.1,jk t.va.2.1,kX t.va.2.2.1,V.own 300003 0]),(300002,Cell.box 68 [jk t.va.va.1,jk t.va.va.2.1,Dx t.wd.1,Dx t.wd.2.1,V.own 300004 0]),(300003,Cell.arr false true 0 1 t.wd.2.2.1),(300004,Cell.arr false false 0 5 t.wd.va)]⟩)))) (λx=>M.qy) [fe C.dV,fe C.kN,fe C.bQ] [] (by rintro _ _ (⟨_,_,_,_,_,_,_,_,_,_,_⟩|⟨_,_,_,_,_,_,_,_,_,_,_,_⟩) _ _<;>unfold M.qy<;>repeat' first|(with_reducible first|apply dw|apply uU|apply uV|apply uX|apply uY)|intro _|apply dw|rfl) (hE:=by intro _ _ s _;rcases s with s|s<;>kernel_rfl)
abbrev M.wL(l:aA)(k:aA×Int×Int->Option R):=(M.tC l).bind λh=>bif !bif h.1==0 then bif h.2==0 then true else false else false then(k ([],h.1,h.2)) else (M.bQ l 0 false []).bind λg=>(M.yX (.inl (l,0,0,g.1,g.2.1,g.2.2.1,45,0,[],[],g.2.2.2))).bind λp=>iD p (λb=>bif b.2.2.2.2.2.1 then((M.nV b.1 b.2.2.2.2.1).bind λo=>k ([],3,o)) else bif ah b.2.2.2.2.2.2.2.2.2.2 then((M.dV b.2.2.2.1 b.2.2.2.2.1 b.2.2.2.2.2.1 b.2.2.2.2.2.2.2.2.2.2).bind λd=>bif((ak (ak d.2.1)).length * 72).ble 140737488355328 then(bif(ak (ak d.2.1)).length.ble 140737488355328 then((M.tH b.2.2.2.2.2.2.1 b.2.2.2.2.2.2.2.1 b.2.2.2.2.2.2.2.2.1 b.2.2.2.2.2.2.2.2.2.1 (ak (ak (ak d.2.1)))).bind λe=>bif !bif e.1==0 then bif e.2==0 then true else false else false then(k ([],e.1,e.2)) else (M.oH b.2.2.2.2.2.2.1 b.2.2.2.2.2.2.2.1 b.2.2.2.2.2.2.2.2.1 b.2.2.2.2.2.2.2.2.2.1 (ak (ak (ak d.2.1)))).bind λi=>bif[[D.sl true 5 i]].all wP then(k (i,0,0)) else none) else none) else none) else none) λn=>letE n λa=>bif a.2.2.2.2.2.1 then((M.nV a.1 a.2.2.2.2.1).bind λm=>k ([],3,m)) else bif ah a.2.2.2.2.2.2.2.2.2.2.1 then((M.dV a.2.2.2.1 a.2.2.2.2.1 a.2.2.2.2.2.1 a.2.2.2.2.2.2.2.2.2.2.1).bind λc=>bif((a.2.2.2.2.2.2.2.2.2.2.2.length+(ak (ak c.2.1)).length) * 72).ble 140737488355328 then(bif(a.2.2.2.2.2.2.2.2.2.2.2.length+(ak (ak c.2.1)).length).ble 140737488355328 then((M.tH a.2.2.2.2.2.2.1 a.2.2.2.2.2.2.2.1 a.2.2.2.2.2.2.2.2.1 a.2.2.2.2.2.2.2.2.2.1 (ak (a.2.2.2.2.2.2.2.2.2.2.2++ak (ak c.2.1)))).bind λf=>bif !bif f.1==0 then bif f.2==0 then true else false else false then(k ([],f.1,f.2)) else (M.oH a.2.2.2.2.2.2.1 a.2.2.2.2.2.2.2.1 a.2.2.2.2.2.2.2.2.1 a.2.2.2.2.2.2.2.2.2.1 (ak (a.2.2.2.2.2.2.2.2.2.2.2++ak (ak c.2.1)))).bind λj=>bif[[D.sl true 5 j]].all wP then(k (j,0,0)) else none) else none) else none) else none
def M.jr l:=M.wL l some
def C.jr:=fTa S.jr (λx=>M.wL x.1.1) [fe C.tC,fe C.bQ,fe C.nV,fe C.dV,fe C.tH,fe C.oH] [F.yX]
def M.Ee(a b:aA)(s:Int)(kn:Int->Option R)(ke:(Unit)⊕(Int)->Option R):Option R:=match s with
 |i=>bif decide (i<(↑a.length:Int)) then((idx a i).bind λf=>(kJ .i64 f 0).bind λd=>(idx b i).bind λc=>(kJ .i64 c 0).bind λe=>bif d !=e then(ke (.inl ())) else kn (i64.wrap (i+1))) else ke (.inr i)
def M.Jk a b s:=M.Ee a b s (λs=>some (Sum.inl s)) λt=>some (Sum.inr t)
def M.ND a b s:=gV (M.Jk a b) s
def F.ND:LE X0 74:=le 4 (Hw [dN 0 (pL false 1),dN 1 (pL false 1),dN 5 pI] []) (λx=>x.1.2.2.1) (λx s=>((x.1.1,x.1.2.1,s,()),())) (λx=> .sum (.leaf (Unit) (λt=>(Ex.ret,⟨[(4,kX false)],[]⟩))) (.leaf (Int) (λt=>(Ex.exit 0,⟨[(0,Du 1 x.1.1),(1,Du 1 x.1.2.1),(5,jk t),(14,kX false)],[]⟩)))) (λx=>M.Ee x.1.1 x.1.2.1) [] [] (by rintro _ _ _ _ _<;>simp only[M.Ee,nb]<;>rfl)
abbrev M.O6(a b:aA)(k:Bool->Option R):=bif(↑a.length:Int) !=(↑b.length:Int) then(k false) else (M.ND a b 0).bind λd=>iD d (λf=>k false) λc=>letE c λe=>k true
def M.ED a b:=M.O6 a b some
def C.ED:=fTa S.ED (λx=>M.O6 x.1.1 x.1.2.1) [] [F.ND]
abbrev M.O7(a a1:Int)(a2 a3:aP)(a4:aA)(b b1:Int)(b2 b3:aP)(b4:aA)(k:Bool->Option R):=bif a !=b then(k false) else bif a1 !=b1 then(k false) else bif !a2==b2 then(k false) else bif !a3==b3 then(k false) else (M.ED a4 b4).bind λc=>bif !c then(k false) else k true
def M.EF a a1 a2 a3 a4 b b1 b2 b3 b4:=M.O7 a a1 a2 a3 a4 b b1 b2 b3 b4 some
def C.EF:=fTa S.EF (λx=>M.O7 x.1.1.1 x.1.1.2.1 x.1.1.2.2.1 x.1.1.va.1 x.1.1.va.2.1 x.1.2.1.1 x.1.2.1.2.1 x.1.2.1.2.2.1 x.1.2.1.va.1 x.1.2.1.va.2.1) [fe C.ED]
def M.CY(a b:aA)(s:Int)(kn:Int->Option R)(ke:(Unit)⊕(Int)->Option R):Option R:=match s with
 |i=>bif decide (i<(↑a.length:Int)) then((idx a i).bind λc=>Q9 1 c λaLI aLJ aLK aLL azB=>((idx b i).bind λd=>Q9 1 d λaLM aLN aLO aLP azC=>((M.EF aLI aLJ aLK aLL azB aLM aLN aLO aLP azC).bind λe=>bif !e then(ke (.inl ())) else kn (i64.wrap (i+1))))) else ke (.inr i)
def M.G7 a b s:=M.CY a b s (λs=>some (Sum.inl s)) λt=>some (Sum.inr t)
def M.KO a b s:=gV (M.G7 a b) s
def F.KO:LE X0 10:=le 4 (Hw [dN 0 (pL false 5),dN 1 (pL false 5),dN 5 pI] []) (λx=>x.1.2.2.1) (λx s=>((x.1.1,x.1.2.1,s,()),())) (λx=> .sum (.leaf (Unit) (λt=>(Ex.ret,⟨[(4,kX false)],[]⟩))) (.leaf (Int) (λt=>(Ex.exit 0,⟨[(0,Du 5 x.1.1),(1,Du 5 x.1.2.1),(5,jk t),(14,kX false)],[]⟩)))) (λx=>M.CY x.1.1 x.1.2.1) [fe C.EF] [] (by rintro _ _ _ _ _<;>simp only[Q9,M.CY,nb]<;>rfl)
abbrev M.NG(a b:aA)(k:Bool->Option R):=bif(↑a.length:Int) !=(↑b.length:Int) then(k false) else (M.KO a b 0).bind λd=>iD d (λe=>k false) λc=>letE c λf=>k true
def M.xk a b:=M.NG a b some
def C.xk:=fTa S.xk (λx=>M.NG x.1.1 x.1.2.1) [] [F.KO]
abbrev M.NH(a a1 b b1:Int)(k:Bool->Option R):=bif a !=b then(k false) else bif a1 !=b1 then(k false) else k true
def M.xq a a1 b b1:=M.NH a a1 b b1 some
def C.xq:=fTa S.xq (λx=>M.NH x.1.1.1 x.1.1.2.1 x.1.2.1.1 x.1.2.1.2.1)
abbrev M.NI(a:Int)(a1:aP)(a2 b:Int)(b1:aP)(b2:Int)(k:Bool->Option R):=bif a !=b then(k false) else bif !a1==b1 then(k false) else bif a2 !=b2 then(k false) else k true
def M.EW a a1 a2 b b1 b2:=M.NI a a1 a2 b b1 b2 some
def C.EW:=fTa S.EW (λx=>M.NI x.1.1.1 x.1.1.2.1 x.1.1.2.2.1 x.1.2.1.1 x.1.2.1.2.1 x.1.2.1.2.2.1)
def M.Ba(a b:aA)(s:Int)(kn:Int->Option R)(ke:(Unit)⊕(Int)->Option R):Option R:=match s with
 |i=>bif decide (i<(↑a.length:Int)) then((idx a i).bind λc=>(kJ .i64 c 0).bind λk=>(cStr c 1).bind λe=>(kJ .i64 c 2).bind λg=>(idx b i).bind λd=>(kJ .i64 d 0).bind λj=>(cStr d 1).bind λf=>(kJ .i64 d 2).bind λl=>(M.EW k e g j f l).bind λh=>bif !h then(ke (.inl ())) else kn (i64.wrap (i+1))) else ke (.inr i)
def M.FK a b s:=M.Ba a b s (λs=>some (Sum.inl s)) λt=>some (Sum.inr t)
def M.Jl a b s:=gV (M.FK a b) s
def F.Jl:LE X0 12:=le 4 (Hw [dN 0 (pL false 3),dN 1 (pL false 3),dN 5 pI] []) (λx=>x.1.2.2.1) (λx s=>((x.1.1,x.1.2.1,s,()),())) (λx=> .sum (.leaf (Unit) (λt=>(Ex.ret,⟨[(4,kX false)],[]⟩))) (.leaf (Int) (λt=>(Ex.exit 0,⟨[(0,Du 3 x.1.1),(1,Du 3 x.1.2.1),(5,jk t),(14,kX false)],[]⟩)))) (λx=>M.Ba x.1.1 x.1.2.1) [fe C.EW] [] (by rintro _ _ _ _ _<;>simp only[M.Ba,nb]<;>rfl)
abbrev M.KP(a b:aA)(k:Bool->Option R):=bif(↑a.length:Int) !=(↑b.length:Int) then(k false) else (M.Jl a b 0).bind λd=>iD d (λf=>k false) λc=>letE c λe=>k true
def M.zG a b:=M.KP a b some
def C.zG:=fTa S.zG (λx=>M.KP x.1.1 x.1.2.1) [] [F.Jl]
def M.Bc(s:Int×aP)(kn:Int×aP->Option R)(ke:Int×aP->Option R):Option R:=match s with
 |(k',out')=>bif decide (k'>0) then(bif([UInt8.ofNat (IntKind.u8.wrap (i64.wrap (48+k'.tmod 10))).toNat].length+out'.length).ble 9223372036854775807 then(kn (i64.wrap (k'.tdiv 10),[UInt8.ofNat (IntKind.u8.wrap (i64.wrap (48+k'.tmod 10))).toNat]++out')) else none) else ke (k',out')
def M.FM s:=M.Bc s (λs=>some (Sum.inl s)) λt=>some (Sum.inr t)
def M.zS s:=gV (M.FM) s
def F.zS:LE X0 40:=le 4 (Hw [dN 0 pI,dN 3 pS] []) (λx=>(x.1.1,x.1.2.1)) (λx s=>((s.1,s.2,()),())) (λx=> .leaf (Int×aP) (λt=>(Ex.exit 0,⟨[(0,jk t.1),(3,Dx t.2),(7,kX false)],[]⟩))) (λx=>M.Bc) [] [] (by rintro _ _ ⟨_,_⟩ _ _<;>simp only[M.Bc,nb]<;>rfl)
abbrev M.KQ(k':Int)(k:aP->Option R):=bif decide (k'<=0) then(k [109,48]) else (M.zS (k',[])).bind λa=>bif(1+a.2.length).ble 9223372036854775807 then(k ([109]++a.2)) else none
def M.jJ k':=M.KQ k' some
def C.jJ:=fTa S.jJ (λx=>M.KQ x.1.1) [] [F.zS]
def M.xZ(s:Int×Int×aA)(kn:Int×Int×aA->Option R)(ke:Int×Int×aA->Option R):Option R:=match s with
 |(k',i,v)=>bif decide (i<(↑v.length:Int)) then((idx v i).bind λg=>v[i.toNat]?.bind λa=>(M.jJ (i64.wrap (k'+1))).bind λb=>(idx (v.set i.toNat (splice a 0 [D.int .i64 k'])) i).bind λf=>((v.set i.toNat (splice a 0 [D.int .i64 k']))[i.toNat]?).bind λc=>(idx ((v.set i.toNat (splice a 0 [D.int .i64 k'])).set i.toNat (splice c 1 [D.str b])) i).bind λe=>(((v.set i.toNat (splice a 0 [D.int .i64 k'])).set i.toNat (splice c 1 [D.str b]))[i.toNat]?).bind λd=>kn (i64.wrap (i64.wrap (i64.wrap (k'+1)+1)+1),i64.wrap (i+1),((v.set i.toNat (splice a 0 [D.int .i64 k'])).set i.toNat (splice c 1 [D.str b])).set i.toNat (splice d 2 [D.int .i64 (i64.wrap (i64.wrap (k'+1)+1))]))) else ke (k',i,v)
def M.Iy s:=M.xZ s (λs=>some (Sum.inl s)) λt=>some (Sum.inr t)
def M.wM s:=gV (M.Iy) s
def F.wM:LE X0 13:=le 2 (Hw [dN 0 (pO 100000 0),dN 1 pI,dN 5 pI] [dN 100000 (cA false true 0 3)]) (λx=>(x.1.2.1,x.1.2.2.1,x.2.1)) (λx s=>(((),s.1,s.2.1,()),(s.2.2,()))) (λx=> .leaf (Int×Int×aA) (λt=>(Ex.exit 0,⟨[(0,V.own 100000 0),(1,jk t.1),(5,jk t.2.1),(9,kX false)],[(100000,Cell.arr false true 0 3 t.2.2)]⟩))) (λx=>M.xZ) [fe C.jJ] [] (by rintro _ _ ⟨_,_,_⟩ _ _<;>simp only[M.xZ,nb]<;>rfl)
abbrev M.G8(k':Int)(c:aA)(k:Int×aA->Option R):=(M.wM (k',0,c)).bind λa=>k (a.1,a.2.2)
def M.uS k' c:=M.G8 k' c some
def C.uS:=fTa S.uS (λx=>M.G8 x.1.2.1 x.2.1) [] [F.wM]
def M.Bd(s:Int×Int×aA)(kn:Int×Int×aA->Option R)(ke:Int×Int×aA->Option R):Option R:=match s with
 |(k',i,v)=>bif decide (i<(↑v.length:Int)) then((idx v i).bind λb=>v[i.toNat]?.bind λa=>kn (i64.wrap (k'+1),i64.wrap (i+1),v.set i.toNat (splice a 0 [D.int .i64 k']))) else ke (k',i,v)
def M.FP s:=M.Bd s (λs=>some (Sum.inl s)) λt=>some (Sum.inr t)
def M.Jm s:=gV (M.FP) s
def F.Jm:LE X0 41:=le 2 (Hw [dN 0 (pO 100000 0),dN 1 pI,dN 5 pI] [dN 100000 (cA false true 0 1)]) (λx=>(x.1.2.1,x.1.2.2.1,x.2.1)) (λx s=>(((),s.1,s.2.1,()),(s.2.2,()))) (λx=> .leaf (Int×Int×aA) (λt=>(Ex.exit 0,⟨[(0,V.own 100000 0),(1,jk t.1),(5,jk t.2.1),(9,kX false)],[(100000,Cell.arr false true 0 1 t.2.2)]⟩))) (λx=>M.Bd) [] [] (by rintro _ _ ⟨_,_,_⟩ _ _<;>simp only[M.Bd,nb]<;>rfl)
abbrev M.KR(k':Int)(c:aA)(k:Int×aA->Option R):=(M.Jm (k',0,c)).bind λa=>k (a.1,a.2.2)
def M.zH k' c:=M.KR k' c some
def C.zH:=fTa S.zH (λx=>M.KR x.1.2.1 x.2.1) [] [F.Jm]
def M.yY(s:Int×Int×aA)(kn:Int×Int×aA->Option R)(ke:Int×Int×aA->Option R):Option R:=match s with
 |(k',i,v)=>bif decide (i<(↑v.length:Int)) then((idx v i).bind λk=>v[i.toNat]?.bind λc=>(idx (v.set i.toNat (splice c 0 [D.int .i64 k'])) i).bind λn=>((v.set i.toNat (splice c 0 [D.int .i64 k']))[i.toNat]?).bind λg=>(M.jJ (i64.wrap (i64.wrap (k'+1)+1))).bind λb=>(idx ((v.set i.toNat (splice c 0 [D.int .i64 k'])).set i.toNat (splice g 1 [D.int .i64 (i64.wrap (k'+1))])) i).bind λm=>(((v.set i.toNat (splice c 0 [D.int .i64 k'])).set i.toNat (splice g 1 [D.int .i64 (i64.wrap (k'+1))]))[i.toNat]?).bind λa=>(M.jJ (i64.wrap (i64.wrap (i64.wrap (k'+1)+1)+1))).bind λf=>(idx (((v.set i.toNat (splice c 0 [D.int .i64 k'])).set i.toNat (splice g 1 [D.int .i64 (i64.wrap (k'+1))])).set i.toNat (splice a 2 [D.str b])) i).bind λo=>((((v.set i.toNat (splice c 0 [D.int .i64 k'])).set i.toNat (splice g 1 [D.int .i64 (i64.wrap (k'+1))])).set i.toNat (splice a 2 [D.str b]))[i.toNat]?).bind λe=>(idx ((((v.set i.toNat (splice c 0 [D.int .i64 k'])).set i.toNat (splice g 1 [D.int .i64 (i64.wrap (k'+1))])).set i.toNat (splice a 2 [D.str b])).set i.toNat (splice e 3 [D.str f])) i).bind λl=>(((((v.set i.toNat (splice c 0 [D.int .i64 k'])).set i.toNat (splice g 1 [D.int .i64 (i64.wrap (k'+1))])).set i.toNat (splice a 2 [D.str b])).set i.toNat (splice e 3 [D.str f]))[i.toNat]?).bind λh=>(adL 1 h 4).bind λj=>bif ah j then((M.zH (i64.wrap (i64.wrap (i64.wrap (i64.wrap (k'+1)+1)+1)+1)) j).bind λd=>bif Nat.beq 1 1 &&(true==true &&(ah d.2 && Ho d.2)) then(kn (d.1,i64.wrap (i+1),((((v.set i.toNat (splice c 0 [D.int .i64 k'])).set i.toNat (splice g 1 [D.int .i64 (i64.wrap (k'+1))])).set i.toNat (splice a 2 [D.str b])).set i.toNat (splice e 3 [D.str f])).set i.toNat (splice h 4 [D.sl true 1 d.2]))) else none) else none) else ke (k',i,v)
def M.DJ s:=M.yY s (λs=>some (Sum.inl s)) λt=>some (Sum.inr t)
def M.G9 s:=gV (M.DJ) s
def F.G9:LE X0 14:=le 2 (Hw [dN 0 (pO 100000 0),dN 1 pI,dN 5 pI] [dN 100000 (cA false false 0 5)]) (λx=>(x.1.2.1,x.1.2.2.1,x.2.1)) (λx s=>(((),s.1,s.2.1,()),(s.2.2,()))) (λx=> .leaf (Int×Int×aA) (λt=>(Ex.exit 0,⟨[(0,V.own 100000 0),(1,jk t.1),(5,jk t.2.1),(9,kX false)],[(100000,Cell.arr false false 0 5 t.2.2)]⟩))) (λx=>M.yY) [fe C.jJ,fe C.zH] [] (by rintro _ _ ⟨_,_,_⟩ _ _<;>simp only[M.yY,nb]<;>rfl)
abbrev M.Jo(k':Int)(c:aA)(k:Int×aA->Option R):=(M.G9 (k',0,c)).bind λa=>k (a.1,a.2.2)
def M.xI k' c:=M.Jo k' c some
def C.xI:=fTa S.xI (λx=>M.Jo x.1.2.1 x.2.1) [] [F.G9]
def M.Bf(a:aA)(s:Int×Int)(kn:Int×Int->Option R)(ke:(Unit)⊕(Int×Int)->Option R):Option R:=match s with
 |(k',i)=>bif decide (i<(↑a.length:Int)) then((idx a i).bind λc=>(kJ .i64 c 0).bind λb=>bif b !=k' then(ke (.inl ())) else kn (i64.wrap (k'+1),i64.wrap (i+1))) else ke (.inr (k',i))
def M.FQ a s:=M.Bf a s (λs=>some (Sum.inl s)) λt=>some (Sum.inr t)
def M.Jp a s:=gV (M.FQ a) s
def F.Jp:LE X0 42:=le 2 (Hw [dN 0 (pL false 1),dN 1 pI,dN 5 pI] []) (λx=>(x.1.2.1,x.1.2.2.1)) (λx s=>((x.1.1,s.1,s.2,()),())) (λx=> .sum (.leaf (Unit) (λt=>(Ex.ret,⟨[(4,jk (-1))],[]⟩))) (.leaf (Int×Int) (λt=>(Ex.exit 0,⟨[(0,Du 1 x.1.1),(1,jk t.1),(5,jk t.2),(9,kX false)],[]⟩)))) (λx=>M.Bf x.1.1) [] [] (by rintro _ _ ⟨_,_⟩ _ _<;>simp only[M.Bf,nb]<;>rfl)
abbrev M.KT(a:aA)(k':Int)(k:Int->Option R):=(M.Jp a (k',0)).bind λb=>iD b (λe=>k (-1)) λd=>letE d λc=>k c.1
def M.zI a k':=M.KT a k' some
def C.zI:=fTa S.zI (λx=>M.KT x.1.1 x.1.2.1) [] [F.Jp]
def M.yZ(a:aA)(s:Int×Int)(kn:Int×Int->Option R)(ke:(Unit)⊕(Int×Int)->Option R):Option R:=match s with
 |(k',i)=>bif decide (i<(↑a.length:Int)) then((idx a i).bind λm=>(kJ .i64 m 0).bind λf=>bif f !=k' then(ke (.inl ())) else (idx a i).bind λj=>(kJ .i64 j 1).bind λg=>bif g !=i64.wrap (k'+1) then(ke (.inl ())) else (idx a i).bind λe=>(cStr e 2).bind λc=>(M.jJ (i64.wrap (i64.wrap (k'+1)+1))).bind λh=>bif !c==h then(ke (.inl ())) else (idx a i).bind λk=>(cStr k 3).bind λn=>(M.jJ (i64.wrap (i64.wrap (i64.wrap (k'+1)+1)+1))).bind λo=>bif !n==o then(ke (.inl ())) else (idx a i).bind λd=>(cSl 1 d 4).bind λl=>(M.zI l (i64.wrap (i64.wrap (i64.wrap (i64.wrap (k'+1)+1)+1)+1))).bind λb=>bif decide (b<0) then(ke (.inl ())) else kn (b,i64.wrap (i+1))) else ke (.inr (k',i))
def M.DK a s:=M.yZ a s (λs=>some (Sum.inl s)) λt=>some (Sum.inr t)
def M.He a s:=gV (M.DK a) s
def F.He:LE X0 15:=le 2 (Hw [dN 0 (pL false 5),dN 1 pI,dN 5 pI] []) (λx=>(x.1.2.1,x.1.2.2.1)) (λx s=>((x.1.1,s.1,s.2,()),())) (λx=> .sum (.leaf (Unit) (λt=>(Ex.ret,⟨[(4,jk (-1))],[]⟩))) (.leaf (Int×Int) (λt=>(Ex.exit 0,⟨[(0,Du 5 x.1.1),(1,jk t.1),(5,jk t.2),(9,kX false)],[]⟩)))) (λx=>M.yZ x.1.1) [fe C.jJ,fe C.zI] [] (by rintro _ _ ⟨_,_⟩ _ _<;>simp only[M.yZ,nb]<;>rfl)
abbrev M.Jq(a:aA)(k':Int)(k:Int->Option R):=(M.He a (k',0)).bind λb=>iD b (λe=>k (-1)) λd=>letE d λc=>k c.1
def M.tJ a k':=M.Jq a k' some
def C.tJ:=fTa S.tJ (λx=>M.Jq x.1.1 x.1.2.1) [] [F.He]
abbrev M.vk(aL:aA)(k:Bool->Option R):=(M.zx aL 1048576).bind λt=>bif decide (t<0) then(k true) else (M.qG aL).bind λp=>(M.lN p).bind λb=>(M.qG aL).bind λe=>(M.jr e).bind λa=>bif[[D.sl true 5 a.1],[D.int .i64 a.2.1,D.int .i64 a.2.2]].all wP then((M.xk (ak a.1) (ak b.2.1)).bind λh=>bif !h then(k false) else (M.xq a.2.1 a.2.2 b.2.2.1 b.2.2.2).bind λo=>bif !o then(k false) else (M.qG aL).bind λj=>(M.zG e j).bind λs=>bif !s then(k false) else (M.uS 1 e).bind λn=>bif decide (n.1<0) then(k false) else (M.xk (ak a.1) (ak b.2.1)).bind λq=>bif !q then(k false) else (M.xq a.2.1 a.2.2 b.2.2.1 b.2.2.2).bind λl=>bif !l then(k false) else (M.xI 1 a.1).bind λd=>(M.tJ (ak d.2) 1).bind λg=>bif decide (g<0) then(k false) else bif g !=d.1 then(k false) else (M.qG aL).bind λi=>(M.jr i).bind λc=>bif[[D.sl true 5 c.1],[D.int .i64 c.2.1,D.int .i64 c.2.2]].all wP then((M.xk (ak c.1) (ak b.2.1)).bind λm=>bif !m then(k false) else (M.xq c.2.1 c.2.2 b.2.2.1 b.2.2.2).bind λr=>bif !r then(k false) else (M.tJ (ak d.2) 1).bind λf=>bif decide (f<0) then(k false) else bif f !=d.1 then(k false) else k true) else none) else none
def M.lS aL:=M.vk aL some
def C.lS:=fTa S.lS (λx=>M.vk x.1.1) [fe C.zx,fe C.qG,fe C.lN,fe C.jr,fe C.xk,fe C.xq,fe C.zG,fe C.uS,fe C.xI,fe C.tJ]
end
end Go.Proofs.YtoaeipkhadpbiaaGreatDoor
