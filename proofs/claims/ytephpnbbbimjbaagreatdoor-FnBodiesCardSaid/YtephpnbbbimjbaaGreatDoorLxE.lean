import Derived.Test.YtephpnbbbimjbaaGreatDoorPForms3
import Derived.Lib.IndexLaws
set_option linter.defProp false
set_option linter.unusedVariables false
set_option linter.unusedSimpArgs false
set_option linter.unusedSectionVars false
open Go.IntKind (i64)
namespace Go.Proofs.YtephpnbbbimjbaaGreatDoor
open Go Go.Vm
noncomputable section
variable {R:Type}
def M.pY(bH:zac)(s:zau⊕zas)(kn:zau⊕zas->Option R)(ke:zau⊕zas->Option R):Option R:=match s with
 | .inl (v,v1,v2,x',qY,uV,x8,Ae,Fg,IJ,LU,PU)=>bif !v2 then(bif aj PU then((M.aA v v1 v2 PU).bind λd=>bif d.1 !=31 then(bif aj d.2.2.2.2 then((M.dL d.2.1 d.2.2.1 d.2.2.2.1 d.2.2.2.2).bind λf=>bif((aB (aB f.2.1)).length * 72).ble 140737488355328 then(bif(aB (aB f.2.1)).length.ble 140737488355328 then(bif aj f.2.2.2.2.2 then((bH f.2.2.1 f.2.2.2.1 f.2.2.2.2.1 f.2.2.2.2.2).bind λb=>nI (aB (aB f.2.1)) [[D.int .i64 b.1,D.int .i64 b.2.1,D.str b.2.2.1,D.str b.2.2.2.1,D.sl false 5 (aB b.2.2.2.2.2.1)]] 72 λza=>bif aj b.2.2.2.2.2.2.2.2.2 then((M.bG b.2.2.2.2.2.2.1 b.2.2.2.2.2.2.2.1 b.2.2.2.2.2.2.2.2.1 b.2.2.2.2.2.2.2.2.2).bind λh=>kn (.inr (h.1,h.2.1,h.2.2.1,x',qY,uV,x8,Ae,Fg,IJ,LU,h.2.2.2,za))) else none) else none) else none) else none) else none) else ke (.inl (d.2.1,d.2.2.1,d.2.2.2.1,x',qY,uV,x8,Ae,Fg,IJ,LU,d.2.2.2.2))) else none) else(ke (.inl (v,v1,v2,x',qY,uV,x8,Ae,Fg,IJ,LU,PU)))
 | .inr (v,v1,v2,x',qY,uV,x8,Ae,Fg,IJ,LU,PU,SE)=>bif !v2 then(bif aj PU then((M.aA v v1 v2 PU).bind λc=>bif c.1 !=31 then(bif aj c.2.2.2.2 then((M.dL c.2.1 c.2.2.1 c.2.2.2.1 c.2.2.2.2).bind λe=>bif((SE.length+(aB (aB e.2.1)).length) * 72).ble 140737488355328 then(bif(SE.length+(aB (aB e.2.1)).length).ble 140737488355328 then(bif aj e.2.2.2.2.2 then((bH e.2.2.1 e.2.2.2.1 e.2.2.2.2.1 e.2.2.2.2.2).bind λa=>nI (SE++aB (aB e.2.1)) [[D.int .i64 a.1,D.int .i64 a.2.1,D.str a.2.2.1,D.str a.2.2.2.1,D.sl false 5 (aB a.2.2.2.2.2.1)]] 72 λza=>bif aj a.2.2.2.2.2.2.2.2.2 then((M.bG a.2.2.2.2.2.2.1 a.2.2.2.2.2.2.2.1 a.2.2.2.2.2.2.2.2.1 a.2.2.2.2.2.2.2.2.2).bind λg=>kn (.inr (g.1,g.2.1,g.2.2.1,x',qY,uV,x8,Ae,Fg,IJ,LU,g.2.2.2,za))) else none) else none) else none) else none) else none) else ke (.inr (c.2.1,c.2.2.1,c.2.2.2.1,x',qY,uV,x8,Ae,Fg,IJ,LU,c.2.2.2.2,SE))) else none) else ke (.inr (v,v1,v2,x',qY,uV,x8,Ae,Fg,IJ,LU,PU,SE))
def M.qg bH s:=M.pY bH s (λs=>some (Sum.inl s)) λt=>some (Sum.inr t)
def M.pF bH s:=fJ (M.qg bH) s
def F.pF{bH:zac}(sN:S.vJ.ok X0 λx=>bH x.2.1.1 x.2.1.2.1 x.2.1.2.2.1 x.2.1.va.1):LE X0 59:=le 4 (pOr (IV zbq zbo) (IV zbq zbn)) (σ:=zau⊕zas) (λx=>(match x with| .inl x=> .inl ((x.2.1.1,x.2.1.2.1,x.2.1.2.2.1,x.2.2.1.1,x.2.2.1.2.1,x.2.2.1.2.2.1,x.2.2.1.va.1,x.va.1.1,x.va.1.2.1,x.va.1.2.2.1,x.va.1.va.1,x.va.2.1))| .inr x=> .inr ((x.2.1.1,x.2.1.2.1,x.2.1.2.2.1,x.2.2.1.1,x.2.2.1.2.1,x.2.2.1.2.2.1,x.2.2.1.va.1,x.va.1.1,x.va.1.2.1,x.va.1.2.2.1,x.va.1.va.1,x.va.2.1,x.va.2.2.1)))) (λx s=>(match s with| .inl s=> .inl ((((),(),(),()),((s.1,s.2.1,s.2.2.1,(),()),(s.va.1,s.va.2.1,s.va.2.2.1,s.va.va.1,(),()),(s.va.va.2.1,s.wc.1,s.wc.2.1,s.wc.2.2.1,(),()),s.wc.va,())))| .inr s=> .inr ((((),(),(),()),((s.1,s.2.1,s.2.2.1,(),()),(s.va.1,s.va.2.1,s.va.2.2.1,s.va.va.1,(),()),(s.va.va.2.1,s.wc.1,s.wc.2.1,s.wc.2.2.1,(),()),s.wc.va.1,s.wc.va.2,()))))) (λx=> .sum (.leaf zau (λt=>(Ex.exit 0,⟨[(0,V.ptr 100000 0),(2,V.ptr 300000 0),(3,V.ptr 300001 0),(18,og false)],[(100000,zaT t 300002),(300000,Cell.box 73 [jq t.va.1,jq t.va.2.1,sS t.va.2.2.1,sS t.va.va.1,V.nil 5]),(300001,Cell.box 73 [jq t.va.va.2.1,jq t.wc.1,sS t.wc.2.1,sS t.wc.2.2.1,V.nil 5]),(300002,Cell.arr false true 0 1 t.wc.va)]⟩))) (.leaf zas (λt=>(Ex.exit 0,⟨[(0,V.ptr 100000 0),(2,V.ptr 300000 0),(3,V.ptr 300001 0),(18,og false)],[(100000,zaT t 300002),(300000,Cell.box 73 [jq t.va.1,jq t.va.2.1,sS t.va.2.2.1,sS t.va.va.1,V.nil 5]),(300001,Cell.box 73 [jq t.va.va.2.1,jq t.wc.1,sS t.wc.2.1,sS t.wc.2.2.1,V.own 300003 0]),(300002,Cell.arr false true 0 1 t.wc.va.1),(300003,Cell.arr false false 0 5 t.wc.va.2)]⟩)))) (λx=>M.pY bH) [fe C.aA,fe C.dL,fe sN,fe C.bG] [] (by rintro _ _ (⟨_,_,_,_,_,_,_,_,_,_,_,_⟩|⟨_,_,_,_,_,_,_,_,_,_,_,_,_⟩) _ _<;>unfold M.pY<;>exact zbC) (hE:=by intro _ _ s _;rcases s with s|s<;>kernel_rfl)
def M.qA(bH:zac)(c:ay)(c1:Int)(c2:Bool)(c3:ay)(k:Int×Int×aC×aC×Bool×ay×ay×Int×Bool×ay->Option R):=cond (aj c3) ((M.aI 30 c c1 c2 c3).bind λf=>cond (aj f.2.2.2.2) ((M.bG f.2.1 f.2.2.1 f.2.2.2.1 f.2.2.2.2).bind λi=>(M.pF bH (.inl (i.1,i.2.1,i.2.2.1,0,0,[],[],33,0,[],[],i.2.2.2))).bind λj=>jX j (λa=>cond (aj a.2.2.2.2.2.2.2.2.2.2.2) ((M.aI 31 a.1 a.2.1 a.2.2.1 a.2.2.2.2.2.2.2.2.2.2.2).bind λg=>cond (aj g.2.2.2.2) ((M.dL g.2.1 g.2.2.1 g.2.2.2.1 g.2.2.2.2).bind λb=>cond (((aB (aB b.2.1)).length * 72).ble 140737488355328) (cond ((aB (aB b.2.1)).length.ble 140737488355328) (cond (aj b.2.2.2.2.2) (k (a.2.2.2.2.2.2.2.1,a.2.2.2.2.2.2.2.2.1,a.2.2.2.2.2.2.2.2.2.1,a.2.2.2.2.2.2.2.2.2.2.1,true,aB (aB b.2.1),b.2.2)) none) none) none) none) none) λl=>letE l λe=>cond (aj e.2.2.2.2.2.2.2.2.2.2.2.1) ((M.aI 31 e.1 e.2.1 e.2.2.1 e.2.2.2.2.2.2.2.2.2.2.2.1).bind λh=>cond (aj h.2.2.2.2) ((M.dL h.2.1 h.2.2.1 h.2.2.2.1 h.2.2.2.2).bind λd=>cond (((e.2.2.2.2.2.2.2.2.2.2.2.2.length+(aB (aB d.2.1)).length) * 72).ble 140737488355328) (cond ((e.2.2.2.2.2.2.2.2.2.2.2.2.length+(aB (aB d.2.1)).length).ble 140737488355328) (cond (aj d.2.2.2.2.2) (k (e.2.2.2.2.2.2.2.1,e.2.2.2.2.2.2.2.2.1,e.2.2.2.2.2.2.2.2.2.1,e.2.2.2.2.2.2.2.2.2.2.1,true,e.2.2.2.2.2.2.2.2.2.2.2.2++aB (aB d.2.1),d.2.2)) none) none) none) none) none) none) none
def C.aa0{bH:zac}(sN:S.vJ.ok X0 λx=>bH x.2.1.1 x.2.1.2.1 x.2.1.2.2.1 x.2.1.va.1):S.bQ.ok X0 λx=>M.qA bH x.2.1.1 x.2.1.2.1 x.2.1.2.2.1 x.2.1.va.1 some:=fnS (λx=>zbB (M.qA bH) x.2.1) [fe C.aI,fe C.bG,fe C.dL] [F.pF sN] (by intros;unfold M.qA;exact zbC)
def M.l9:Nat->(zac)×(zac)×(zac)×(zac)×(zac):=Nat.rec (λ_ _ _ _=>none,λ_ _ _ _=>none,λ_ _ _ _=>none,λ_ _ _ _=>none,λ_ _ _ _=>none) λ_ qz=>(λc c1 c2 c3=>M.qA qz.2.2.2.2 c c1 c2 c3 some,λc c1 c2 c3=>M.rW qz.1 qz.2.2.2.2 c c1 c2 c3 some,λc c1 c2 c3=>M.sO qz.2.1 c c1 c2 c3 some,λc c1 c2 c3=>M.wJ qz.2.1 c c1 c2 c3 some,λc c1 c2 c3=>M.mQ qz.1 qz.2.2.1 qz.2.1 qz.2.2.2.1 c c1 c2 c3 some)
def M.mg n:=(M.l9 n).1
def M.lI n:=(M.l9 n).2.1
def M.Dk n:=(M.l9 n).2.2.1
def M.Gq n:=(M.l9 n).2.2.2.1
def M.kK n:=(M.l9 n).2.2.2.2
def M.Ti(n:Nat):M.mg (n+1)=λc c1 c2 c3=>M.qA (M.kK n) c c1 c2 c3 some:=rfl
def M.Vd(n:Nat):M.lI (n+1)=λc c1 c2 c3=>M.rW (M.mg n) (M.kK n) c c1 c2 c3 some:=rfl
def M.aa1(n:Nat):M.Dk (n+1)=λc c1 c2 c3=>M.sO (M.lI n) c c1 c2 c3 some:=rfl
def M.aeo(n:Nat):M.Gq (n+1)=λc c1 c2 c3=>M.wJ (M.lI n) c c1 c2 c3 some:=rfl
def M.NH(n:Nat):M.kK (n+1)=λc c1 c2 c3=>M.mQ (M.mg n) (M.Dk n) (M.lI n) (M.Gq n) c c1 c2 c3 some:=rfl
def M.bQ c c1 c2 c3:=lim λn=>M.mg n c c1 c2 c3
def C.l9:∀n,(S.bQ.ok X0 λx=>zbB (M.mg n) x.2.1)/\(S.ED.ok X0 λx=>zbB (M.lI n) x.2.1)/\(S.MP.ok X0 λx=>zbB (M.Dk n) x.2.1)/\(S.Qo.ok X0 λx=>zbB (M.Gq n) x.2.1)/\(S.vJ.ok X0 λx=>zbB (M.kK n) x.2.1)
 |0=>⟨fD.zero,fD.zero,fD.zero,fD.zero,fD.zero⟩
 |n+1=>have h:=C.l9 n;⟨C.aa0 h.2.2.2.2,C.abX h.1 h.2.2.2.2,C.Zn h.2.1,C.abY h.2.1,C.WL h.1 h.2.2.1 h.2.1 h.2.2.2.1⟩
def C.bQ:S.bQ.ok X0 λx=>zbB M.bQ x.2.1:=fD.lim λn=>(C.l9 n).1
def M.Sj{n:Nat}{c:ay}{c1:Int}{c2:Bool}{c3:ay}{r:Int×Int×aC×aC×Bool×ay×ay×Int×Bool×ay}(h:M.mg n c c1 c2 c3=some r):M.bQ c c1 c2 c3=some r:=fD.FV (λn=>(C.l9 n).1) (by intro a b h;simp[S.bQ,sg] at h;first|exact h|simp[Prod.ext_iff,h]) (x:=(((),()),((c,c1,c2,c3,()),()))) h
def M.iy(s:zaJ⊕zas)(kn:zaJ⊕zas->Option R)(ke:zas⊕zau⊕zaM⊕zas->Option R):Option R:=match s with
 | .inl (v31,v,v1,v2,x',qY,uV,x8,Ae,Fg,IJ,LU,PU)=>bif !v2 then(bif aj PU then((M.aY v v1 v2 PU).bind λc=>bif c.2.2.2.1 then(ke (.inl (c.2.1,c.2.2.1,c.2.2.2.1,x',qY,uV,x8,Ae,Fg,IJ,LU,c.2.2.2.2,[[D.int .i64 1,D.int .i64 0,D.str c.1,D.str [],D.sl true 5 []]]))) else bif aj c.2.2.2.2 then((M.aA c.2.1 c.2.2.1 c.2.2.2.1 c.2.2.2.2).bind λb=>bif b.1 !=36 then(ke (.inl (b.2.1,b.2.2.1,b.2.2.2.1,x',qY,uV,x8,Ae,Fg,IJ,LU,b.2.2.2.2,[[D.int .i64 1,D.int .i64 0,D.str c.1,D.str [],D.sl true 5 []]]))) else bif aj b.2.2.2.2 then((M.aK b.2.1 (i64.wrap (b.2.2.1+1)) b.2.2.2.1 b.2.2.2.2).bind λf=>kn (.inr (f.1,f.2.1,f.2.2.1,x',qY,uV,x8,Ae,Fg,IJ,LU,f.2.2.2,[[D.int .i64 1,D.int .i64 0,D.str c.1,D.str [],D.sl true 5 []]]))) else none) else none) else none) else(ke (.inr (.inl (v,v1,v2,x',qY,uV,x8,Ae,Fg,IJ,LU,PU))))
 | .inr (v,v1,v2,x',qY,uV,x8,Ae,Fg,IJ,LU,PU,SE)=>bif !v2 then(bif aj PU then((M.aY v v1 v2 PU).bind λa=>nI SE [[D.int .i64 1,D.int .i64 0,D.str a.1,D.str [],D.sl true 5 []]] 72 λg=>bif a.2.2.2.1 then(ke (.inl (a.2.1,a.2.2.1,a.2.2.2.1,x',qY,uV,x8,Ae,Fg,IJ,LU,a.2.2.2.2,g))) else bif aj a.2.2.2.2 then((M.aA a.2.1 a.2.2.1 a.2.2.2.1 a.2.2.2.2).bind λd=>bif d.1 !=36 then(ke (.inl (d.2.1,d.2.2.1,d.2.2.2.1,x',qY,uV,x8,Ae,Fg,IJ,LU,d.2.2.2.2,g))) else bif(↑g.length:Int)==6 then(ke (.inr (.inr (.inl (d.2.1,d.2.2.1,x',qY,uV,x8,Ae,Fg,IJ,LU,d.2.2.2.2,g))))) else bif aj d.2.2.2.2 then((M.aK d.2.1 (i64.wrap (d.2.2.1+1)) d.2.2.2.1 d.2.2.2.2).bind λe=>kn (.inr (e.1,e.2.1,e.2.2.1,x',qY,uV,x8,Ae,Fg,IJ,LU,e.2.2.2,g))) else none) else none) else none) else ke (.inr (.inr (.inr (v,v1,v2,x',qY,uV,x8,Ae,Fg,IJ,LU,PU,SE))))
def M.dP s:=M.iy s (λs=>some (Sum.inl s)) λt=>some (Sum.inr t)
def M.kL s:=fJ (M.dP) s
def F.kL:LE X0 60:=le 8 (pOr (IV [dH 0 (pP 100000 0),dH 2 (pP 300000 0),dH 3 (pP 300001 0),dH 31 pB] zbo) (IV zbq zbn)) (σ:=zaJ⊕zas) (λx=>(match x with| .inl x=> .inl ((x.1.va.1,x.2.1.1,x.2.1.2.1,x.2.1.2.2.1,x.2.2.1.1,x.2.2.1.2.1,x.2.2.1.2.2.1,x.2.2.1.va.1,x.va.1.1,x.va.1.2.1,x.va.1.2.2.1,x.va.1.va.1,x.va.2.1))| .inr x=> .inr ((x.2.1.1,x.2.1.2.1,x.2.1.2.2.1,x.2.2.1.1,x.2.2.1.2.1,x.2.2.1.2.2.1,x.2.2.1.va.1,x.va.1.1,x.va.1.2.1,x.va.1.2.2.1,x.va.1.va.1,x.va.2.1,x.va.2.2.1)))) (λx s=>(match s with| .inl s=> .inl ((((),(),(),s.1,()),((s.2.1,s.2.2.1,s.va.1,(),()),(s.va.2.1,s.va.2.2.1,s.va.va.1,s.va.va.2.1,(),()),(s.wc.1,s.wc.2.1,s.wc.2.2.1,s.wc.va.1,(),()),s.wc.va.2,())))| .inr s=> .inr ((((),(),(),()),((s.1,s.2.1,s.2.2.1,(),()),(s.va.1,s.va.2.1,s.va.2.2.1,s.va.va.1,(),()),(s.va.va.2.1,s.wc.1,s.wc.2.1,s.wc.2.2.1,(),()),s.wc.va.1,s.wc.va.2,()))))) (λx=> .sum (.leaf zas (λt=>(Ex.exit 0,⟨[(0,V.ptr 100000 0),(2,V.ptr 300000 0),(3,V.ptr 300001 0),(53,og true)],[(100000,zaT t 300002),(300000,Cell.box 73 [jq t.va.1,jq t.va.2.1,sS t.va.2.2.1,sS t.va.va.1,V.nil 5]),(300001,Cell.box 73 [jq t.va.va.2.1,jq t.wc.1,sS t.wc.2.1,sS t.wc.2.2.1,V.own 300003 0]),(300002,Cell.arr false true 0 1 t.wc.va.1),(300003,Cell.arr false false 0 5 t.wc.va.2)]⟩))) (.sum (.leaf zau (λt=>(Ex.exit 0,⟨[(0,V.ptr 100000 0),(2,V.ptr 300000 0),(3,V.ptr 300001 0),(36,og false)],[(100000,zaT t 300002),(300000,Cell.box 73 [jq t.va.1,jq t.va.2.1,sS t.va.2.2.1,sS t.va.va.1,V.nil 5]),(300001,Cell.box 73 [jq t.va.va.2.1,jq t.wc.1,sS t.wc.2.1,sS t.wc.2.2.1,V.nil 5]),(300002,Cell.arr false true 0 1 t.wc.va)]⟩))) (.sum (.leaf zaM (λt=>(Ex.exit 0,⟨[(0,V.ptr 100000 0),(2,V.ptr 300000 0),(3,V.ptr 300001 0)],[(100000,Cell.box 70 [GL 3 t.1,jq t.2.1,og true,V.own 300002 0]),(300000,Cell.box 73 [jq t.2.2.1,jq t.va.1,sS t.va.2.1,sS t.va.2.2.1,V.nil 5]),(300001,Cell.box 73 [jq t.va.va.1,jq t.va.va.2.1,sS t.wc.1,sS t.wc.2.1,V.own 300003 0]),(300002,Cell.arr false true 0 1 t.wc.2.2.1),(300003,Cell.arr false false 0 5 t.wc.va)]⟩))) (.leaf zas (λt=>(Ex.exit 0,⟨[(0,V.ptr 100000 0),(2,V.ptr 300000 0),(3,V.ptr 300001 0),(36,og false)],[(100000,zaT t 300002),(300000,Cell.box 73 [jq t.va.1,jq t.va.2.1,sS t.va.2.2.1,sS t.va.va.1,V.nil 5]),(300001,Cell.box 73 [jq t.va.va.2.1,jq t.wc.1,sS t.wc.2.1,sS t.wc.2.2.1,V.own 300003 0]),(300002,Cell.arr false true 0 1 t.wc.va.1),(300003,Cell.arr false false 0 5 t.wc.va.2)]⟩)))))) (λx=>M.iy) [fe C.aY,fe C.aA,fe C.aK] [] (by rintro _ _ (⟨_,_,_,_,_,_,_,_,_,_,_,_,_⟩|⟨_,_,_,_,_,_,_,_,_,_,_,_,_⟩) _ _<;>unfold M.iy<;>exact zbC) (hE:=by intro _ _ s _;rcases s with s|s<;>kernel_rfl)
abbrev M.AU(akD:Bool×ay×Int×Bool×ay)(k:Int×Int×aC×aC×Bool×ay×ay×Int×Bool×ay->Option R)(adn:aC×ay×Int×Bool×ay):=cond (aj akD.2.2.2.2) ((M.aK akD.2.1 akD.2.2.1 akD.2.2.2.1 akD.2.2.2.2).bind λb=>cond (aj b.2.2.2) ((M.bQ b.1 b.2.1 b.2.2.1 b.2.2.2).bind λa=>cond (aj a.2.2.2.2.2.2.2.2.2) (k (44,0,adn.1,[],true,[[D.int .i64 a.1,D.int .i64 a.2.1,D.str a.2.2.1,D.str a.2.2.2.1,D.sl false 5 (aB a.2.2.2.2.2.1)]],a.2.2.2.2.2.2)) none) none) none
abbrev M.AV(V9:ay×Int×Bool×Int×Int×aC×aC×Int×Int×aC×aC×ay×ay)(k:Int×Int×aC×aC×Bool×ay×ay×Int×Bool×ay->Option R):=cond (aj V9.2.2.2.2.2.2.2.2.2.2.2.1) ((M.aI 33 V9.1 V9.2.1 V9.2.2.1 V9.2.2.2.2.2.2.2.2.2.2.2.1).bind λc=>cond (aj c.2.2.2.2) ((M.aK c.2.1 c.2.2.1 c.2.2.2.1 c.2.2.2.2).bind λb=>cond (aj b.2.2.2) ((M.bQ b.1 b.2.1 b.2.2.1 b.2.2.2).bind λa=>cond (((V9.2.2.2.2.2.2.2.2.2.2.2.2.length+[[D.int .i64 a.1,D.int .i64 a.2.1,D.str a.2.2.1,D.str a.2.2.2.1,D.sl false 5 (aB a.2.2.2.2.2.1)]].length) * 72).ble 140737488355328) (cond ((V9.2.2.2.2.2.2.2.2.2.2.2.2.length+[[D.int .i64 a.1,D.int .i64 a.2.1,D.str a.2.2.1,D.str a.2.2.2.1,D.sl false 5 (aB a.2.2.2.2.2.1)]].length).ble 140737488355328) (cond (aj a.2.2.2.2.2.2.2.2.2) (k (V9.2.2.2.2.2.2.2.1,V9.2.2.2.2.2.2.2.2.1,V9.2.2.2.2.2.2.2.2.2.1,V9.2.2.2.2.2.2.2.2.2.2.1,true,V9.2.2.2.2.2.2.2.2.2.2.2.2++[[D.int .i64 a.1,D.int .i64 a.2.1,D.str a.2.2.1,D.str a.2.2.2.1,D.sl false 5 (aB a.2.2.2.2.2.1)]],a.2.2.2.2.2.2)) none) none) none) none) none) none
abbrev M.yA(Y4:Int×ay×Int×Bool×ay)(k:Int×Int×aC×aC×Bool×ay×ay×Int×Bool×ay->Option R):=cond (aj Y4.2.2.2.2) ((M.eU Y4.2.1 Y4.2.2.1 Y4.2.2.2.1 Y4.2.2.2.2).bind λg=>cond (aj g.2.2.2.2) ((M.aI 32 g.2.1 g.2.2.1 g.2.2.2.1 g.2.2.2.2).bind λa=>cond (!a.2.2.2.1) (cond (aj a.2.2.2.2) ((M.aA a.2.1 a.2.2.1 a.2.2.2.1 a.2.2.2.2).bind λd=>cond (d.1 !=33) ((M.kL (.inl (true,d.2.1,d.2.2.1,d.2.2.2.1,0,0,[],[],44,0,g.1,[],d.2.2.2.2))).bind λp=>jX p (λt=>M.AV t k) λo=>jX o (λf=>cond (aj f.2.2.2.2.2.2.2.2.2.2.2) ((M.aI 33 f.1 f.2.1 f.2.2.1 f.2.2.2.2.2.2.2.2.2.2.2).bind λh=>cond (aj h.2.2.2.2) ((M.aK h.2.1 h.2.2.1 h.2.2.2.1 h.2.2.2.2).bind λl=>cond (aj l.2.2.2) ((M.bQ l.1 l.2.1 l.2.2.1 l.2.2.2).bind λc=>cond (aj c.2.2.2.2.2.2.2.2.2) (k (f.2.2.2.2.2.2.2.1,f.2.2.2.2.2.2.2.2.1,f.2.2.2.2.2.2.2.2.2.1,f.2.2.2.2.2.2.2.2.2.2.1,true,[[D.int .i64 c.1,D.int .i64 c.2.1,D.str c.2.2.1,D.str c.2.2.2.1,D.sl false 5 (aB c.2.2.2.2.2.1)]],c.2.2.2.2.2.2)) none) none) none) none) λs=>jX s (λb=>cond (aj b.2.2.2.2.2.2.2.2.2.2.1) ((M.aI 33 b.1 b.2.1 true b.2.2.2.2.2.2.2.2.2.2.1).bind λj=>cond (aj j.2.2.2.2) ((M.aK j.2.1 j.2.2.1 j.2.2.2.1 j.2.2.2.2).bind λi=>cond (aj i.2.2.2) ((M.bQ i.1 i.2.1 i.2.2.1 i.2.2.2).bind λe=>cond (((b.2.2.2.2.2.2.2.2.2.2.2.length+[[D.int .i64 e.1,D.int .i64 e.2.1,D.str e.2.2.1,D.str e.2.2.2.1,D.sl false 5 (aB e.2.2.2.2.2.1)]].length) * 72).ble 140737488355328) (cond ((b.2.2.2.2.2.2.2.2.2.2.2.length+[[D.int .i64 e.1,D.int .i64 e.2.1,D.str e.2.2.1,D.str e.2.2.2.1,D.sl false 5 (aB e.2.2.2.2.2.1)]].length).ble 140737488355328) (cond (aj e.2.2.2.2.2.2.2.2.2) (k (b.2.2.2.2.2.2.1,b.2.2.2.2.2.2.2.1,b.2.2.2.2.2.2.2.2.1,b.2.2.2.2.2.2.2.2.2.1,true,b.2.2.2.2.2.2.2.2.2.2.2++[[D.int .i64 e.1,D.int .i64 e.2.1,D.str e.2.2.1,D.str e.2.2.2.1,D.sl false 5 (aB e.2.2.2.2.2.1)]],e.2.2.2.2.2.2)) none) none) none) none) none) none) λm=>letE m λq=>M.AV q k) (cond (aj d.2.2.2.2) ((M.aI 33 d.2.1 d.2.2.1 d.2.2.2.1 d.2.2.2.2).bind λr=>M.AU r k g) none)) none) (cond (aj a.2.2.2.2) ((M.aI 33 a.2.1 a.2.2.1 a.2.2.2.1 a.2.2.2.2).bind λn=>M.AU n k g) none)) none) none
def M.zI(c:ay)(c1:Int)(c2:Bool)(c3:ay)(k:Int×Int×aC×aC×Bool×ay×ay×Int×Bool×ay->Option R):=cond (aj c3) ((M.aA c c1 c2 c3).bind λa=>cond (a.1 !=6) (cond (aj a.2.2.2.2) ((M.aA a.2.1 a.2.2.1 a.2.2.2.1 a.2.2.2.2).bind λb=>cond (b.1 !=7) (cond (aj b.2.2.2.2) (k (44,0,[],[],true,[],b.2.1,b.2.2.1,true,b.2.2.2.2)) none) (M.yA b k)) none) (M.yA a k)) none
def M.ni c c1 c2 c3:=M.zI c c1 c2 c3 some
def C.ni:S.ni.ok X0 λx=>zbB M.ni x.2.1:=fnS (λx=>zbB M.zI x.2.1) [fe C.aA,fe C.eU,fe C.aI,fe C.aK,fe C.bQ] [F.kL] (by intros;unfold M.zI M.yA;exact zbC)
abbrev M.En(akF:ay×Int×Bool×ay)(k:Int×Int×aC×aC×Bool×ay×ay×Int×Bool×ay->Option R)(iq sZ:Int×Int×aC×aC×Bool×ay×Bool×ay×Int×Bool×ay):=cond (aj akF.2.2.2) (k (43,1,[],[],true,[[D.int .i64 iq.1,D.int .i64 iq.2.1,D.str iq.2.2.1,D.str iq.2.2.2.1,D.sl false 5 (aB iq.2.2.2.2.2.1)]]++[[D.int .i64 sZ.1,D.int .i64 sZ.2.1,D.str sZ.2.2.1,D.str sZ.2.2.2.1,D.sl false 5 (aB sZ.2.2.2.2.2.1)]],akF)) none
abbrev M.Eo(Pm:Int×ay×Int×Bool×ay)(k:Int×Int×aC×aC×Bool×ay×ay×Int×Bool×ay->Option R)(iq:Int×Int×aC×aC×Bool×ay×Bool×ay×Int×Bool×ay):=cond (Pm.1==30) (cond (aj Pm.2.2.2.2) ((M.bQ Pm.2.1 Pm.2.2.1 Pm.2.2.2.1 Pm.2.2.2.2).bind λa=>cond (aj a.2.2.2.2.2.2.2.2.2) (k (42,3,[],[],true,[[D.int .i64 iq.1,D.int .i64 iq.2.1,D.str iq.2.2.1,D.str iq.2.2.2.1,D.sl false 5 (aB iq.2.2.2.2.2.1)]]++[[D.int .i64 a.1,D.int .i64 a.2.1,D.str a.2.2.1,D.str a.2.2.2.1,D.sl false 5 (aB a.2.2.2.2.2.1)]],a.2.2.2.2.2.2)) none) none) (cond (!Pm.2.2.2.1) (cond (aj Pm.2.2.2.2) ((M.iW Pm.2.1 Pm.2.2.1 Pm.2.2.2.1 Pm.2.2.2.2).bind λb=>cond (aj b.2.2.2) (k (42,1,[],[],true,[[D.int .i64 iq.1,D.int .i64 iq.2.1,D.str iq.2.2.1,D.str iq.2.2.2.1,D.sl false 5 (aB iq.2.2.2.2.2.1)]],b)) none) none) (cond (aj Pm.2.2.2.2) (k (42,1,[],[],true,[[D.int .i64 iq.1,D.int .i64 iq.2.1,D.str iq.2.2.1,D.str iq.2.2.2.1,D.sl false 5 (aB iq.2.2.2.2.2.1)]],Pm.2)) none))
def M.Gs(c:ay)(c1:Int)(c2:Bool)(c3:ay)(k:Int×Int×aC×aC×Bool×ay×ay×Int×Bool×ay->Option R):=cond (aj c3) ((M.aA c c1 c2 c3).bind λd=>cond (d.1==10) (cond (aj d.2.2.2.2) ((M.bQ d.2.1 (i64.wrap (d.2.2.1+1)) d.2.2.2.1 d.2.2.2.2).bind λh=>cond (aj h.2.2.2.2.2.2.2.2.2) (k (40,0,[],[],true,[[D.int .i64 h.1,D.int .i64 h.2.1,D.str h.2.2.1,D.str h.2.2.2.1,D.sl false 5 (aB h.2.2.2.2.2.1)]],h.2.2.2.2.2.2)) none) none) (cond (d.1==11) (cond (aj d.2.2.2.2) ((M.bQ d.2.1 (i64.wrap (d.2.2.1+1)) d.2.2.2.1 d.2.2.2.2).bind λj=>cond (aj j.2.2.2.2.2.2.2.2.2) (k (41,0,[],[],true,[[D.int .i64 j.1,D.int .i64 j.2.1,D.str j.2.2.1,D.str j.2.2.2.1,D.sl false 5 (aB j.2.2.2.2.2.1)]],j.2.2.2.2.2.2)) none) none) (cond (d.1==12) (cond (aj d.2.2.2.2) ((M.ni d.2.1 (i64.wrap (d.2.2.1+1)) d.2.2.2.1 d.2.2.2.2).bind λi=>cond (aj i.2.2.2.2.2.2.2.2.2) (k (i.1,i.2.1,i.2.2.1,i.2.2.2.1,false,aB i.2.2.2.2.2.1,i.2.2.2.2.2.2)) none) none) (cond (d.1==30) (cond (aj d.2.2.2.2) ((M.bQ d.2.1 d.2.2.1 d.2.2.2.1 d.2.2.2.2).bind λg=>cond (aj g.2.2.2.2.2.2.2.2.2) (k (42,2,[],[],true,[[D.int .i64 g.1,D.int .i64 g.2.1,D.str g.2.2.1,D.str g.2.2.2.1,D.sl false 5 (aB g.2.2.2.2.2.1)]],g.2.2.2.2.2.2)) none) none) (cond (aj d.2.2.2.2) ((M.bD false false d.2.1 d.2.2.1 d.2.2.2.1 d.2.2.2.2).bind λa=>cond (!a.2.2.2.2.2.2.2.2.2.1) (cond (aj a.2.2.2.2.2.2.2.2.2.2) ((M.aA a.2.2.2.2.2.2.2.1 a.2.2.2.2.2.2.2.2.1 a.2.2.2.2.2.2.2.2.2.1 a.2.2.2.2.2.2.2.2.2.2).bind λe=>cond (e.1==36) (cond (aj e.2.2.2.2) ((M.aK e.2.1 (i64.wrap (e.2.2.1+1)) e.2.2.2.1 e.2.2.2.2).bind λn=>cond (aj n.2.2.2) ((M.bD false false n.1 n.2.1 n.2.2.1 n.2.2.2).bind λb=>cond (!b.2.2.2.2.2.2.2.2.2.1) (cond (aj b.2.2.2.2.2.2.2.2.2.2) ((M.aA b.2.2.2.2.2.2.2.1 b.2.2.2.2.2.2.2.2.1 b.2.2.2.2.2.2.2.2.2.1 b.2.2.2.2.2.2.2.2.2.2).bind λl=>cond (l.1==30) (cond (aj l.2.2.2.2) ((M.bQ l.2.1 l.2.2.1 l.2.2.2.1 l.2.2.2.2).bind λf=>cond (aj f.2.2.2.2.2.2.2.2.2) (k (43,3,[],[],true,[[D.int .i64 a.1,D.int .i64 a.2.1,D.str a.2.2.1,D.str a.2.2.2.1,D.sl false 5 (aB a.2.2.2.2.2.1)]]++[[D.int .i64 b.1,D.int .i64 b.2.1,D.str b.2.2.1,D.str b.2.2.2.1,D.sl false 5 (aB b.2.2.2.2.2.1)]]++[[D.int .i64 f.1,D.int .i64 f.2.1,D.str f.2.2.1,D.str f.2.2.2.1,D.sl false 5 (aB f.2.2.2.2.2.1)]],f.2.2.2.2.2.2)) none) none) (cond (!l.2.2.2.1) (cond (aj l.2.2.2.2) ((M.iW l.2.1 l.2.2.1 l.2.2.2.1 l.2.2.2.2).bind λq=>M.En q k a b) none) (cond (aj l.2.2.2.2) (k (43,1,[],[],true,[[D.int .i64 a.1,D.int .i64 a.2.1,D.str a.2.2.1,D.str a.2.2.2.1,D.sl false 5 (aB a.2.2.2.2.2.1)]]++[[D.int .i64 b.1,D.int .i64 b.2.1,D.str b.2.2.1,D.str b.2.2.2.1,D.sl false 5 (aB b.2.2.2.2.2.1)]],l.2)) none))) none) (cond (!b.2.2.2.2.2.2.2.2.2.1) (cond (aj b.2.2.2.2.2.2.2.2.2.2) ((M.iW b.2.2.2.2.2.2.2.1 b.2.2.2.2.2.2.2.2.1 b.2.2.2.2.2.2.2.2.2.1 b.2.2.2.2.2.2.2.2.2.2).bind λp=>M.En p k a b) none) (cond (aj b.2.2.2.2.2.2.2.2.2.2) (k (43,1,[],[],true,[[D.int .i64 a.1,D.int .i64 a.2.1,D.str a.2.2.1,D.str a.2.2.2.1,D.sl false 5 (aB a.2.2.2.2.2.1)]]++[[D.int .i64 b.1,D.int .i64 b.2.1,D.str b.2.2.1,D.str b.2.2.2.1,D.sl false 5 (aB b.2.2.2.2.2.1)]],b.2.2.2.2.2.2.2)) none))) none) none) (cond (!e.2.2.2.1) (cond (aj e.2.2.2.2) ((M.aA e.2.1 e.2.2.1 e.2.2.2.1 e.2.2.2.2).bind λs=>M.Eo s k a) none) (cond (!e.2.2.2.1) (cond (aj e.2.2.2.2) ((M.iW e.2.1 e.2.2.1 e.2.2.2.1 e.2.2.2.2).bind λm=>cond (aj m.2.2.2) (k (42,1,[],[],true,[[D.int .i64 a.1,D.int .i64 a.2.1,D.str a.2.2.1,D.str a.2.2.2.1,D.sl false 5 (aB a.2.2.2.2.2.1)]],m)) none) none) (cond (aj e.2.2.2.2) (k (42,1,[],[],true,[[D.int .i64 a.1,D.int .i64 a.2.1,D.str a.2.2.1,D.str a.2.2.2.1,D.sl false 5 (aB a.2.2.2.2.2.1)]],e.2)) none)))) none) (cond (!a.2.2.2.2.2.2.2.2.2.1) (cond (aj a.2.2.2.2.2.2.2.2.2.2) ((M.aA a.2.2.2.2.2.2.2.1 a.2.2.2.2.2.2.2.2.1 a.2.2.2.2.2.2.2.2.2.1 a.2.2.2.2.2.2.2.2.2.2).bind λr=>M.Eo r k a) none) (cond (!a.2.2.2.2.2.2.2.2.2.1) (cond (aj a.2.2.2.2.2.2.2.2.2.2) ((M.iW a.2.2.2.2.2.2.2.1 a.2.2.2.2.2.2.2.2.1 a.2.2.2.2.2.2.2.2.2.1 a.2.2.2.2.2.2.2.2.2.2).bind λo=>cond (aj o.2.2.2) (k (42,1,[],[],true,[[D.int .i64 a.1,D.int .i64 a.2.1,D.str a.2.2.1,D.str a.2.2.2.1,D.sl false 5 (aB a.2.2.2.2.2.1)]],o)) none) none) (cond (aj a.2.2.2.2.2.2.2.2.2.2) (k (42,1,[],[],true,[[D.int .i64 a.1,D.int .i64 a.2.1,D.str a.2.2.1,D.str a.2.2.2.1,D.sl false 5 (aB a.2.2.2.2.2.1)]],a.2.2.2.2.2.2.2)) none)))) none))))) none
def M.kW c c1 c2 c3:=M.Gs c c1 c2 c3 some
def C.kW:S.kW.ok X0 λx=>zbB M.kW x.2.1:=fnS (λx=>zbB M.Gs x.2.1) [fe C.aA,fe C.bQ,fe C.ni,fe C.bD,fe C.aK,fe C.iW] [] (by intros;unfold M.Gs M.Eo M.En;exact zbC)
def M.zl(iP:zag)(v7:ay)(v8:Int)(s:Int×Int)(kn:Int×Int->Option R)(ke:Int×Int->Option R):Option R:=match s with
 |(sum,v9)=>bif decide (v9<v8) then((idx v7 v9).bind λa=>Oh 5 a λaQV aQW aQX aQY aAe=>((iP aQV aQW aQX aQY aAe).bind λb=>kn (i64.wrap (sum+b),i64.wrap (v9+1)))) else ke (sum,v9)
def M.Ep iP v7 v8 s:=M.zl iP v7 v8 s (λs=>some (Sum.inl s)) λt=>some (Sum.inr t)
def M.Iz iP v7 v8 s:=fJ (M.Ep iP v7 v8) s
def F.Iz{iP:zag}(Qu:S.nR.ok X0 λx=>oJ iP x.1.1):LE X0 63:=le 3 (IV [dH 3 pI,dH 7 (pL false 5),dH 8 pI,dH 9 pI] []) (λx=>(x.1.1,x.1.va.1)) (λx s=>((s.1,x.1.2.1,x.1.2.2.1,s.2,()),())) (λx=> .leaf (Int×Int) (λt=>(Ex.exit 0,⟨[(3,jq t.1),(7,GL 5 x.1.2.1),(8,jq x.1.2.2.1),(9,jq t.2),(10,og false)],[]⟩))) (λx=>M.zl iP x.1.2.1 x.1.2.2.1) [fe Qu] [] (by rintro _ _ ⟨_,_⟩ _ _<;>simp only[Oh,M.zl,nb]<;>rfl)
def M.EY(iP:zag)(t' Ht:Int)(Us Zr:aC)(XG:ay)(k:Int->Option R):=(M.Iz iP XG ((↑XG.length:Int)) (1,0)).bind λa=>k a.1
def M.kZ:zaq
 |0=>λ_ _ _ _ _=>none
 |n+1=>λt' Ht Us Zr XG=>M.EY (M.kZ n) t' Ht Us Zr XG some
def M.nR t' Ht Us Zr XG:=lim λn=>M.kZ n t' Ht Us Zr XG
def C.afx{iP:zag}(Qu:S.nR.ok X0 λx=>oJ iP x.1.1):S.nR.ok X0 λx=>oJ (M.EY iP) x.1.1 some:=fnS (λx=>M.EY iP x.1.1.1 x.1.1.2.1 x.1.1.2.2.1 x.1.1.va.1 x.1.1.va.2.1) [] [F.Iz Qu] (by intros;simp only[M.EY,nb]<;>rfl)
def C.kZ:∀n,S.nR.ok X0 λx=>M.kZ n x.1.1.1 x.1.1.2.1 x.1.1.2.2.1 x.1.1.va.1 x.1.1.va.2.1
 |0=>fD.zero
 |n+1=>C.afx (C.kZ n)
def C.nR:S.nR.ok X0 λx=>oJ M.nR x.1.1:=fD.lim C.kZ
def M.afy{n:Nat}{t' Ht:Int}{Us Zr:aC}{XG:ay}{r:Int}(h:M.kZ n t' Ht Us Zr XG=some r):M.nR t' Ht Us Zr XG=some r:=fD.FV C.kZ (by intro a b h;simp[S.nR,rg,sg] at h;first|exact h|simp[Prod.ext_iff,h]) (x:=(((t',Ht,Us,Zr,XG,()),()),())) h
def M.xZ(iw:zag)(v7:ay)(v8:Int)(s:Int×Int)(kn:Int×Int->Option R)(ke:Int×Int->Option R):Option R:=match s with
 |(most,v9)=>bif decide (v9<v8) then((idx v7 v9).bind λb=>Oh 5 b λaQ1 aQ2 aQ3 aQ4 aAf=>((iw aQ1 aQ2 aQ3 aQ4 aAf).bind λa=>kn (bif decide (most<a) then a else most,i64.wrap (v9+1)))) else ke (most,v9)
def M.Dn iw v7 v8 s:=M.xZ iw v7 v8 s (λs=>some (Sum.inl s)) λt=>some (Sum.inr t)
def M.Gu iw v7 v8 s:=fJ (M.Dn iw v7 v8) s
def F.Gu{iw:zag}(Pn:S.mD.ok X0 λx=>oJ iw x.1.1):LE X0 64:=le 3 (IV [dH 3 pI,dH 7 (pL false 5),dH 8 pI,dH 9 pI] []) (λx=>(x.1.1,x.1.va.1)) (λx s=>((s.1,x.1.2.1,x.1.2.2.1,s.2,()),())) (λx=> .leaf (Int×Int) (λt=>(Ex.exit 0,⟨[(3,jq t.1),(7,GL 5 x.1.2.1),(8,jq x.1.2.2.1),(9,jq t.2),(10,og false)],[]⟩))) (λx=>M.xZ iw x.1.2.1 x.1.2.2.1) [fe Pn] [] (by rintro _ _ ⟨_,_⟩ _ _<;>simp only[Oh,M.xZ,nb]<;>rfl)
def M.Dp(iw:zag)(t' Ht:Int)(Us Zr:aC)(XG:ay)(k:Int->Option R):=(M.Gu iw XG ((↑XG.length:Int)) (0,0)).bind λa=>k (i64.wrap (a.1+1))
def M.kD:zaq
 |0=>λ_ _ _ _ _=>none
 |n+1=>λt' Ht Us Zr XG=>M.Dp (M.kD n) t' Ht Us Zr XG some
def M.mD t' Ht Us Zr XG:=lim λn=>M.kD n t' Ht Us Zr XG
def C.aep{iw:zag}(Pn:S.mD.ok X0 λx=>oJ iw x.1.1):S.mD.ok X0 λx=>oJ (M.Dp iw) x.1.1 some:=fnS (λx=>M.Dp iw x.1.1.1 x.1.1.2.1 x.1.1.2.2.1 x.1.1.va.1 x.1.1.va.2.1) [] [F.Gu Pn] (by intros;simp only[M.Dp,nb]<;>rfl)
def C.kD:∀n,S.mD.ok X0 λx=>M.kD n x.1.1.1 x.1.1.2.1 x.1.1.2.2.1 x.1.1.va.1 x.1.1.va.2.1
 |0=>fD.zero
 |n+1=>C.aep (C.kD n)
def C.mD:S.mD.ok X0 λx=>oJ M.mD x.1.1:=fD.lim C.kD
def M.aer{n:Nat}{t' Ht:Int}{Us Zr:aC}{XG:ay}{r:Int}(h:M.kD n t' Ht Us Zr XG=some r):M.mD t' Ht Us Zr XG=some r:=fD.FV C.kD (by intro a b h;simp[S.mD,rg,sg] at h;first|exact h|simp[Prod.ext_iff,h]) (x:=(((t',Ht,Us,Zr,XG,()),()),())) h
abbrev M.Po(t' Ht:Int)(Us Zr:aC)(XG:ay)(k:Int×Int->Option R):=(M.nR t' Ht Us Zr XG).bind λb=>cond (decide (b>400)) (k (1,0)) ((M.mD t' Ht Us Zr XG).bind λa=>cond (decide (a>40)) (k (4,0)) (k (0,0)))
def M.uj t' Ht Us Zr XG:=M.Po t' Ht Us Zr XG some
def C.uj:=fTa S.uj (λx=>M.Po x.1.1.1 x.1.1.2.1 x.1.1.2.2.1 x.1.1.va.1 x.1.1.va.2.1) [fe C.nR,fe C.mD]
def M.rX(iQ:zam)(s:zaB⊕zaC)(kn:zaB⊕zaC->Option R)(ke:zaB⊕zaC->Option R):Option R:=match s with
 | .inl (v18,v19,v20,x',qY,uV,x8,Ae)=>bif decide (v20<v19) then((idx v18 v20).bind λd=>Oh 5 d λaQ8 aQ9 aRa aRb aAg=>((iQ aQ8 aQ9 aRa aRb aAg x').bind λb=>kn (.inr (v18,v19,i64.wrap (v20+1),b,qY,uV,x8,Ae,[[D.int .i64 (i64.wrap ((↑b.length:Int) - 1))]])))) else(ke (.inl (v18,v19,v20,x',qY,uV,x8,Ae)))
 | .inr (v18,v19,v20,x',qY,uV,x8,Ae,Fg)=>bif decide (v20<v19) then((idx v18 v20).bind λc=>Oh 5 c λaRc aRd aRe aRf aAh=>((iQ aRc aRd aRe aRf aAh x').bind λa=>nI Fg [[D.int .i64 (i64.wrap ((↑a.length:Int) - 1))]] 8 λe=>kn (.inr (v18,v19,i64.wrap (v20+1),a,qY,uV,x8,Ae,e)))) else ke (.inr (v18,v19,v20,x',qY,uV,x8,Ae,Fg))
def M.wL iQ s:=M.rX iQ s (λs=>some (Sum.inl s)) λt=>some (Sum.inr t)
def M.J8 iQ s:=fJ (M.wL iQ) s
def F.J8{iQ:zam}(SL:S.pR.ok X0 λx=>oJ iQ x.1.1 x.1.2.1):LE X0 65:=le 3 (pOr (IV zbw [dH 300000 zbl,dH 300001 (cB 46 [pI,pI,pS,pS,Xm 1])]) (IV zbw zby)) (σ:=zaB⊕zaC) (λx=>(match x with| .inl x=> .inl ((x.1.2.2.1,x.1.va.1,x.1.va.2.1,x.2.1,x.2.2.1.1,x.2.2.1.2.1,x.2.2.1.2.2.1,x.2.2.1.va.1))| .inr x=> .inr ((x.1.2.2.1,x.1.va.1,x.1.va.2.1,x.2.1,x.2.2.1.1,x.2.2.1.2.1,x.2.2.1.2.2.1,x.2.2.1.va.1,x.va.1)))) (λx s=>(match s with| .inl s=> .inl ((((),(),s.1,s.2.1,s.2.2.1,()),(s.va.1,(s.va.2.1,s.va.2.2.1,s.va.va.1,s.va.va.2,(),()),())))| .inr s=> .inr ((((),(),s.1,s.2.1,s.2.2.1,()),(s.va.1,(s.va.2.1,s.va.2.2.1,s.va.va.1,s.va.va.2.1,(),()),s.wc,()))))) (λx=> .sum (.leaf zaB (λt=>(Ex.exit 0,⟨[(1,V.own 300000 0),(5,V.ptr 300001 0),(18,GL 5 t.1),(19,jq t.2.1),(20,jq t.2.2.1),(21,og false)],[(300000,Cell.arr false false 0 5 t.va.1),(300001,Cell.box 46 [jq t.va.2.1,jq t.va.2.2.1,sS t.va.va.1,sS t.va.va.2,V.nil 1])]⟩))) (.leaf zaC (λt=>(Ex.exit 0,⟨[(1,V.own 300000 0),(5,V.ptr 300001 0),(18,GL 5 t.1),(19,jq t.2.1),(20,jq t.2.2.1),(21,og false)],[(300000,Cell.arr false false 0 5 t.va.1),(300001,Cell.box 46 [jq t.va.2.1,jq t.va.2.2.1,sS t.va.va.1,sS t.va.va.2.1,V.own 300002 0]),(300002,Cell.arr false true 0 1 t.wc)]⟩)))) (λx=>M.rX iQ) [fe SL] [] (by rintro _ _ (⟨_,_,_,_,_,_,_,_⟩|⟨_,_,_,_,_,_,_,_,_⟩) _ _<;>simp only[nI,Oh,M.rX,nb]<;>rfl) (hE:=by intro _ _ s _;rcases s with s|s<;>kernel_rfl)
def M.He(iQ:zam)(t' Ht:Int)(Us Zr:aC)(XG l:ay)(k:ay->Option R):=(M.J8 iQ (.inl (XG,(↑XG.length:Int),0,l,t',Ht,Us,Zr))).bind λd=>jX d (λb=>nI b.2.2.2.1 [[D.int .i64 b.2.2.2.2.1,D.int .i64 b.2.2.2.2.2.1,D.str b.2.2.2.2.2.2.1,D.str b.2.2.2.2.2.2.2,D.sl true 1 []]] 72 λza=>k za) λc=>letE c λa=>cond (aj a.2.2.2.2.2.2.2.2) (nI a.2.2.2.1 [[D.int .i64 a.2.2.2.2.1,D.int .i64 a.2.2.2.2.2.1,D.str a.2.2.2.2.2.2.1,D.str a.2.2.2.2.2.2.2.1,D.sl true 1 a.2.2.2.2.2.2.2.2]] 72 λza=>k za) none
def M.kE:Nat->Int->Int->aC->aC->ay->ay->Option (ay)
 |0=>λ_ _ _ _ _ _=>none
 |n+1=>λt' Ht Us Zr XG l=>M.He (M.kE n) t' Ht Us Zr XG l some
def M.pR t' Ht Us Zr XG l:=lim λn=>M.kE n t' Ht Us Zr XG l
def C.agQ{iQ:zam}(SL:S.pR.ok X0 λx=>oJ iQ x.1.1 x.1.2.1):S.pR.ok X0 λx=>oJ (M.He iQ) x.1.1 x.1.2.1 some:=fnS (λx=>M.He iQ x.1.1.1 x.1.1.2.1 x.1.1.2.2.1 x.1.1.va.1 x.1.1.va.2.1 x.1.2.1) [] [F.J8 SL] (by intros;simp only[nI,M.He,nb]<;>rfl)
def C.kE:∀n,S.pR.ok X0 λx=>M.kE n x.1.1.1 x.1.1.2.1 x.1.1.2.2.1 x.1.1.va.1 x.1.1.va.2.1 x.1.2.1
 |0=>fD.zero
 |n+1=>C.agQ (C.kE n)
def C.pR:S.pR.ok X0 λx=>oJ M.pR x.1.1 x.1.2.1:=fD.lim C.kE
def M.agR{n:Nat}{t' Ht:Int}{Us Zr:aC}{XG l r:ay}(h:M.kE n t' Ht Us Zr XG l=some r):M.pR t' Ht Us Zr XG l=some r:=fD.FV C.kE (by intro a b h;simp[S.pR,rb,sg] at h;first|exact h|simp[Prod.ext_iff,h]) (x:=(((t',Ht,Us,Zr,XG,()),l,()),())) h
abbrev M.J9(t' Ht:Int)(Us Zr:aC)(XG:ay)(k:ay->Option R):=(M.pR t' Ht Us Zr XG []).bind λa=>k a
def M.oZ t' Ht Us Zr XG:=M.J9 t' Ht Us Zr XG some
def C.oZ:=fTa S.oZ (λx=>M.J9 x.1.1.1 x.1.1.2.1 x.1.1.2.2.1 x.1.1.va.1 x.1.1.va.2.1) [fe C.pR]
def M.qN(s:zaD⊕zaE)(kn:zaD⊕zaE->Option R)(ke:zaD⊕zaE->Option R):Option R:=match s with
 | .inl (l,x',qY,uV,x8,Ae,Fg,IJ,LU,PU,SE)=>bif !Ae then(bif decide (x8<(↑l.length:Int)) then(bif aj SE then((M.dL uV x8 Ae SE).bind λc=>bif((aB (aB c.2.1)).length * 72).ble 140737488355328 then(bif(aB (aB c.2.1)).length.ble 140737488355328 then(bif aj c.2.2.2.2.2 then((M.kW c.2.2.1 c.2.2.2.1 c.2.2.2.2.1 c.2.2.2.2.2).bind λb=>nI (aB (aB c.2.1)) [[D.int .i64 b.1,D.int .i64 b.2.1,D.str b.2.2.1,D.str b.2.2.2.1,D.sl false 5 (aB b.2.2.2.2.2.1)]] 72 λza=>bif aj b.2.2.2.2.2.2.2.2.2 then((M.bG b.2.2.2.2.2.2.1 b.2.2.2.2.2.2.2.1 b.2.2.2.2.2.2.2.2.1 b.2.2.2.2.2.2.2.2.2).bind λf=>kn (.inr (l,x',qY,f.1,f.2.1,f.2.2.1,Fg,IJ,LU,PU,f.2.2.2,za))) else none) else none) else none) else none) else none) else ke (.inl (l,x',qY,uV,x8,Ae,Fg,IJ,LU,PU,SE))) else(ke (.inl (l,x',qY,uV,x8,Ae,Fg,IJ,LU,PU,SE)))
 | .inr (l,x',qY,uV,x8,Ae,Fg,IJ,LU,PU,SE,Gn)=>bif !Ae then(bif decide (x8<(↑l.length:Int)) then(bif aj SE then((M.dL uV x8 Ae SE).bind λd=>bif((Gn.length+(aB (aB d.2.1)).length) * 72).ble 140737488355328 then(bif(Gn.length+(aB (aB d.2.1)).length).ble 140737488355328 then(bif aj d.2.2.2.2.2 then((M.kW d.2.2.1 d.2.2.2.1 d.2.2.2.2.1 d.2.2.2.2.2).bind λa=>nI (Gn++aB (aB d.2.1)) [[D.int .i64 a.1,D.int .i64 a.2.1,D.str a.2.2.1,D.str a.2.2.2.1,D.sl false 5 (aB a.2.2.2.2.2.1)]] 72 λza=>bif aj a.2.2.2.2.2.2.2.2.2 then((M.bG a.2.2.2.2.2.2.1 a.2.2.2.2.2.2.2.1 a.2.2.2.2.2.2.2.2.1 a.2.2.2.2.2.2.2.2.2).bind λe=>kn (.inr (l,x',qY,e.1,e.2.1,e.2.2.1,Fg,IJ,LU,PU,e.2.2.2,za))) else none) else none) else none) else none) else none) else ke (.inr (l,x',qY,uV,x8,Ae,Fg,IJ,LU,PU,SE,Gn))) else ke (.inr (l,x',qY,uV,x8,Ae,Fg,IJ,LU,PU,SE,Gn))
def M.qO s:=M.qN s (λs=>some (Sum.inl s)) λt=>some (Sum.inr t)
def M.zn s:=fJ (M.qO) s
def F.zn:LE X0 18:=le 6 (pOr (IV zbx [dH 300000 (cB 35 [pI,pI]),dH 300001 zbr,dH 300002 (cB 73 [pI,pI,pS,pS,Xm 5]),dH 300003 zbf]) (IV zbx [dH 300000 (cB 35 [pI,pI]),dH 300001 zbr,dH 300002 (cB 73 [pI,pI,pS,pS,pO 300004 0]),dH 300003 zbf,dH 300004 zbl])) (σ:=zaD⊕zaE) (λx=>(match x with| .inl x=> .inl ((x.1.1,x.2.1.1,x.2.1.2.1,x.2.2.1.1,x.2.2.1.2.1,x.2.2.1.2.2.1,x.va.1.1,x.va.1.2.1,x.va.1.2.2.1,x.va.1.va.1,x.va.2.1))| .inr x=> .inr ((x.1.1,x.2.1.1,x.2.1.2.1,x.2.2.1.1,x.2.2.1.2.1,x.2.2.1.2.2.1,x.va.1.1,x.va.1.2.1,x.va.1.2.2.1,x.va.1.va.1,x.va.2.1,x.va.2.2.1)))) (λx s=>(match s with| .inl s=> .inl (((s.1,(),(),(),()),((s.2.1,s.2.2.1,()),(s.va.1,s.va.2.1,s.va.2.2.1,(),()),(s.va.va.1,s.va.va.2.1,s.wc.1,s.wc.2.1,(),()),s.wc.2.2,())))| .inr s=> .inr (((s.1,(),(),(),()),((s.2.1,s.2.2.1,()),(s.va.1,s.va.2.1,s.va.2.2.1,(),()),(s.va.va.1,s.va.va.2.1,s.wc.1,s.wc.2.1,(),()),s.wc.2.2.1,s.wc.va,()))))) (λx=> .sum (.leaf zaD (λt=>(Ex.exit 0,⟨[(0,GL 3 t.1),(3,V.ptr 300000 0),(5,V.ptr 300001 0),(6,V.ptr 300002 0),(33,og false)],[(300000,Cell.box 35 [jq t.2.1,jq t.2.2.1]),(300001,zaT t.va 300003),(300002,Cell.box 73 [jq t.va.va.1,jq t.va.va.2.1,sS t.wc.1,sS t.wc.2.1,V.nil 5]),(300003,Cell.arr false true 0 1 t.wc.2.2)]⟩))) (.leaf zaE (λt=>(Ex.exit 0,⟨[(0,GL 3 t.1),(3,V.ptr 300000 0),(5,V.ptr 300001 0),(6,V.ptr 300002 0),(33,og false)],[(300000,Cell.box 35 [jq t.2.1,jq t.2.2.1]),(300001,zaT t.va 300003),(300002,Cell.box 73 [jq t.va.va.1,jq t.va.va.2.1,sS t.wc.1,sS t.wc.2.1,V.own 300004 0]),(300003,Cell.arr false true 0 1 t.wc.2.2.1),(300004,Cell.arr false false 0 5 t.wc.va)]⟩)))) (λx=>M.qN) [fe C.dL,fe C.kW,fe C.bG] [] (by rintro _ _ (⟨_,_,_,_,_,_,_,_,_,_,_⟩|⟨_,_,_,_,_,_,_,_,_,_,_,_⟩) _ _<;>unfold M.qN<;>exact zbC) (hE:=by intro _ _ s _;rcases s with s|s<;>kernel_rfl)
abbrev M.Gv(l:ay)(k:ay×Int×Int->Option R):=(M.zF l).bind λg=>cond (!cond (g.1==0) (cond (g.2==0) true false) false) (k ([],g)) ((M.bG l 0 false []).bind λf=>(M.zn (.inl (l,0,0,f.1,f.2.1,f.2.2.1,45,0,[],[],f.2.2.2))).bind λm=>jX m (λb=>cond b.2.2.2.2.2.1 ((M.uh b.1 b.2.2.2.2.1).bind λo=>k ([],3,o)) (cond (aj b.2.2.2.2.2.2.2.2.2.2) ((M.dL b.2.2.2.1 b.2.2.2.2.1 b.2.2.2.2.2.1 b.2.2.2.2.2.2.2.2.2.2).bind λd=>cond (((aB (aB d.2.1)).length * 72).ble 140737488355328) (cond ((aB (aB d.2.1)).length.ble 140737488355328) ((M.uj b.2.2.2.2.2.2.1 b.2.2.2.2.2.2.2.1 b.2.2.2.2.2.2.2.2.1 b.2.2.2.2.2.2.2.2.2.1 (aB (aB (aB d.2.1)))).bind λc=>cond (!cond (c.1==0) (cond (c.2==0) true false) false) (k ([],c)) ((M.oZ b.2.2.2.2.2.2.1 b.2.2.2.2.2.2.2.1 b.2.2.2.2.2.2.2.2.1 b.2.2.2.2.2.2.2.2.2.1 (aB (aB (aB d.2.1)))).bind λj=>cond ([[D.sl true 5 j]].all dw) (k (j,0,0)) none)) none) none) none)) λp=>letE p λa=>cond a.2.2.2.2.2.1 ((M.uh a.1 a.2.2.2.2.1).bind λn=>k ([],3,n)) (cond (aj a.2.2.2.2.2.2.2.2.2.2.1) ((M.dL a.2.2.2.1 a.2.2.2.2.1 a.2.2.2.2.2.1 a.2.2.2.2.2.2.2.2.2.2.1).bind λh=>cond (((a.2.2.2.2.2.2.2.2.2.2.2.length+(aB (aB h.2.1)).length) * 72).ble 140737488355328) (cond ((a.2.2.2.2.2.2.2.2.2.2.2.length+(aB (aB h.2.1)).length).ble 140737488355328) ((M.uj a.2.2.2.2.2.2.1 a.2.2.2.2.2.2.2.1 a.2.2.2.2.2.2.2.2.1 a.2.2.2.2.2.2.2.2.2.1 (aB (a.2.2.2.2.2.2.2.2.2.2.2++aB (aB h.2.1)))).bind λe=>cond (!cond (e.1==0) (cond (e.2==0) true false) false) (k ([],e)) ((M.oZ a.2.2.2.2.2.2.1 a.2.2.2.2.2.2.2.1 a.2.2.2.2.2.2.2.2.1 a.2.2.2.2.2.2.2.2.2.1 (aB (a.2.2.2.2.2.2.2.2.2.2.2++aB (aB h.2.1)))).bind λi=>cond ([[D.sl true 5 i]].all dw) (k (i,0,0)) none)) none) none) none))
def M.nU l:=M.Gv l some
def C.nU:=fTa S.nU (λx=>M.Gv x.1.1) [fe C.zF,fe C.bG,fe C.uh,fe C.dL,fe C.uj,fe C.oZ] [F.zn]
abbrev M.Uh(s':aC)(k:ay×Int×Int->Option R):=(M.RU s').bind λb=>cond (!cond (b.2.1==0) (cond (b.2.2==0) true false) false) (k ([],b.2)) ((M.nU b.1).bind λa=>cond ([[D.sl true 5 a.1],[D.int .i64 a.2.1,D.int .i64 a.2.2]].all dw) (k (a)) none)
def M.Ag s':=M.Uh s' some
def C.Ag:=fTa S.Ag (λx=>M.Uh x.1.1) [fe C.RU,fe C.nU]
def M.EZ(a b:ay)(s:Int)(kn:Int->Option R)(ke:(Unit)⊕(Int)->Option R):Option R:=match s with
 |i=>bif decide (i<(↑a.length:Int)) then((idx a i).bind λd=>(jR .i64 d 0).bind λe=>(idx b i).bind λc=>(jR .i64 c 0).bind λf=>bif e !=f then(ke (.inl ())) else kn (i64.wrap (i+1))) else ke (.inr i)
def M.Ko a b s:=M.EZ a b s (λs=>some (Sum.inl s)) λt=>some (Sum.inr t)
def M.Pq a b s:=fJ (M.Ko a b) s
def F.Pq:LE X0 19:=le 4 (IV [dH 0 (pL false 1),dH 1 (pL false 1),dH 5 pI] []) (λx=>x.1.2.2.1) (λx s=>((x.1.1,x.1.2.1,s,()),())) (λx=> .sum (.leaf (Unit) (λt=>(Ex.ret,⟨[(4,og false)],[]⟩))) (.leaf (Int) (λt=>(Ex.exit 0,⟨[(0,GL 1 x.1.1),(1,GL 1 x.1.2.1),(5,jq t),(14,og false)],[]⟩)))) (λx=>M.EZ x.1.1 x.1.2.1) [] [] (by rintro _ _ _ _ _<;>simp only[M.EZ,nb]<;>rfl)
abbrev M.Rz(a b:ay)(k:Bool->Option R):=cond ((↑a.length:Int) !=(↑b.length:Int)) (k false) ((M.Pq a b 0).bind λd=>jX d (λf=>k false) λc=>letE c λe=>k true)
def M.FK a b:=M.Rz a b some
def C.FK:=fTa S.FK (λx=>M.Rz x.1.1 x.1.2.1) [] [F.Pq]
def M.AX(a b:ay)(s:Int)(kn:Int->Option R)(ke:(Unit)⊕(Int)->Option R):Option R:=match s with
 |i=>bif decide (i<(↑a.length:Int)) then((idx a i).bind λg=>(jR .i64 g 0).bind λv=>(idx b i).bind λk=>(jR .i64 k 0).bind λe=>bif v !=e then(ke (.inl ())) else (idx a i).bind λq=>(jR .i64 q 1).bind λh=>(idx b i).bind λr=>(jR .i64 r 1).bind λj=>bif h !=j then(ke (.inl ())) else (idx a i).bind λu=>(cStr u 2).bind λm=>(idx b i).bind λw=>(cStr w 2).bind λc=>bif !m==c then(ke (.inl ())) else (idx a i).bind λl=>(cStr l 3).bind λy=>(idx b i).bind λx=>(cStr x 3).bind λt=>bif !y==t then(ke (.inl ())) else (idx a i).bind λf=>(cSl 1 f 4).bind λn=>(idx b i).bind λp=>(cSl 1 p 4).bind λo=>(M.FK n o).bind λd=>bif !d then(ke (.inl ())) else kn (i64.wrap (i+1))) else ke (.inr i)
def M.Gw a b s:=M.AX a b s (λs=>some (Sum.inl s)) λt=>some (Sum.inr t)
def M.Kq a b s:=fJ (M.Gw a b) s
def F.Kq:LE X0 11:=le 4 (IV [dH 0 (pL false 5),dH 1 (pL false 5),dH 5 pI] []) (λx=>x.1.2.2.1) (λx s=>((x.1.1,x.1.2.1,s,()),())) (λx=> .sum (.leaf (Unit) (λt=>(Ex.ret,⟨[(4,og false)],[]⟩))) (.leaf (Int) (λt=>(Ex.exit 0,⟨[(0,GL 5 x.1.1),(1,GL 5 x.1.2.1),(5,jq t),(14,og false)],[]⟩)))) (λx=>M.AX x.1.1 x.1.2.1) [fe C.FK] [] (by rintro _ _ _ _ _<;>simp only[M.AX,nb]<;>rfl)
abbrev M.MH(a b:ay)(k:Bool->Option R):=cond ((↑a.length:Int) !=(↑b.length:Int)) (k false) ((M.Kq a b 0).bind λc=>jX c (λf=>k false) λd=>letE d λe=>k true)
def M.wX a b:=M.MH a b some
def C.wX:=fTa S.wX (λx=>M.MH x.1.1 x.1.2.1) [] [F.Kq]
abbrev M.Kr(l:ay)(k:Bool->Option R):=(M.zM l).bind λa=>cond a ((idx l (i64.wrap ((↑l.length:Int) - 1))).bind λb=>(jR .i64 b 0).bind λc=>k (c==45)) (k false)
def M.xH l:=M.Kr l some
def C.xH:=fTa S.xH (λx=>M.Kr x.1.1) [fe C.zM]
abbrev M.MI(code:ay)(k:Bool->Option R):=(M.UN code).bind λq=>cond q (k true) ((M.qC code).bind λh=>M.oQ.bind λc=>(M.zN (aB h.2.1) c.1 c.2.1 c.2.2.1 c.2.2.2.1 c.2.2.2.2).bind λa=>cond (a==[]) (k true) (cond (decide ((↑a.length:Int)>500)) (k true) ((M.wR (aB h.2.1)).bind λn=>cond (decide (n>30)) (k true) ((idx a 0).bind λm=>cond ((↑m.toNat:Int)==47) (k true) ((M.VP code 0).bind λe=>(idx [[D.str [105,102,32,40,120,41,32]],[D.str [119,104,105,108,101,32,40,120,41,32]],[D.str [102,111,114,32,40,59,59,41,32]],[D.str [102,111,114,32,40,107,32,105,110,32,97,41,32]]] (e.tmod 4)).bind λp=>([[D.str [105,102,32,40,120,41,32]],[D.str [119,104,105,108,101,32,40,120,41,32]],[D.str [102,111,114,32,40,59,59,41,32]],[D.str [102,111,114,32,40,107,32,105,110,32,97,41,32]]][(e.tmod 4).toNat]?).bind λo=>(cStr o 0).bind λb=>cond ((7+b.length).ble 9223372036854775807) (cond ((([66,69,71,73,78,32,123]++b).length+a.length).ble 9223372036854775807) (cond ((([66,69,71,73,78,32,123]++b++a).length+1).ble 9223372036854775807) ((M.Ag ([66,69,71,73,78,32,123]++b++a++[125])).bind λd=>cond ((([66,69,71,73,78,32,123]++b).length+1).ble 9223372036854775807) (cond ((([66,69,71,73,78,32,123]++b++[123]).length+a.length).ble 9223372036854775807) (cond ((([66,69,71,73,78,32,123]++b++[123]++a).length+2).ble 9223372036854775807) ((M.Ag ([66,69,71,73,78,32,123]++b++[123]++a++[125,125])).bind λf=>cond ((([66,69,71,73,78,32,123]++b).length+2).ble 9223372036854775807) (cond ((([66,69,71,73,78,32,123]++b++[123,10]).length+a.length).ble 9223372036854775807) (cond ((([66,69,71,73,78,32,123]++b++[123,10]++a).length+6).ble 9223372036854775807) ((M.Ag ([66,69,71,73,78,32,123]++b++[123,10]++a++[59,10,125,10,125,10])).bind λg=>cond (d.2.1==0) (cond (f.2.1==0) (cond (g.2.1==0) ((M.wX (aB d.1) (aB f.1)).bind λj=>cond j ((M.wX (aB d.1) (aB g.1)).bind λi=>cond i ((M.xH (aB d.1)).bind λl=>k l) (k false)) (k false)) (k false)) (k false)) (k false)) none) none) none) none) none) none) none) none) none)))))
def M.DN code:=M.MI code some
def C.DN:=fTa S.DN (λx=>M.MI x.1.1) [fe C.UN,fe C.qC,fe C.oQ,fe C.zN,fe C.wR,fe C.VP,fe C.Ag,fe C.wX,fe C.xH]
end
def aZS:(∀a b:Int,(a>=b)=(b<=a))/\(∀a b:Int,(a>b)=(b<a))/\(∀h:Decidable True,@decide True h=true)/\(∀h:Decidable False,@decide False h=false)/\(∀(α:Type) (a b:α),cond true a b=a)/\(∀(α:Type) (a b:α),cond false a b=b)/\(∀b:Bool,(b && true)=b)/\(∀b:Bool,(b && false)=false)/\(∀b:Bool,(true && b)=b)/\(∀b:Bool,(false && b)=false)/\((!true)=false)/\((!false)=true):=
 ⟨λ_ _=>rfl,λ_ _=>rfl,λh=>@decide_eq_true True h trivial,λh=>@decide_eq_false False h id,λ_ _ _=>rfl,λ_ _ _=>rfl,λb=>by cases b<;>rfl,λb=>by cases b<;>rfl,λ_=>rfl,λ_=>rfl,rfl,rfl⟩
def bC{m n:Nat}(h:m<=n):m.ble n=true:=Nat.ble_eq_true_of_le h
def ah{α β:Type}(a:α)(f:α->Option β):(some a).bind f=f a:=rfl
def MW:((0:Nat):Int)=0:=rfl
def oL(s:aC)(a:Int):Int:=if 0<=a then(match s[a.toNat]? with|some c=>(c.toNat:Int)|none=> -1) else -1
def isD(b:Int):Bool:=decide (b>=48) && decide (b<=57)
def jY(s:aC)(a:Int):Int:=if 0<=a then a+(((s.drop a.toNat).takeWhile λc=>isD (c.toNat:Int)).length:Nat) else a
def arK(c:UInt8):c.toNat<256:=c.toNat_lt
def IB(s:aC)(i:Nat):oL s (i:Int)=(match s[i]? with|some c=>(c.toNat:Int)|none=> -1):=by rw[oL,if_pos ak,Zt]
section
variable {s:aC} (h:s.length<=1048576)
include h
theorem E5(a:Int):M.jK s a=some (oL s a):=by
 simp only[M.jK,M.QX]
 by_cases h0:a<0
 ·rw[zdt h0,aG,oL,if_neg ak]
 ·rw[vG h0,aQ];obtain⟨i,rfl⟩:∃i:Nat,a=i:=⟨a.toNat,ak⟩
  rw[IB]
  by_cases h1:(i:Int)>=(s.length:Int)
  ·rw[zdt h1,aG,List.getElem?_eq_none ak]
  ·obtain⟨c,hc⟩:∃c,s[i]? =some c:=⟨s[i]'ak,by simp⟩
   have:=arK c;rw[vG h1,aQ,dn,hc,ah,aS ak ak]
theorem AY(a:Int):M.iJ s a=some (oL s a):=by
 simp only[M.iJ,M.Ro,M.jy,M.DW];rw[aS ak ak]
 by_cases h0:a<0
 ·rw[vG ak,aQ,ah,Bool.not_false,aG,oL,if_neg ak]
 ·rw[zdt ak,aG,ah];obtain⟨i,rfl⟩:∃i:Nat,a=i:=⟨a.toNat,ak⟩
  rw[IB]
  by_cases h1:(i:Int)>=(s.length:Int)
  ·rw[vG ak,Bool.not_false,aG,List.getElem?_eq_none ak]
  ·obtain⟨c,hc⟩:∃c,s[i]? =some c:=⟨s[i]'ak,by simp⟩
   have:=arK c;rw[zdt ak,zaP,aQ,dn,hc,ah,aS ak ak]
end
def arL(b:Int):M.wS b=some (isD b):=by simp only[M.wS,M.OB,M.dI,M.Cm,isD];cases decide (b>=48)<;>rfl
def akH(b:Int):M.ru b=some (isD b):=by simp only[M.ru,M.OW,isD];cases decide (b>=48)<;>rfl
def aGT{s:aC}{b:Int->Option (Int⊕Int)}(hb:∀a,0<=a->a<=2000000->b a=some (bif isD (oL s a) then .inl (a+1) else .inr a))(h:s.length<=1048576):
  ∀(rest pre:aC),s=pre++rest->fJ b (pre.length:Int)=some ((pre.length:Int)+((rest.takeWhile λc=>isD (c.toNat:Int)).length:Nat))
 |[],pre,e=>by
  have hl:pre.length=s.length:=by rw[e];simp
  refine aT ?_;rw[hb _ ak ak,IB,List.getElem?_eq_none ak];simp[isD]
 |c::rest,pre,e=>by
  have hl:s.length=pre.length+(rest.length+1):=by rw[e];simp
  have hget:s[pre.length]? =some c:=by rw[e,List.getElem?_append_right (zaQ _),Nat.sub_self];rfl
  have hs:=hb (pre.length:Int) ak ak;rw[IB,hget] at hs;simp only at hs;cases hd:isD (c.toNat:Int) with
  |true=>have:=aGT hb h rest (pre++[c]) (by rw[e];simp);rw[wM,GK] at this;rw[hd,aG] at hs;rw[cu hs,List.takeWhile_cons,if_pos hd,show(pre.length:Int)+1=((pre.length+1:Nat):Int) by omega,this];simp;omega
  |false=>rw[hd,aQ] at hs;rw[aT hs,List.takeWhile_cons,hd];simp
def aAl{s:aC}{b:Int->Option (Int⊕Int)}(hb:∀a,0<=a->a<=2000000->b a=some (bif isD (oL s a) then .inl (a+1) else .inr a))(h:s.length<=1048576)(a:Int)(h0:0<=a)(h1:a<=2000000):fJ b a=some (jY s a):=by
 obtain⟨i,rfl⟩:∃i:Nat,a=i:=⟨a.toNat,ak⟩
 rw[jY,if_pos h0,Zt]
 by_cases hi:i<=s.length
 ·have:=aGT hb h (s.drop i) (s.take i) (List.take_append_drop i s).symm;rw[zlt,Nat.min_eq_left hi] at this;exact this
 ·rw[List.drop_eq_nil_of_le ak];refine aT ?_;rw[hb _ h0 h1,IB,List.getElem?_eq_none ak];simp[isD]
def Jo{s:aC}(h:s.length<=1048576){a:Int}(h0:0<=a):a<=jY s a/\(jY s a<=a\/jY s a<=s.length):=by have h1:=(List.takeWhile_sublist (p:=λc:UInt8=>isD (c.toNat:Int)) (l:=s.drop a.toNat)).length_le;rw[List.length_drop] at h1;rw[jY,if_pos h0];omega
section
variable {s:aC} (h:s.length<=1048576)
include h
theorem E8(a:Int)(h0:0<=a)(h1:a<=2000000):M.fC s a=some (jY s a):=by simp only[M.fC,M.LJ,M.JL];rw[aAl (λa h0 h1=>by simp only[M.UW,M.F6,E5 h,arL,ah];rw[aS ak ak];cases isD (oL s a)<;>rfl) h a h0 h1,ah]
theorem Dq(a:Int)(h0:0<=a)(h1:a<=2000000):M.jd s a=some (jY s a):=by simp only[M.jd,M.JX,M.Ii];rw[aAl (λa h0 h1=>by simp only[M.SV,M.Eh,AY h,akH,ah];rw[aS ak ak];cases isD (oL s a)<;>rfl) h a h0 h1,ah]
end
def Jp(s:aC)(r:Int):Int:=bif(oL s r==101)||(oL s r==69) then
  (bif(oL s (r+1)==43)||(oL s (r+1)==45) then(bif decide (jY s (r+1+1)>r+1+1) then jY s (r+1+1) else r) else(bif decide (jY s (r+1)>r+1) then jY s (r+1) else r)) else r
def yP(s:aC)(a:Int):Int:=if a<0\/(s.length:Int)<=a then -1 else
 bif oL s (jY s a)==46 then(bif(jY s a==a) &&(jY s (jY s a+1)==jY s a+1) then -1 else Jp s (jY s (jY s a+1))) else(bif jY s a==a then -1 else Jp s (jY s a))
section
variable {s:aC} (h:s.length<=1048576)
include h
set_option maxHeartbeats 2000000 in
theorem aa5(a:Int)(ha:a<=1048576):M.xG s a=some (yP s a):=by
 simp only[M.xG,M.Rq,M.ES,M.jy,M.DW,yP];rw[aS ak ak]
 by_cases h0:a<0
 ·rw[vG ak,aQ,ah,Bool.not_false,aG,if_pos (.inl h0)]
 ·rw[zdt ak,aG,ah]
  by_cases h1:(s.length:Int)<=a
  ·rw[vG ak,Bool.not_false,aG,if_pos (.inr h1)]
  ·rw[zdt ak,zaP,aQ,if_neg ak,Dq h a ak ak,ah];have e1:=Jo h (a:=a) ak;generalize hE:jY s a=e at e1|-;simp only[AY h,ah];rw[aS (n:=e+1) ak ak,aS (n:=e - a) ak ak,Dq h (e+1) ak ak,ah];have e2:=Jo h (a:=e+1) ak;generalize hK:jY s (e+1)=k at e2|-;have hz:(i64.wrap (e - a+i64.wrap (i64.wrap (k - e) - 1))==0)=((e==a) &&(k==e+1)):=by rw[aS (n:=k - e) ak ak,aS (n:=k - e - 1) ak ak,aS ak ak,Bool.eq_iff_iff];simp only[rZ,beq_iff_eq];omega
   have hz2:(e - a==0)=(e==a):=by rw[Bool.eq_iff_iff];simp only[beq_iff_eq];omega
   rw[hz,hz2];have ex:∀r:Int,0<=r->r<=1048578->(bif oL s r==101 then
      ((some (oL s (i64.wrap (r+1)))).bind λaDS=>
      (bif aDS==43 then
       ((M.jd s (i64.wrap (i64.wrap (r+1)+1))).bind λaDT=>
       (bif decide (aDT>i64.wrap (i64.wrap (r+1)+1)) then(some aDT) else(some r))) else
       (bif aDS==45 then
       ((M.jd s (i64.wrap (i64.wrap (r+1)+1))).bind λaRJ=>(bif decide (aRJ>i64.wrap (i64.wrap (r+1)+1)) then(some aRJ) else(some r))) else
       ((M.jd s (i64.wrap (r+1))).bind λagD=>(bif decide (agD>i64.wrap (r+1)) then(some agD) else(some r)))))) else
      (bif oL s r==69 then
      ((some (oL s (i64.wrap (r+1)))).bind λaDV=>
       (bif aDV==43 then
       ((M.jd s (i64.wrap (i64.wrap (r+1)+1))).bind λMR=>(bif decide (MR>i64.wrap (i64.wrap (r+1)+1)) then(some MR) else(some r))) else
       (bif aDV==45 then
        ((M.jd s (i64.wrap (i64.wrap (r+1)+1))).bind λaDW=>
        (bif decide (aDW>i64.wrap (i64.wrap (r+1)+1)) then(some aDW) else(some r))) else
        ((M.jd s (i64.wrap (r+1))).bind λaDU=>(bif decide (aDU>i64.wrap (r+1)) then(some aDU) else(some r)))))) else(some r)))=some (Jp s r):=by
    intro r h0 h1;rw[aS (n:=r+1) ak ak,aS (n:=r+1+1) ak ak,Dq h (r+1) ak ak,Dq h (r+1+1) ak ak,Jp];simp only[ah];cases oL s r==101<;>cases oL s r==69<;>cases oL s (r+1)==43<;>cases oL s (r+1)==45<;>cases decide (jY s (r+1+1)>r+1+1)<;>cases decide (jY s (r+1)>r+1)<;>rfl
   simp only[ah] at ex;cases oL s e==46 with
   |true=>
    simp only[aG];cases(e==a) &&(k==e+1) with
    |true=>rfl
    |false=>simp only[aQ];exact ex k ak ak
   |false=>
    simp only[aQ];cases e==a with
    |true=>rfl
    |false=>simp only[aQ];have h2:=ex e ak ak;rw[aS (n:=e+1) ak ak,Dq h (e+1) ak ak,hK] at h2;simp only[ah] at h2;exact h2
theorem akI(a:Int)(ha:a<=1048576):M.Fz s a=some (yP s a):=by
 simp only[M.Fz,M.QY,M.xI,yP]
 by_cases h0:a<0
 ·rw[zdt h0,aG,if_pos (.inl h0)]
 ·rw[vG h0,aQ];have e1:=Jo h (a:=a) ak;rw[E8 h a ak ak,ah];simp only[E5 h,ah]
  by_cases h1:(s.length:Int)<=a
  ·have he:jY s a=a:=ak;obtain⟨i,rfl⟩:∃i:Nat,a=i:=⟨a.toNat,ak⟩
   have hb:oL s (i:Int)= -1:=by rw[IB,List.getElem?_eq_none ak]
   rw[he,hb,if_pos (.inr h1),show((-1:Int)==46)=false from rfl,aQ,beq_self_eq_true,aG]
  ·rw[if_neg ak];generalize hE:jY s a=e at e1|-;have e2:=Jo h (a:=e+1) ak;rw[aS (n:=e+1) ak ak,E8 h (e+1) ak ak,ah];have ex:∀r:Int,0<=r->r<=1048578->(bif oL s r==101 then
      (bif oL s (i64.wrap (r+1))==43 then
       ((M.fC s (i64.wrap (i64.wrap (r+1)+1))).bind λaxB=>
        (bif decide (axB>i64.wrap (i64.wrap (r+1)+1)) then
        ((M.fC s (i64.wrap (i64.wrap (r+1)+1))).bind λaCU=>(some aCU)) else(some r))) else
        (bif oL s (i64.wrap (r+1))==45 then
        ((M.fC s (i64.wrap (i64.wrap (r+1)+1))).bind λaoN=>
         (bif decide (aoN>i64.wrap (i64.wrap (r+1)+1)) then
         ((M.fC s (i64.wrap (i64.wrap (r+1)+1))).bind λaxC=>(some axC)) else(some r))) else
        ((M.fC s (i64.wrap (r+1))).bind λSH=>(bif decide (SH>i64.wrap (r+1)) then((M.fC s (i64.wrap (r+1))).bind λaxD=>(some axD)) else(some r))))) else
       (bif oL s r==69 then
        (bif oL s (i64.wrap (r+1))==43 then
        ((M.fC s (i64.wrap (i64.wrap (r+1)+1))).bind λaZT=>
         (bif decide (aZT>i64.wrap (i64.wrap (r+1)+1)) then
         ((M.fC s (i64.wrap (i64.wrap (r+1)+1))).bind λaCX=>(some aCX)) else(some r))) else
         (bif oL s (i64.wrap (r+1))==45 then
         ((M.fC s (i64.wrap (i64.wrap (r+1)+1))).bind λaC1=>
          (bif decide (aC1>i64.wrap (i64.wrap (r+1)+1)) then
          ((M.fC s (i64.wrap (i64.wrap (r+1)+1))).bind λaxE=>(some axE)) else(some r))) else
         ((M.fC s (i64.wrap (r+1))).bind λaxF=>(bif decide (axF>i64.wrap (r+1)) then((M.fC s (i64.wrap (r+1))).bind λaxG=>(some axG)) else(some r))))) else(some r)))=some (Jp s r):=by
    intro r h0 h1;rw[aS (n:=r+1) ak ak,aS (n:=r+1+1) ak ak,E8 h (r+1) ak ak,E8 h (r+1+1) ak ak,Jp];simp only[ah];cases oL s r==101<;>cases oL s r==69<;>cases oL s (r+1)==43<;>cases oL s (r+1)==45<;>cases decide (jY s (r+1+1)>r+1+1)<;>cases decide (jY s (r+1)>r+1)<;>rfl
   generalize hK:jY s (e+1)=k at e2|-;have hka:(k==a)=false:=by rw[mX];omega
   rw[hka];cases oL s e==46 with
   |true=>
    simp only[aG,aQ];cases e==a with
    |true=>
     simp only[aG,Bool.true_and];cases k==e+1 with
     |true=>rfl
     |false=>simp only[aQ];exact ex k ak ak
    |false=>simp only[aQ,Bool.false_and];exact ex k ak ak
   |false=>
    simp only[aQ];cases e==a with
    |true=>rfl
    |false=>simp only[aQ];have h2:=ex e ak ak;rw[aS (n:=e+1) ak ak,E8 h (e+1) ak ak,hK] at h2;simp only[ah] at h2;exact h2
end
def Yq(q:Int):aC->Int->Int
 |[],_=> -1
 |c::l,i=>if(c.toNat:Int)=q then i+1 else if(c.toNat:Int)=10 then -1 else if(c.toNat:Int)=92 then(match l with
   |[]=> -1
   |d::l'=>if(d.toNat:Int)=10 then -1 else Yq q l' (i+2)) else Yq q l (i+1)
def XH(q:Int)(c:UInt8)(l:aC)(i:Int):Yq q (c::l) i=if(c.toNat:Int)=q then i+1 else if(c.toNat:Int)=10 then -1 else if(c.toNat:Int)=92 then(match l with
   |[]=> -1
   |d::l'=>if(d.toNat:Int)=10 then -1 else Yq q l' (i+2)) else Yq q l (i+1):=by
 cases l with
 |nil=>simp[Yq]
 |cons d l=>simp[Yq]
def hdI:aC->Int
 |[]=> -1
 |d::_=>(d.toNat:Int)
def quoted(s:aC)(a q:Int):Int:=if oL s a=q then Yq q (s.drop (a+1).toNat) (a+1) else -1
def aAm{s:aC}(h:s.length<=1048576)(q:Int)(hq:q≠10):∀(n:Nat) (rest pre:aC),rest.length<=n->s=pre++rest->
  (∃r,M.wz s q (pre.length:Int)=some r/\(jX r some λu=>letE u λ_=>some (-1))=some (Yq q rest (pre.length:Int)))/\
  (∃r,M.uz s q (pre.length:Int)=some r/\(jX r some λu=>letE u λ_=>some (-1))=some (Yq q rest (pre.length:Int)))
 |n,[],pre,hn,e=>by
  have hl:pre.length=s.length:=by rw[e];simp
  constructor
  ·refine⟨.inr (pre.length:Int), ?_,rfl⟩;rw[M.wz];refine aT ?_;simp only[M.Aj,M.wu];rw[vG ak,aQ]
  ·refine⟨.inr (pre.length:Int), ?_,rfl⟩;rw[M.uz];refine aT ?_;simp only[M.y5,M.uS];rw[vG ak,aQ]
 |0,c::rest,pre,hn,e=>by simp at hn
 |n+1,c::rest,pre,hn,e=>by
  simp only[yS] at hn;have hl:s.length=pre.length+(rest.length+1):=by rw[e];simp
  have hget:s[pre.length]? =some c:=by rw[e,List.getElem?_append_right (zaQ _),Nat.sub_self];rfl
  have hc:=arK c;have hw:i64.wrap ((c.toNat:Nat):Int)=(c.toNat:Int):=aS ak ak;have hw1:i64.wrap ((pre.length:Int)+1)=((pre.length+1:Nat):Int):=by rw[aS ak ak];omega
  have hw2:i64.wrap (((pre.length+1:Nat):Int)+1)=((pre.length+2:Nat):Int):=by rw[aS ak ak];omega
  have hnext:oL s ((pre.length+1:Nat):Int)=hdI rest:=by rw[IB,e,List.getElem?_append_right ak,show pre.length+1 - pre.length=1 by omega];cases rest<;>rfl
  have hS:M.Aj s q (pre.length:Int)=some (if(c.toNat:Int)=q then .inr (.inl ((pre.length+1:Nat):Int)) else if(c.toNat:Int)=10 then .inr (.inl (-1)) else if(c.toNat:Int)=92 then
    (if oL s ((pre.length+1:Nat):Int)=10 then .inr (.inl (-1)) else .inl ((pre.length+2:Nat):Int)) else .inl ((pre.length+1:Nat):Int)):=by
   simp only[M.Aj,M.wu,dn,hget,ah,hw,hw1,hw2,E5 h];rw[zdt ak,aG]
   by_cases c1:(c.toNat:Int)=q
   ·rw[if_pos c1,show((c.toNat:Int)==q)=true by simpa using c1,aG]
   ·rw[if_neg c1,show((c.toNat:Int)==q)=false by simpa using c1,aQ]
    by_cases c2:(c.toNat:Int)=10
    ·rw[if_pos c2,show((c.toNat:Int)==10)=true by simpa using c2,aG]
    ·rw[if_neg c2,show((c.toNat:Int)==10)=false by simpa using c2,aQ]
     by_cases c3:(c.toNat:Int)=92
     ·rw[if_pos c3,show((c.toNat:Int)==92)=true by simpa using c3,aG]
      by_cases c4:oL s ((pre.length+1:Nat):Int)=10
      ·rw[if_pos c4,c4];rfl
      ·rw[if_neg c4,show(oL s ((pre.length+1:Nat):Int)==10)=false by simpa using c4,aQ]
     ·rw[if_neg c3,show((c.toNat:Int)==92)=false by simpa using c3,aQ]
  have hI:M.y5 s q (pre.length:Int)=some (if(c.toNat:Int)=10 then .inr (.inr (pre.length:Int)) else if(c.toNat:Int)=q then .inr (.inl ((pre.length+1:Nat):Int)) else if(c.toNat:Int)=92 then
    (if oL s ((pre.length+1:Nat):Int)=10 then .inl ((pre.length+1:Nat):Int) else .inl ((pre.length+2:Nat):Int)) else .inl ((pre.length+1:Nat):Int)):=by
   simp only[M.y5,M.uS,dn,hget,ah,hw,hw1,hw2,AY h];rw[zdt ak,aG]
   by_cases c2:(c.toNat:Int)=10
   ·rw[if_pos c2,show((c.toNat:Int) !=10)=false by simpa using c2,aQ]
   ·rw[if_neg c2,show((c.toNat:Int) !=10)=true by simpa using c2,aG]
    by_cases c1:(c.toNat:Int)=q
    ·rw[if_pos c1,show((c.toNat:Int)==q)=true by simpa using c1,aG]
    ·rw[if_neg c1,show((c.toNat:Int)==q)=false by simpa using c1,aQ]
     by_cases c3:(c.toNat:Int)=92
     ·rw[if_pos c3,show((c.toNat:Int)==92)=true by simpa using c3,aG]
      by_cases c4:oL s ((pre.length+1:Nat):Int)=10
      ·rw[if_pos c4,c4];rfl
      ·rw[if_neg c4,show(oL s ((pre.length+1:Nat):Int) !=10)=true by simpa using c4,aG]
     ·rw[if_neg c3,show((c.toNat:Int)==92)=false by simpa using c3,aQ]
  have e1:s=(pre++[c])++rest:=by rw[e];simp
  have ih1:=aAm h q hq n rest (pre++[c]) ak e1;rw[wM,GK] at ih1;rw[M.wz,M.uz] at ih1|-;rw[XH]
  by_cases c1:(c.toNat:Int)=q
  ·have c2:¬(c.toNat:Int)=10:=ak;rw[if_pos c1];rw[if_pos c1] at hS;rw[if_neg c2,if_pos c1] at hI;refine⟨⟨_,aT hS, ?_⟩,⟨_,aT hI, ?_⟩⟩<;>simp[jX]
  ·rw[if_neg c1];rw[if_neg c1] at hS
   by_cases c2:(c.toNat:Int)=10
   ·rw[if_pos c2];rw[if_pos c2] at hS hI;exact⟨⟨_,aT hS,rfl⟩,⟨_,aT hI,rfl⟩⟩
   ·rw[if_neg c2];rw[if_neg c2] at hS hI;rw[if_neg c1] at hI
    by_cases c3:(c.toNat:Int)=92
    ·rw[if_pos c3];rw[if_pos c3] at hS hI;cases rest with
     |nil=>
      rw[hnext,hdI] at hS hI;simp only[show¬((-1:Int)=10) by omega,if_false] at hS hI;have hend:∀(b:Int->Option (Int⊕(Int⊕Int))),True:=λ_=>trivial
      simp only[SS] at hl;refine⟨⟨.inr ((pre.length+2:Nat):Int), ?_,rfl⟩,⟨.inr ((pre.length+2:Nat):Int), ?_,rfl⟩⟩
      ·rw[cu hS];refine aT ?_;simp only[M.Aj,M.wu];rw[vG ak,aQ]
      ·rw[cu hI];refine aT ?_;simp only[M.y5,M.uS];rw[vG ak,aQ]
     |cons d rest'=>
      simp only[hdI] at hnext|-;rw[hnext] at hS hI
      by_cases c4:(d.toNat:Int)=10
      ·rw[if_pos c4];rw[if_pos c4] at hS hI;refine⟨⟨_,aT hS,rfl⟩, ?_⟩;obtain⟨r,h1,h2⟩:=ih1.2;refine⟨r,by rw[cu hI];exact h1, ?_⟩;rw[h2,XH,if_neg ak,if_pos c4]
      ·rw[if_neg c4];rw[if_neg c4] at hS hI;have e2:s=(pre++[c,d])++rest':=by rw[e];simp
       simp only[yS] at hn;have ih2:=aAm h q hq n rest' (pre++[c,d]) ak e2;rw[wM,show[c,d].length=2 from rfl,M.wz,M.uz] at ih2;rw[cu hS,cu hI,show(pre.length:Int)+2=((pre.length+2:Nat):Int) by omega];exact ih2
    ·rw[if_neg c3];rw[if_neg c3] at hS hI;rw[cu hS,cu hI,show(pre.length:Int)+1=((pre.length+1:Nat):Int) by omega];exact ih1
section
variable {s:aC} (h:s.length<=1048576)
include h
theorem anl(a q:Int)(h0:0<=a)(h1:a<=1048576)(hq:0<=q)(hq2:q≠10):M.tC s a q=some (quoted s a q)/\M.qP s a q=some (quoted s a q):=by
 simp only[M.tC,M.LK,M.qP,M.JY,E5 h,AY h,ah,quoted]
 by_cases hb:oL s a=q
 ·rw[if_pos hb,show(oL s a !=q)=false by simpa using hb,aQ,aQ,aS ak ak];obtain⟨i,rfl⟩:∃i:Nat,a=i:=⟨a.toNat,ak⟩
  have hi:i<s.length:=by
   rcases Nat.lt_or_ge i s.length with hlt|hge
   ·exact hlt
   ·rw[IB,List.getElem?_eq_none hge] at hb;simp only at hb;omega
  obtain⟨⟨r,k1,k2⟩,⟨r',k3,k4⟩⟩:=aAm h q hq2 _ (s.drop (i+1)) (s.take (i+1)) (zaQ _) (List.take_append_drop _ s).symm;rw[zlt,Nat.min_eq_left ak] at k1 k2 k3 k4;rw[show(i:Int)+1=((i+1:Nat):Int) by omega,Zt,k1,k3,ah,ah];exact⟨k2,k4⟩
 ·rw[if_neg hb,show(oL s a !=q)=true by simpa using hb,aG,aG];exact⟨rfl,rfl⟩
theorem anm(a:Int)(h0:0<=a)(h1:a<=1048576):M.FC s a=some (quoted s a 34)/\M.zO s a=some (quoted s a 34):=by have:=anl h a 34 h0 h1 ak ak;simp only[M.FC,M.QZ,M.zO,M.Rt,this.1,this.2,ah];constructor<;>first|rfl|trivial
def MX(s:aC)(a:Int):Int:=bif quoted s a 47==a+2 then -1 else quoted s a 47
theorem ano(a:Int)(h0:0<=a)(h1:a<=1048576):M.FD s a=some (MX s a)/\M.zQ s a=some (MX s a):=by have:=anl h a 47 h0 h1 ak ak;simp only[M.FD,M.Q5,M.zQ,M.Ru,this.1,this.2,ah,MX];rw[aS ak ak];cases quoted s a 47==a+2<;>simp
end
end Go.Proofs.YtephpnbbbimjbaaGreatDoor
namespace Go.Proofs.YtephpnbbbimjbaaGreatDoor
open Go Go.Vm
@[simp] theorem Sm(l:List (aC)):(encS l).length=l.length:=by simp[encS]
@[simp] theorem aa6(l:List (aC))(i:Nat):(encS l)[i]? =(l[i]?).map λs=>[D.str s]:=by simp[encS]
def cS0(s:aC):cStr [D.str s] 0=some s:=rfl
def strsOf:Row->List (aC)
 |[]=>[]
 | .str s::r=>s::strsOf r
 |_::r=>strsOf r
def Ve:List (aC):=strsOf Fp
def vT:List (aC):=strsOf UM
def agS:List (aC):=strsOf ND
def P7(s:aC):List (aC)->Int->Int
 |[],_=> -1
 |x::l,i=>if x==s then i else P7 s l (i+1)
def aa7(s:aC):∀(l:List (aC)) (i:Int),0<=i-> -1<=P7 s l i/\P7 s l i<i+l.length
 |[],i,h=>by simp[P7];omega
 |x::l,i,h=>by
  rw[P7];split
  ·simp;omega
  ·have:=aa7 s l (i+1) ak;simp only[yS];omega
def anp(s:aC)(l:List (aC))(hl:l.length<=1048576){b:Int->Option (Int⊕(Int⊕Int))}
  (hb:∀(i:Nat) x,l[i]? =some x->b (i:Int)=some (if x==s then .inr (.inl (i:Int)) else .inl ((i:Int)+1))) (he:b (l.length:Int)=some (.inr (.inr (l.length:Int)))):
  ∃r,fJ b 0=some r/\(jX r some λu=>letE u λ_=>some (-1))=some (P7 s l 0):=by
 have key:∀(t:List (aC)) (i:Nat),l.drop i=t->i<=l.length->∃r,fJ b (i:Int)=some r/\(jX r some λu=>letE u λ_=>some (-1))=some (P7 s t (i:Int)):=by
  intro t;induction t with
  |nil=>
   intro i hd hi;have:i=l.length:=by have:=congrArg List.length hd;simp at this;omega
   subst this;exact⟨_,aT he,rfl⟩
  |cons x t ih=>
   intro i hd hi;have hx:l[i]? =some x:=by
    have:(l.drop i)[0]? =some x:=by rw[hd];rfl
    simpa using this
   have hlt:i<l.length:=(NV.1 hx).1;have hd':l.drop (i+1)=t:=by rw[<-List.drop_drop,hd];rfl
   have hs:=hb i x hx;rw[P7];cases hxs:x==s with
   |true=>rw[hxs] at hs;exact⟨_,aT hs,rfl⟩
   |false=>
    rw[hxs] at hs;obtain⟨r,h1,h2⟩:=ih (i+1) hd' hlt;refine⟨r, ?_, ?_⟩
    ·rw[cu hs,show(i:Int)+1=((i+1:Nat):Int) by omega];exact h1
    ·rw[h2];simp
 exact key l 0 rfl (Nat.zero_le _)
def anq(s:aC)(l:List (aC))(hl:l.length<=1048576):M.zL (encS l) s=some (P7 s l 0):=by
 obtain⟨r,h1,h2⟩:=anp s l hl (b:=M.JI (encS l) s)
  (λi x hx=>by have hi:=(NV.1 hx).1;simp only[M.JI,M.EM,Sm,dn,aa6,hx,Nw,ah,cS0];rw[zdt ak,aG,aS ak ak];cases x==s<;>rfl)
  (by simp only[M.JI,M.EM,Sm];rw[vG ak,aQ])
 simp only[M.zL,M.QV,M.OC];rw[h1,ah];exact h2
def arM(s:aC)(l:List (aC))(hl:l.length<=1048576):M.slices_Index (encS l) s=some (P7 s l 0):=by
 obtain⟨r,h1,h2⟩:=anp s l hl (b:=M.Il (encS l) s (l.length:Int))
  (λi x hx=>by have hi:=(NV.1 hx).1;simp only[M.Il,M.CX,dn,aa6,hx,Nw,ah,cS0];rw[zdt ak,aG,aS ak ak,show(s==x)=(x==s) by rw[Bool.eq_iff_iff,beq_iff_eq,beq_iff_eq];exact⟨Eq.symm,Eq.symm⟩];cases x==s<;>rfl)
  (by simp only[M.Il,M.CX];rw[vG ak,aQ])
 simp only[M.slices_Index,M.OZ,M.Me,Sm];rw[h1,ah];exact h2
def aa8(s:aC):Int:=if P7 s Ve 0<0 then 0 else 10+P7 s Ve 0
def P8(s:aC):Bool:=decide (P7 s agS 0>=0)
def arN:M.zx=some (encS Ve):=rfl
def arO:M.yJ=some (encS agS):=rfl
def arP:M.zy=some (encS vT):=rfl
def aJo:List.map (λx=>[x]) Fp=encS Ve:=rfl
def aEG:List.map (λx=>[x]) ND=encS agS:=rfl
def Yr(s:aC):M.xE s=some (aa8 s)/\M.oV s=some (aa8 s):=by
 have hr:=aa7 s Ve 0 ak;have hl:Ve.length=17:=rfl;simp only[M.xE,M.JJ,M.oV,M.J3,arN,aJo,ah,anq s Ve (by rw[hl];omega),arM s Ve (by rw[hl];omega),aa8]
 by_cases h:P7 s Ve 0<0
 ·rw[zdt h,aG,if_pos h];exact⟨rfl,rfl⟩
 ·rw[vG h,aQ,if_neg h,aS ak ak];exact⟨rfl,rfl⟩
def Gx(s:aC):M.nK s=some (P8 s)/\M.nN s=some (P8 s):=by have hl:agS.length=21:=rfl;simp only[M.nK,M.JK,M.nN,M.J4,M.slices_Contains,M.Io,arO,aEG,ah,anq s agS (by rw[hl];omega),arM s agS (by rw[hl];omega),P8];constructor<;>first|rfl|trivial
def isL(b:Int):Bool:=(decide (b>=97) && decide (b<=122))||((decide (b>=65) && decide (b<=90))||(b==95))
def Vf(b:Int):Bool:=isL b||isD b
def Wh(b:Int):M.tu b=some (isL b)/\M.lD b=some (isL b):=by simp only[M.tu,M.LG,M.dI,M.Cm,M.lD,M.Mc,isL];cases decide (b>=97)<;>cases decide (b<=122)<;>cases decide (b>=65)<;>cases decide (b<=90)<;>cases(b==95)<;>exact⟨rfl,rfl⟩
def KY(b:Int):M.kV b=some (Vf b)/\M.nM b=some (Vf b):=by simp only[M.kV,M.Ic,M.nM,M.Ij,Wh,arL,akH,ah,Vf];cases isL b<;>cases isD b<;>exact⟨rfl,rfl⟩
def agT(s:aC):Bool:=s.all λc=>Vf (c.toNat:Int)
def aZU:aC->Bool
 |[]=>false
 |c::_=>isL (c.toNat:Int)
def yB(s:aC):Bool:=agT s &&((decide ((s.length:Int)>=1) && decide ((s.length:Int)<=12)) && aZU s)
def akJ(s:aC){b:Int->Option (Int⊕(Unit⊕Int))}
  (hb:∀(i:Nat) c,s[i]? =some c->b (i:Int)=some (bif Vf (c.toNat:Int) then .inl ((i:Int)+1) else .inr (.inl ()))) (he:b (s.length:Int)=some (.inr (.inr (s.length:Int)))):
  fJ b 0=some (bif agT s then .inr (s.length:Int) else .inl ()):=by
 have key:∀(t:aC) (i:Nat),s.drop i=t->i<=s.length->fJ b (i:Int)=some (bif agT t then .inr (s.length:Int) else .inl ()):=by
  intro t;induction t with
  |nil=>
   intro i hd hi;have:i=s.length:=by have:=congrArg List.length hd;simp at this;omega
   subst this;exact aT he
  |cons x t ih=>
   intro i hd hi;have hx:s[i]? =some x:=by
    have:(s.drop i)[0]? =some x:=by rw[hd];rfl
    simpa using this
   have hlt:i<s.length:=(NV.1 hx).1;have hd':s.drop (i+1)=t:=by rw[<-List.drop_drop,hd];rfl
   have hs:=hb i x hx;rw[agT,List.all_cons];cases hw:Vf (x.toNat:Int) with
   |true=>rw[hw,aG] at hs;rw[cu hs,show(i:Int)+1=((i+1:Nat):Int) by omega,ih (i+1) hd' hlt,Bool.true_and];rfl
   |false=>rw[hw,aQ] at hs;rw[aT hs];rfl
 exact key s 0 rfl (Nat.zero_le _)
def afz(s:aC)(h:s.length<=1048576):M.xC s=some (yB s)/\M.oU s=some (yB s):=by
 have hw:∀c:UInt8,i64.wrap ((c.toNat:Nat):Int)=(c.toNat:Int):=λc=>by have:=arK c;exact aS ak ak
 have h1:=akJ s (b:=M.Ed s)
  (λi c hc=>by have hi:=(NV.1 hc).1;simp only[M.Ed,M.yX,dn,hc,ah,hw,KY];rw[zdt ak,aG,aS ak ak];cases Vf (c.toNat:Int)<;>rfl)
  (by simp only[M.Ed,M.yX];rw[vG ak,aQ])
 have h2:=akJ s (b:=M.Ei s (s.length:Int))
  (λi c hc=>by have hi:=(NV.1 hc).1;simp only[M.Ei,M.y7,dn,hc,ah,hw,KY];rw[zdt ak,aG,aS ak ak];cases Vf (c.toNat:Int)<;>rfl)
  (by simp only[M.Ei,M.y7];rw[vG ak,aQ])
 simp only[M.xC,M.JH,M.oU,M.JZ,M.Ie,M.Ik,M.dI,M.Cm,M.jy,M.DW];rw[h1,h2,ah,ah,yB];cases agT s with
 |false=>exact⟨rfl,rfl⟩
 |true=>
  simp only[aG,jX,letE,Bool.true_and];cases s with
  |nil=>exact⟨rfl,rfl⟩
  |cons c l=>have hi:idx (c::l) 0=some c:=rfl;simp only[hi,ah,hw,Wh];cases decide (((c::l).length:Int)>=1)<;>cases decide (((c::l).length:Int)<=12)<;>exact⟨rfl,rfl⟩
def DY(s:aC):Bool:=yB s &&((aa8 s==0) && !(P8 s))
def Ut(s:aC)(h:s.length<=1048576):M.lN s=some (DY s)/\M.BZ s=some (DY s):=by have h1:=afz s h;simp only[M.lN,M.QW,M.BZ,M.Rw,h1.1,h1.2,Yr,Gx,ah,DY];cases yB s<;>cases aa8 s==0<;>cases P8 s<;>exact⟨rfl,rfl⟩
end Go.Proofs.YtephpnbbbimjbaaGreatDoor
namespace Go.Proofs.YtephpnbbbimjbaaGreatDoor
open Go Go.Vm
def aRK(c:UInt8)(n:Nat)(h:n<256):(((c.toNat:Nat):Int)==(n:Int))=(c==UInt8.ofNat n):=by
 rw[Bool.eq_iff_iff,beq_iff_eq,beq_iff_eq];constructor
 ·intro e;apply UInt8.toNat_inj.1;rw[UInt8.toNat_ofNat',Nat.mod_eq_of_lt h];omega
 ·rintro rfl;rw[UInt8.toNat_ofNat',Nat.mod_eq_of_lt h]
def hasB(c:UInt8)(s:aC):Bool:=s.any (· ==c)
def axP(s:aC)(c:UInt8):decide (0<=Lib.indexByte s c)=hasB c s:=by
 have hge:=Lib.indexByte_ge s c;rw[Bool.eq_iff_iff,decide_eq_true_eq,hasB,List.any_eq_true];constructor
 ·intro h;obtain⟨i,hi⟩:∃i:Nat,Lib.indexByte s c=i:=⟨(Lib.indexByte s c).toNat,ak⟩
  exact⟨c,WW (Lib.indexByte_some hi).1,by simp⟩
 ·rintro⟨x,hx,hc⟩;have:=beq_iff_eq.1 hc;subst this;rcases Int.lt_or_le (Lib.indexByte s x) 0 with h|h
  ·obtain⟨i,hi⟩:=List.mem_iff_getElem?.1 hx;exact absurd hi (Lib.indexByte_none ak i)
  ·exact h
def arQ(s:aC)(h:s.length<=1000000000):M.wU s=some (!(hasB 10 s)):=by
 have key:∀(t:aC) (i:Nat),s.drop i=t->i<=s.length->fJ (M.CO s) (i:Int)=some (bif hasB 10 t then .inl () else .inr (s.length:Int)):=by
  intro t;induction t with
  |nil=>
   intro i hd hi;have:i=s.length:=by have:=congrArg List.length hd;simp at this;omega
   subst this;refine aT ?_;simp only[M.CO,M.CJ];rw[vG ak,aQ];rfl
  |cons x t ih=>
   intro i hd hi;have hx:s[i]? =some x:=by
    have:(s.drop i)[0]? =some x:=by rw[hd];rfl
    simpa using this
   have hlt:i<s.length:=(NV.1 hx).1;have hd':s.drop (i+1)=t:=by rw[<-List.drop_drop,hd];rfl
   have hs:M.CO s (i:Int)=some (bif x==10 then .inr (.inl ()) else .inl ((i:Int)+1)):=by simp only[M.CO,M.CJ,dn,hx,ah];rw[zdt ak,aG,show(10:Int)=((10:Nat):Int) from rfl,aRK _ _ ak,aS ak ak,show(x==UInt8.ofNat 10)=(x==10) from rfl];cases x==10<;>rfl
   rw[hasB,List.any_cons];cases hc:x==10 with
   |true=>rw[hc,aG] at hs;rw[aT hs];rfl
   |false=>rw[hc,aQ] at hs;rw[cu hs,show(i:Int)+1=((i+1:Nat):Int) by omega,ih (i+1) hd' hlt,Bool.false_or];rfl
 have:=key s 0 rfl (Nat.zero_le _);rw[MW] at this;simp only[M.wU,M.OE,M.LH];rw[this,ah];cases hasB 10 s<;>rfl
def aEH:∀i,i<17->cStr Fp i=Ve[i]? :=by decide+kernel
def avZ:∀i,i<39->cStr UM i=vT[i]? :=by decide+kernel
def spell(k:Int):aC:=if k=1 then[10] else if 10<=k/\k<=26 then Ve[(k - 10).toNat]?.getD [] else if 30<=k/\k<=68 then vT[(k - 30).toNat]?.getD [] else[]
def DZ(k:Int)(hk:I64 k):M.kH k=some (spell k)/\M.Cb k=some (spell k):=by
 have l1:Ve.length=17:=rfl;have l2:vT.length=39:=rfl;simp only[M.kH,M.OG,M.Cb,M.O6,M.rF,M.CZ,M.yK,M.Iq,M.jy,M.DW,M.dI,M.Cm,arN,arP,ah,spell]
 by_cases h1:k=1
 ·subst h1;exact⟨rfl,rfl⟩
 ·rw[show(k==1)=false by simpa using h1,aQ,aQ,if_neg h1]
  by_cases h2:10<=k/\k<=26
  ·obtain⟨i,hi⟩:∃i:Nat,k=10+i:=⟨(k - 10).toNat,ak⟩
   have hw:i64.wrap (k - 10)=(i:Int):=by rw[aS ak ak];omega
   obtain⟨x,hx⟩:∃x,Ve[i]? =some x:=⟨Ve[i]'ak,by simp⟩
   rw[if_pos h2,zdt (show k>=10 by omega),aG,zdt (show k<=26 by omega),hw,zdt (show(0:Int)<=(i:Int) by omega),zdt (show(i:Int)<17 by omega)];simp only[ah,aG,dn,Zt,aa6,hx,Nw,cS0,Bool.and_self,Nat.zero_add,Nat.mul_one,aEH i ak];rw[show(k - 10).toNat=i by omega,hx];exact⟨rfl,rfl⟩
  ·have hf:(bif decide (k>=10) then some (decide (k<=26)) else some false)=some false:=by
    by_cases h3:k>=10
    ·rw[zdt h3,aG,vG ak]
    ·rw[vG h3,aQ]
   rw[if_neg h2,hf];simp only[ah,aQ]
   by_cases h4:30<=k/\k<=68
   ·obtain⟨i,hi⟩:∃i:Nat,k=30+i:=⟨(k - 30).toNat,ak⟩
    have hw:i64.wrap (k - 30)=(i:Int):=by rw[aS ak ak];omega
    obtain⟨x,hx⟩:∃x,vT[i]? =some x:=⟨vT[i]'ak,by simp⟩
    rw[if_pos h4,zdt (show k>=30 by omega),aG,zdt (show k<=68 by omega),hw,zdt (show(0:Int)<=(i:Int) by omega),zdt (show(i:Int)<39 by omega)];simp only[ah,aG,dn,Zt,aa6,hx,Nw,cS0,Bool.and_self,Nat.zero_add,Nat.mul_one,avZ i ak];rw[show(k - 30).toNat=i by omega,hx];exact⟨rfl,rfl⟩
   ·have hf:(bif decide (k>=30) then some (decide (k<=68)) else some false)=some false:=by
     by_cases h3:k>=30
     ·rw[zdt h3,aG,vG ak]
     ·rw[vG h3,aQ]
    rw[if_neg h4,hf];exact⟨rfl,rfl⟩
def iR(k:Int)(s:aC):Bool:=bif s==[] then false else
 bif k==2 then(oL s 0==35) && !(hasB 10 s) else bif k==3 then yP s 0==(s.length:Int) else bif k==4 then quoted s 0 34==(s.length:Int) else bif k==5 then MX s 0==(s.length:Int) else
 bif k==6 then DY s else bif k==7 then DY s else bif k==8 then P8 s else s==spell k
def Qv(k:Int)(s:aC)(a:Int)(h:s.length<=1048576)(hk:I64 k):M.pW k s a=some (iR k s)/\M.zD k s a=some (iR k s):=by
 have hn:=Ut s h;have hb:=Gx s;have hst:=anm h 0 ak ak;have her:=ano h 0 ak ak;have hsp:=DZ k hk;have hct:M.strings_Contains s [10]=some (hasB 10 s):=by rw[M.strings_Contains,axP]
 simp only[M.pW,M.OH,M.zD,M.O7,hn.1,hn.2,hb.1,hb.2,hst.1,hst.2,her.1,her.2,hsp.1,hsp.2,hct,arQ s ak,akI h 0 ak,aa5 h 0 ak,ah,iR];cases s with
 |nil=>refine⟨?_,rfl⟩;have q1:DY []=false:=rfl;have q2:P8 []=false:=rfl;have q3:(quoted [] 0 34==(([]:aC).length:Int))=false:=rfl;have q4:(MX [] 0==(([]:aC).length:Int))=false:=rfl;rw[q1,q2,q3,q4];cases k==2<;>cases k==3<;>cases k==4<;>cases k==5<;>cases k==6<;>cases k==7<;>cases k==8<;>rfl
 |cons c l=>
  have hi:idx (c::l) 0=some c:=rfl;have hb0:oL (c::l) 0=(c.toNat:Int):=rfl;have hne:((c::l:aC)==[])=false:=rfl;have hgt:decide (((c::l).length:Int)>0)=true:=by simp
  have hsw:(spell k==c::l)=(c::l==spell k):=by rw[Bool.eq_iff_iff,beq_iff_eq,beq_iff_eq];exact⟨Eq.symm,Eq.symm⟩
  rw[hi,hb0,hne,hgt,hsw];simp only[ah,aG,aQ,Bool.not_false];cases k==2<;>cases k==3<;>cases k==4<;>cases k==5<;>cases k==6<;>cases k==7<;>cases k==8<;>cases(c.toNat:Int)==35<;>exact⟨rfl,rfl⟩
end Go.Proofs.YtephpnbbbimjbaaGreatDoor
namespace Go.Proofs.YtephpnbbbimjbaaGreatDoor
open Go Go.Vm
def kF(x a b:Int):M.dI x a b=some (decide (x>=a) && decide (x<=b)):=by simp only[M.dI,M.Cm];cases decide (x>=a)<;>rfl
def XI(x a b:Int):M.jy x a b=some (decide (x>=a) && decide (x<=b)):=kF x a b
def akK(op:Int):Bool:=op==60||op==57||op==58||op==59||op==55||op==56||op==99||op==63||op==48||op==47||op==50||op==62||op==49||op==67||op==46||op==45||op==44
def akL(op:Int):M.BR op=some (akK op)/\∃lv,M.oC op=some lv/\(lv !=0)=akK op:=by
 by_cases h44:op=44
 ·subst h44;exact⟨rfl,_,rfl,rfl⟩
 have e44:(op==44)=false:=by simpa using h44
 by_cases h45:op=45
 ·subst h45;exact⟨rfl,_,rfl,rfl⟩
 have e45:(op==45)=false:=by simpa using h45
 by_cases h67:op=67
 ·subst h67;exact⟨rfl,_,rfl,rfl⟩
 have e67:(op==67)=false:=by simpa using h67
 by_cases h46:op=46
 ·subst h46;exact⟨rfl,_,rfl,rfl⟩
 have e46:(op==46)=false:=by simpa using h46
 by_cases h63:op=63
 ·subst h63;exact⟨rfl,_,rfl,rfl⟩
 have e63:(op==63)=false:=by simpa using h63
 by_cases h48:op=48
 ·subst h48;exact⟨rfl,_,rfl,rfl⟩
 have e48:(op==48)=false:=by simpa using h48
 by_cases h47:op=47
 ·subst h47;exact⟨rfl,_,rfl,rfl⟩
 have e47:(op==47)=false:=by simpa using h47
 by_cases h50:op=50
 ·subst h50;exact⟨rfl,_,rfl,rfl⟩
 have e50:(op==50)=false:=by simpa using h50
 by_cases h62:op=62
 ·subst h62;exact⟨rfl,_,rfl,rfl⟩
 have e62:(op==62)=false:=by simpa using h62
 by_cases h49:op=49
 ·subst h49;exact⟨rfl,_,rfl,rfl⟩
 have e49:(op==49)=false:=by simpa using h49
 by_cases h99:op=99
 ·subst h99;exact⟨rfl,_,rfl,rfl⟩
 have e99:(op==99)=false:=by simpa using h99
 by_cases h55:op=55
 ·subst h55;exact⟨rfl,_,rfl,rfl⟩
 have e55:(op==55)=false:=by simpa using h55
 by_cases h56:op=56
 ·subst h56;exact⟨rfl,_,rfl,rfl⟩
 have e56:(op==56)=false:=by simpa using h56
 by_cases h57:op=57
 ·subst h57;exact⟨rfl,_,rfl,rfl⟩
 have e57:(op==57)=false:=by simpa using h57
 by_cases h58:op=58
 ·subst h58;exact⟨rfl,_,rfl,rfl⟩
 have e58:(op==58)=false:=by simpa using h58
 by_cases h59:op=59
 ·subst h59;exact⟨rfl,_,rfl,rfl⟩
 have e59:(op==59)=false:=by simpa using h59
 by_cases h60:op=60
 ·subst h60;exact⟨rfl,_,rfl,rfl⟩
 have e60:(op==60)=false:=by simpa using h60
 simp only[M.BR,M.OA,M.oC,M.Jh,akK,e44,e45,e67,e46,e63,e48,e47,e50,e62,e49,e99,e55,e56,e57,e58,e59,e60,aQ,Bool.or_self];exact⟨trivial,0,rfl,rfl⟩
def Sr(op:Int):Bool:=op==54||(decide (op>=38) && decide (op<=43))
def Wi(op:Int):M.uZ op=some (Sr op)/\M.zT op=some (Sr op):=by simp only[M.uZ,M.Ib,M.zT,M.MF,kF,XI,ah,Sr];cases op==54<;>exact⟨rfl,rfl⟩
def tb{α:Type}{c:Bool}{x y:Option α}(hx:∃b,x=some b)(hy:∃b,y=some b):∃b,(bif c then x else y)=some b:=by cases c<;>assumption
def tn{α β:Type}{m:Option α}{f:α->Option β}(hm:∃a,m=some a)(hf:∀a,∃b,f a=some b):∃b,m.bind f=some b:=by obtain⟨a,rfl⟩:=hm;exact hf a
def FOk(k op:Int)(t o:aC)(kids:ay):Prop:=∃b,M.bJ k op t o kids=some b/\True
def arR(k:Int)(op:Int)(t o:aC)(kids:ay)(ht:t.length<=1048576)(ho:o.length<=1048576)(hk:kids.length<=400):FOk k op t o kids:=by
 have hM:∃r,M.dZ k op t o kids=some r:=by
  simp only[M.dZ,M.dQ]
  repeat' first|exact⟨_,rfl⟩|apply tb
 have hO:∃r,M.fV k op t o kids=some r:=by
  simp only[M.fV,M.fG,(akL op).1,(Wi op).1,kF,ah]
  repeat' first|exact⟨_,rfl⟩|apply tb
 have hT:∃r,M.dW k op t o kids=some r:=by
  have hk:∀q:Int,2<=q->q<=5->M.pW q t 0=some (iR q t):=λq h1 h2=>(Qv q t 0 ht ⟨ak,ak⟩).1
  simp only[M.dW,M.dR,(Ut t ht).1,(Ut o ho).1,(Gx t).1,hk 2 ak ak,hk 3 ak ak,hk 4 ak ak,hk 5 ak ak,ah]
  repeat' first|exact⟨_,rfl⟩|apply tb
 have h:∃b,M.bJ k op t o kids=some b:=by
  simp only[M.bJ,M.bY,kF,ah]
  repeat' first|exact⟨_,rfl⟩|apply tb|(apply tn hM;intro _)|(apply tn hO;intro _)|(apply tn hT;intro _)
 obtain⟨b,h⟩:=h;exact⟨b,h,trivial⟩
end Go.Proofs.YtephpnbbbimjbaaGreatDoor
namespace Go.Proofs.YtephpnbbbimjbaaGreatDoor
open Go Go.Vm
def akM(k:Int):Bool:=decide (1<=k) && decide (k<=15)
def SN(k:Int):Bool:=k==1||(k==5||k==6)
def aEI(k:Int):Bool:=decide (20<=k) && decide (k<=34)
def isIt(k:Int):Bool:=decide (40<=k) && decide (k<=44)
def uU(k:Int):M.kJ k=some (akM k)/\True:=by simp only[M.kJ,M.Q7,kF,XI,ah,akM,ge_iff_le];constructor<;>first|rfl|trivial
def anr(k:Int):M.FH k=some (aEI k)/\True:=by simp only[M.FH,M.Q8,kF,XI,ah,aEI,ge_iff_le];constructor<;>first|rfl|trivial
def axQ(k:Int):M.dI k 40 44=some (isIt k)/\True:=by simp only[kF,XI,ah,isIt,ge_iff_le];constructor<;>first|rfl|trivial
def Sv(k:Int):M.tH k=some (SN k)/\True:=by simp only[M.tH,M.LM,SN];cases k==1<;>cases k==5<;>exact⟨rfl,trivial⟩
def aJp(k:Int)(op:Int)(t o:aC)(kids:ay)(j d:Int):∃b,M.dN k op t o kids j d=some b/\True:=by
 have h:∃b,M.dN k op t o kids j d=some b:=by
  simp only[M.dN,M.dX,M.bZ,(uU d).1,(anr d).1,(Sv d).1,kF,ah]
  repeat' first|exact⟨_,rfl⟩|apply tb
 obtain⟨b,h⟩:=h;exact⟨b,h,trivial⟩
end Go.Proofs.YtephpnbbbimjbaaGreatDoor
namespace Go.Proofs.YtephpnbbbimjbaaGreatDoor
open Go Go.Vm
def Yt(x lo hi:Int):M.dI x lo hi=some (decide (lo<=x) && decide (x<=hi)):=by
 simp only[M.dI,M.Cm]
 by_cases h:lo<=x
 ·rw[zdt (show x>=lo from h)];rfl
 ·rw[vG (show¬x>=lo from h)];rfl
def afA(l:List Nd)(o:Bool){i:Nat}{n:Nd}{st:List Int}(hi:l[i]? =some n)(hl:l.length<=1048576)(hkl:n.kids.length<=1048576)(hst:abM st)(hs:st.length=i):
  ∀(j:Nat) (a:Int),j<=n.kids.length->0<=a->a<=i->M.vZ (dD o l) (i:Int) (encI st) (a,(j:Int) - 1)=some (match jv st (n.kids.take j).reverse (a - 1) with
   |none=> .inl ()
   |some r=> .inr (r+1, -1))
 |0,a,hj,h0,h1=>by rw[M.vZ];apply aT;simp only[M.FZ,M.Ah];rw[vG ak,aQ,List.take_zero,List.reverse_nil,jv];simp
 |j+1,a,hj,h0,h1=>by
  have hlt:i<l.length:=(NV.1 hi).1;obtain⟨k,hk⟩:∃k,n.kids[j]? =some k:=⟨n.kids[j]'ak,by simp⟩
  have ht:(n.kids.take (j+1)).reverse=k::(n.kids.take j).reverse:=by rw[List.take_add_one,hk,Option.toList_some,List.reverse_append];rfl
  rw[ht,jv];have e1:(((j+1:Nat):Int) - 1)=(j:Int):=ak;rw[e1];have hstep:M.FZ (dD o l) (i:Int) (encI st) (a,(j:Int))=if a - 1<0\/k≠a - 1 then some (.inr (.inl ())) else some (.inl (st[k.toNat]?.getD 0,(j:Int) - 1)):=by
   simp only[M.FZ,M.Ah,dn,mG,hi,Nw,ah,Vz,Ey,hk,Zq];rw[zdt ak,aG,aS (n:=a - 1) ak ak]
   by_cases h2:k=a - 1
   ·have:(k !=a - 1)=false:=by simp[h2]
    rw[this,aQ]
    by_cases h3:a=0
    ·have:(a==0)=true:=by simp[h3]
     rw[this,aG,if_pos (.inl ak)]
    ·have:(a==0)=false:=by simp[h3]
     rw[this,aQ,if_neg ak];obtain⟨d,hd⟩:∃d:Nat,a - 1=(d:Int):=⟨(a - 1).toNat,ak⟩
     have hdl:d<st.length:=ak;rw[h2,hd];simp only[aj1,dn,Ey,Zt];rw[List.getElem?_eq_getElem hdl];simp only[Nw,ah,Zq,Option.getD_some];rw[aS ak ak]
   ·have:(k !=a - 1)=true:=by simp[h2]
    rw[this,aG,if_pos (.inr h2)]
  by_cases hc:a - 1<0\/k≠a - 1
  ·rw[if_pos hc];rw[if_pos hc] at hstep;exact aT hstep
  ·rw[if_neg hc];rw[if_neg hc] at hstep;rw[M.vZ,cu hstep];have hz:=Xo hst k.toNat;have:=afA l o hi hl hkl hst hs j (st[k.toNat]?.getD 0) ak hz.1 ak;rw[M.vZ] at this;exact this
def adA(l:List Nd)(o:Bool)(hl:l.length<=1048576)(hk:∀n,n∈l->n.kids.length<=1048576):∀(rest:List Nd) (i:Nat) (st:List Int),l.drop i=rest->st.length=i->i<=l.length->abM st->
  M.wo (dD o l) ((i:Int),encI st)=some (match mY st (ks rest) with
   |none=> .inl ()
   |some r=> .inr ((l.length:Int),encI r))
 |[],i,st,hd,hs,hi,hst=>by have:l.length<=i:=List.drop_eq_nil_iff.1 hd;rw[M.wo];apply aT;simp only[yH,M.F5,M.Ai,fP];rw[vG ak,aQ];have:i=l.length:=ak;subst this;rfl
 |n::rest,i,st,hd,hs,hi,hst=>by
  have hn:l[i]? =some n:=by
   have:(l.drop i)[0]? =some n:=by rw[hd];rfl
   simpa using this
  have hlt:i<l.length:=(NV.1 hn).1;have hd':l.drop (i+1)=rest:=by rw[<-List.drop_drop,hd];rfl
  have hkn:=hk n (WW hn);have hin:=afA l o hn hl hkn hst hs n.kids.length (i:Int) (zaQ _) ak ak;rw[List.take_length] at hin;have hks:ks (n::rest)=n.kids::ks rest:=rfl;rw[hks,mY,hs];have hstep:M.F5 (dD o l) ((i:Int),encI st)=some (match jv st n.kids.reverse ((i:Int) - 1) with
    |none=> .inr (.inl ())
    |some a=> .inl (((i+1:Nat):Int),encI (st++[a+1]))):=by
   simp only[yH,M.F5,M.Ai,fP,dn,mG,hn,Nw,ah,Vz,eH];rw[zdt ak,aG,aS (n:=(n.kids.length:Int) - 1) ak ak,hin];cases hw:jv st n.kids.reverse ((i:Int) - 1) with
   |none=>rfl
   |some a=>simp only[ah,jX,letE,GK];rw[bC ak,aG,bC ak,aG,aS ak ak];simp[encI]
  cases hw:jv st n.kids.reverse ((i:Int) - 1) with
  |none=>rw[hw] at hstep;exact aT hstep
  |some a=>rw[hw] at hstep;rw[M.wo,cu hstep];have hr:=Qn hst _ _ _ ak ak hw;have:=adA l o hl hk rest (i+1) (st++[a+1]) hd' (by simp[hs]) hlt (Xq hst hr.1 hr.2);rw[M.wo] at this;exact this
def Y5(l:List Nd)(o:Bool)(hl:l.length<=1048576)(hk:∀n,n∈l->n.kids.length<=1048576):M.wQ (dD o l)=some (Hw l):=by
 simp only[M.wQ,M.Oy,Yt,ah,fP]
 by_cases h1:1<=l.length/\l.length<=400
 ·have hb:(decide ((1:Int)<=(l.length:Int)) && decide ((l.length:Int)<=400))=true:=by simp;omega
  rw[hb,zaP,aQ];have h:=adA l o hl hk l 0 [] rfl rfl (Nat.zero_le _) ZU;have e0:((0:Nat):Int)=0:=rfl;rw[e0] at h;simp only[M.DJ,M.LC];rw[show([]:ay)=encI [] from rfl,h,Hw,GV,if_pos (by rw[Qm];exact h1)];cases hs:mY [] (ks l) with
  |none=>rfl
  |some r=>
   have hrl:r.length=l.length:=by have:=ake _ _ _ hs;rw[Qm] at this;simpa using this
   simp only[ah,jX,letE,Ez,aG];rw[aS ak ak,show(l.length:Int) - 1=((l.length - 1:Nat):Int) by omega];simp only[aj1,dn,Ey,Zt];rw[List.getElem?_eq_getElem ak];simp only[Nw,ah,Zq,Option.getD_some]
 ·have hb:(decide ((1:Int)<=(l.length:Int)) && decide ((l.length:Int)<=400))=false:=by
   cases hq:(decide ((1:Int)<=(l.length:Int)) && decide ((l.length:Int)<=400)) with
   |false=>rfl
   |true=>simp at hq;omega
  rw[hb,Bool.not_false,aG,Hw,GV,if_neg (by rw[Qm];exact h1)]
def ant{st:List Int}(h:abM st):∀(l:List Int) (a r:Int),a<st.length->jv st l a=some r->∀k,k∈l->0<=k/\k<st.length
 |[],a,r,h1,e,k,hk=>absurd hk List.not_mem_nil
 |x::l,a,r,h1,e,k,hk=>by
  rw[jv] at e;split at e
  ·cases e
  ·rename_i hc;have hz:=Xo h x.toNat;rcases List.mem_cons.1 hk with rfl|hk
   ·omega
   ·exact ant h l _ r ak e k hk
def ahS:∀(l:List (List Int)) (st r:List Int),abM st->mY st l=some r->∀(i:Nat) n,l[i]? =some n->∀k,k∈n->0<=k/\k<st.length+i
 |[],st,r,h0,h,i,n,hn=>by simp at hn
 |m::l,st,r,h0,h,i,n,hn=>by
  rw[mY] at h;split at h
  ·cases h
  ·rename_i a ha;have hr:=Qn h0 _ _ _ ak ak ha;cases i with
   |zero=>simp only[List.getElem?_cons_zero,jW] at hn;subst hn;intro k hk;have:=ant h0 _ _ _ ak ha k (List.mem_reverse.2 hk);omega
   |succ i=>simp only[List.getElem?_cons_succ] at hn;intro k hk;have:=ahS l _ r (Xq h0 hr.1 hr.2) h i n hn k hk;simp at this;omega
def anu{l:List Nd}(h:Hw l=true):1<=l.length/\l.length<=400:=by
 unfold Hw at h;cases hs:GV (ks l) with
 |none=>rw[hs] at h;cases h
 |some r=>
  unfold GV at hs;split at hs
  ·rename_i hq;rw[Qm] at hq;exact hq
  ·cases hs
def adB:∀(l:List (List Int)) (st r:List Int),mY st l=some r->∃t,r=st++t
 |[],st,r,h=>by rw[mY] at h;cases h;exact⟨[],by simp⟩
 |n::l,st,r,h=>by
  rw[mY] at h;split at h
  ·cases h
  ·obtain⟨t,ht⟩:=adB l _ r h;exact⟨_,by rw[ht,Qc]⟩
def arS{st t:List Int}(h:abM st):∀(ks:List Int) (a:Int),a<st.length->jv (st++t) ks a=jv st ks a
 |[],a,_=>rfl
 |k::ks,a,ha=>by
  rw[jv,jv];split
  ·rfl
  ·rename_i hc;have hk:k.toNat<st.length:=ak;have e:(st++t)[k.toNat]? =st[k.toNat]? :=List.getElem?_append_left hk;rw[e];have hz:=Xo h k.toNat;exact arS h ks _ ak
def anv:∀(l:List (List Int)) (st r:List Int),abM st->mY st l=some r->∀(i:Nat) n,l[i]? =some n->∃a,jv r n.reverse ((st.length:Int)+i - 1)=some a/\r[st.length+i]? =some (a+1)
 |[],st,r,h0,h,i,n,hn=>by simp at hn
 |m::l,st,r,h0,h,i,n,hn=>by
  rw[mY] at h;split at h
  ·cases h
  ·rename_i a ha;have hr:=Qn h0 _ _ _ ak ak ha;obtain⟨t,ht⟩:=adB l _ r h;cases i with
   |zero=>
    simp only[List.getElem?_cons_zero,jW] at hn;subst hn;refine⟨a, ?_, ?_⟩
    ·rw[ht,Qc,arS h0 _ _ (by simp;omega)];simpa using ha
    ·rw[ht];simp
   |succ i=>
    simp only[List.getElem?_cons_succ] at hn;obtain⟨b,h1,h2⟩:=anv l _ r (Xq h0 hr.1 hr.2) h i n hn;refine⟨b, ?_, ?_⟩
    ·rw[<-h1];congr 1;simp;omega
    ·rw[<-h2];congr 1;simp;omega
def aa9:List Int->Int
 |[]=>0
 |x::l=>x+aa9 l
def ahT:∀(a b:List Int),aa9 (a++b)=aa9 a+aa9 b
 |[],b=>by simp[aa9]
 |x::a,b=>by rw[zca,aa9,aa9,ahT a b];omega
def afB:∀l:List Int,aa9 l.reverse=aa9 l
 |[]=>rfl
 |x::l=>by rw[List.reverse_cons,ahT,afB l];simp[aa9];omega
def sz(r:List Int)(k:Int):Int:=k - (r[k.toNat]?.getD 0)+1
def arU(r:List Int):∀(ks:List Int) (a b:Int),jv r ks a=some b->aa9 (ks.map (sz r))=a - b
 |[],a,b,h=>by rw[jv] at h;cases h;simp[aa9]
 |k::ks,a,b,h=>by
  rw[jv] at h;split at h
  ·cases h
  ·rename_i hc;have:=arU r ks _ b h;rw[zmc,aa9,this,sz];omega
structure Val(l:List Nd)(r:List Int):Prop where
 st:mY [] (ks l)=some r
 pos:1<=l.length
 le:l.length<=400
def aud{l:List Nd}(h:Hw l=true):∃r,Val l r:=by
 have hl:=anu h;unfold Hw at h;cases hs:GV (ks l) with
 |none=>rw[hs] at h;cases h
 |some r=>
  unfold GV at hs;split at hs
  ·exact⟨r,hs,hl.1,hl.2⟩
  ·cases hs
section
variable {l:List Nd} {r:List Int}
def Val.ok(h:Val l r):abM r:=amO _ _ _ ZU h.st
def Val.kids(h:Val l r){i:Nat}{n:Nd}(hn:l[i]? =some n):∀k,k∈n.kids->0<=k/\k<i:=by have:=ahS _ _ _ ZU h.st i n.kids (by simp[ks,hn]);simpa using this
def Val.sum(h:Val l r){i:Nat}{n:Nd}(hn:l[i]? =some n):aa9 (n.kids.map (sz r))+1=sz r i:=by obtain⟨a,h1,h2⟩:=anv _ _ _ ZU h.st i n.kids (by simp[ks,hn]);have:=arU r _ _ _ h1;rw[List.map_reverse,afB] at this;simp at h2;rw[this,sz,Zt,h2];simp;omega
def Val.aAn(h:Val l r){k:Int}(h0:0<=k):1<=sz r k/\sz r k<=k+1:=by have:=Xo h.ok k.toNat;rw[sz];omega
end
def ao0(l:List Nd)(i:Nat):List Int:=match l[i]? with|some n=>n.kids|none=>[]
def abA{l:List Nd}{i:Nat}{n:Nd}(h:l[i]? =some n):ao0 l i=n.kids:=by rw[ao0,h]
def mx:Int->List Int->Int
 |a,[]=>a
 |a,x::l=>mx (bif decide (a<x) then x else a) l
def abb(B:Int):∀(l:List Int) (a:Int),a<=B->(∀x,x∈l->x<=B)->a<=mx a l/\mx a l<=B
 |[],a,h,_=>⟨Int.le_refl _,h⟩
 |x::l,a,h,hl=>by
  have hx:=hl x zmf;rw[mx]
  by_cases c:a<x
  ·rw[zdt c,aG];have:=abb B l x hx λy hy=>hl y (zmm _ hy)
   omega
  ·rw[vG c,aQ];exact abb B l a h λy hy=>hl y (zmm _ hy)
def ao1:∀(l:List Int) (a x:Int),mx a (l++[x])=(bif decide (mx a l<x) then x else mx a l)
 |[],a,x=>rfl
 |y::l,a,x=>by rw[zca,mx,mx,ao1 l]
def aAo:∀(l:List Int) (a:Int),mx (1+a) (l.map λd=>1+d)=1+mx a l
 |[],a=>rfl
 |x::l,a=>by
  rw[zmc,mx,mx,<-aAo l]
  by_cases c:a<x
  ·rw[zdt c,aG,zdt ak,aG]
  ·rw[vG c,aQ,vG ak,aQ]
def dep(l:List Nd):Nat->Nat->Int
 |0,_=>0
 |f+1,i=>mx 0 ((ao0 l i).map λk=>dep l f k.toNat)+1
def anw(l:List Nd):∀f i,0<=dep l f i/\dep l f i<=f
 |0,i=>by simp[dep]
 |f+1,i=>by have:=abb (f:Int) ((ao0 l i).map λk=>dep l f k.toNat) 0 ak (λx hx=>by obtain⟨k,_,rfl⟩:=List.mem_map.1 hx;exact(anw l f k.toNat).2);rw[dep];omega
section
variable {l:List Nd} {r:List Int} {o:Bool}
def arV(h:Val l r):∀(f f' i:Nat),i<f->i<f'->i<l.length->dep l f i=dep l f' i
 |0,_,i,h1,_,_=>absurd h1 (Nat.not_lt_zero _)
 |f+1,0,i,_,h2,_=>absurd h2 (Nat.not_lt_zero _)
 |f+1,f'+1,i,h1,h2,h3=>by
  obtain⟨n,hn⟩:∃n,l[i]? =some n:=⟨l[i],by simp⟩
  rw[dep,dep,abA hn];congr 2;refine List.map_congr_left λk hk=> ?_
  have hkr:=h.kids hn k hk;exact arV h f f' k.toNat ak ak ak
def akN(l:List Nd)(i:Nat):List Int:=(List.range i).map λj=>dep l (j+1) j
def aAp(l:List Nd)(i:Nat):(akN l i).length=i:=by simp[akN]
def arW(l:List Nd){i j:Nat}(h:j<i):(akN l i)[j]? =some (dep l (j+1) j):=by simp[akN,List.getElem?_range h]
def axR(l:List Nd)(i:Nat):akN l (i+1)=akN l i++[dep l (i+1) i]:=by simp[akN,List.range_succ]
def arX(h:Val l r){i:Nat}{n:Nd}(hn:l[i]? =some n)(hk:n.kids.length<=1048576):M.GY (dD o l) (i:Int) (encI (akN l i)) (1,0)=some (dep l (i+1) i,(n.kids.length:Int)):=by
 have hil:=(NV.1 hn).1;have hle:=h.le;have hdk:∀k,k∈n.kids->dep l i k.toNat=dep l (k.toNat+1) k.toNat:=λk hkm=>by have:=h.kids hn k hkm;exact arV h _ _ _ ak ak ak
 have hval:∀(j:Nat),(1:Int)+mx 0 ((n.kids.take j).map λk=>dep l i k.toNat)=mx 1 ((n.kids.take j).map λk=>1+dep l i k.toNat):=λj=>by have:=aAo ((n.kids.take j).map λk=>dep l i k.toNat) 0;rw[List.map_map] at this;exact this.symm
 have hloop:=vW (b:=M.H9 (dD o l) (i:Int) (encI (akN l i))) (t:=(dep l (i+1) i,(n.kids.length:Int))) (λj=>(mx 1 ((n.kids.take j).map λk=>1+dep l i k.toNat),(j:Int))) n.kids.length
  (by
   intro j hj;obtain⟨k,hkj⟩:∃k,n.kids[j]? =some k:=⟨n.kids[j],by simp⟩
   have hkm:=WW hkj;have hkr:=h.kids hn k hkm;obtain⟨q,hq⟩:∃q:Nat,k=q:=⟨k.toNat,ak⟩
   have hd:=hdk k hkm;have hr:=anw l (q+1) q;subst hq;rw[Zt] at hd;simp only[M.H9,M.CB,dn,mG,hn,Nw,ah,Vz,eH,Ey,hkj,Zq,Zt,arW l (show q<i by omega)];rw[zdt ak,aG,aS (n:=(j:Int)+1) ak ak,aS (n:=1+dep l (q+1) q) ak ak,List.take_add_one,hkj,Option.toList_some,List.map_append,zmc,List.map_nil,ao1,Zt,hd];rfl)
  (by simp only[M.H9,M.CB,dn,mG,hn,Nw,ah,Vz,eH];rw[vG ak,aQ,<-hval,List.take_length,dep,abA hn,Int.add_comm]) 0 (Nat.zero_le _)
 rw[M.GY];exact hloop
def depth(l:List Nd):Int:=if Hw l then dep l l.length (l.length - 1) else 0
def Y6(l:List Nd)(o:Bool)(hl:l.length<=1048576)(hk:∀n,n∈l->n.kids.length<=1048576):M.wR (dD o l)=some (depth l):=by
 simp only[M.wR,M.Oz,Y5 l o hl hk,ah,fP,depth];cases hs:Hw l with
 |false=>rfl
 |true=>
  obtain⟨r,h⟩:=aud hs;have h1:=h.pos;have h2:=h.le;have hloop:=vW (b:=M.Ia (dD o l)) (t:=((l.length:Int),encI (akN l l.length))) (λi=>((i:Int),encI (akN l i))) l.length
   (by
    intro i hi;obtain⟨n,hn⟩:∃n,l[i]? =some n:=⟨l[i],by simp⟩
    have hin:=arX (o:=o) h hn (hk n (WW hn));simp only[yH,M.Ia,M.CG,fP,hin,ah,eH,aAp,GK];rw[zdt ak,aG,bC ak,aG,bC ak,aG,aS ak ak,axR];simp[encI])
   (by simp only[yH,M.Ia,M.CG,fP];rw[vG ak,aQ]) 0 (Nat.zero_le _)
  have MZ:M.LD (dD o l) (0,[])=_:=hloop;rw[zaP,aQ,MZ,ah,aS ak ak,show(l.length:Int) - 1=((l.length - 1:Nat):Int) by omega,if_pos rfl];simp only[dn,Zt,Ey,arW l (show l.length - 1<l.length by omega),Nw,ah,Zq];rw[show l.length - 1+1=l.length by omega]
def aue(l:List Nd)(i:Nat):Nd:=match l[i]? with|some n=>n|none=>⟨0,0,[],[],[]⟩
def akO:∀rows:ay,aB rows=rows.map Fh
 |[]=>rfl
 |x::rows=>by rw[aB,akO rows,zmc]
end
def Yu{α:Type}(p:Nat->α->Bool):List α->Nat->Bool
 |[],_=>true
 |x::l,i=>p i x && Yu p l (i+1)
def akP{α:Type}(l:List α)(p:Nat->α->Bool){b:Int->Option (Int⊕(Unit⊕Int))}
  (hb:∀(i:Nat) x,l[i]? =some x->b (i:Int)=some (bif p i x then .inl ((i:Int)+1) else .inr (.inl ()))) (he:b (l.length:Int)=some (.inr (.inr (l.length:Int)))):
  fJ b 0=some (bif Yu p l 0 then .inr (l.length:Int) else .inl ()):=by
 have key:∀(t:List α) (i:Nat),l.drop i=t->i<=l.length->fJ b (i:Int)=some (bif Yu p t i then .inr (l.length:Int) else .inl ()):=by
  intro t;induction t with
  |nil=>
   intro i hd hi;have:i=l.length:=by have:=congrArg List.length hd;simp at this;omega
   subst this;exact aT he
  |cons x t ih=>
   intro i hd hi;have hx:l[i]? =some x:=by
    have:(l.drop i)[0]? =some x:=by rw[hd];rfl
    simpa using this
   have hlt:i<l.length:=(NV.1 hx).1;have hd':l.drop (i+1)=t:=by rw[<-List.drop_drop,hd];rfl
   have hs:=hb i x hx;rw[Yu];cases hw:p i x with
   |true=>rw[hw,aG] at hs;rw[cu hs,show(i:Int)+1=((i+1:Nat):Int) by omega,ih (i+1) hd' hlt,Bool.true_and]
   |false=>rw[hw,aQ] at hs;rw[aT hs];rfl
 exact key l 0 rfl (Nat.zero_le _)
noncomputable def fOk(n:Nd):Bool:=(M.bJ n.kind n.op n.text n.other (encI n.kids)).getD false
noncomputable def kOk(n:Nd)(j:Int)(d:Int):Bool:=(M.dN n.kind n.op n.text n.other (encI n.kids) j d).getD false
structure Small(n:Nd):Prop where
 text:n.text.length<=1048576
 other:n.other.length<=1048576
def aAq{n:Nd}(hs:Small n)(hk:n.kids.length<=400):M.bJ n.kind n.op n.text n.other (encI n.kids)=some (fOk n)/\True:=by obtain⟨b,h1,h2⟩:=arR n.kind n.op n.text n.other (encI n.kids) hs.text hs.other (by rw[eH];exact hk);rw[fOk,h1];exact⟨rfl,h2⟩
def aAr{n:Nd}(hs:Small n)(hk:n.kids.length<=400)(hf:fOk n=true)(j:Nat)(hj:j<n.kids.length)(d:Int):
  M.dN n.kind n.op n.text n.other (encI n.kids) (j:Int) d=some (kOk n j d)/\True:=by
 obtain⟨b,h1,h2⟩:=aJp n.kind n.op n.text n.other (encI n.kids) (j:Int) d;rw[kOk,h1];exact⟨rfl,h2⟩
def av1:∀(l:List Int),(∀x,x∈l->1<=x)->(l.length:Int)<=aa9 l
 |[],_=>by simp[aa9]
 |x::l,h=>by
  have:=av1 l λy hy=>h y (zmm _ hy)
  have:=h x zmf;simp only[yS,aa9];omega
section
variable {l:List Nd} {r:List Int} {o:Bool}
def Val.akQ(h:Val l r){i:Nat}{n:Nd}(hn:l[i]? =some n):n.kids.length<=400:=by have hil:=(NV.1 hn).1;have h1:=h.sum hn;have h2:=av1 (n.kids.map (sz r)) (λx hx=>by obtain⟨k,hk,rfl⟩:=List.mem_map.1 hx;exact(h.aAn (h.kids hn k hk).1).1);rw[zaR] at h2;have h3:=(h.aAn (k:=(i:Int)) ak).2;have:=h.le;omega
def Val.aAs(h:Val l r):∀n,n∈l->n.kids.length<=400:=λn hn=>by obtain⟨i,hi⟩:=List.mem_iff_getElem?.1 hn;exact h.akQ hi
noncomputable def kp(l:List Nd)(n:Nd)(j:Nat)(k:Int):Bool:=kOk n j (aue l k.toNat).kind
def auf(h:Val l r)(hsm:∀n,n∈l->Small n){i:Nat}{n:Nd}(hn:l[i]? =some n)(hf:fOk n=true)(v10:ay)(v11 v12:Int):
  M.I9 (dD o l) (i:Int) 0=some (bif Yu (kp l n) n.kids 0 then .inr (n.kids.length:Int) else .inl ())/\
  True:=by
 have hkl:=h.akQ hn;have hs:=hsm n (WW hn);have step:∀(j:Nat) k,n.kids[j]? =some k->∃(q:Nat) (m:Nd),k=(q:Int)/\l[q]? =some m/\(aue l k.toNat).kind=m.kind:=by
  intro j k hj;have hkr:=h.kids hn k (WW hj);have hil:=(NV.1 hn).1;obtain⟨q,hq⟩:∃q:Nat,k=q:=⟨k.toNat,ak⟩
  obtain⟨m,hm⟩:∃m,l[q]? =some m:=⟨l[q]'ak,by simp⟩
  refine⟨q,m,hq,hm, ?_⟩;rw[hq,Zt,aue,hm]
 constructor
 ·rw[M.I9];refine akP n.kids (kp l n) (λj k hj=> ?_) ?_
  ·obtain⟨q,m,hq,hm,he⟩:=step j k hj;have hjl:=(NV.1 hj).1;have hok:=(aAr hs hkl hf j hjl m.kind).1;rw[kp,he];subst hq;simp only[yH,M.Qr,M.EN,dn,mG,hn,hm,Nw,ah,Yk,YS,YT,YU,Vz,eH,Ey,hj,Zq,hok];rw[zdt ak,aG,aS ak ak];cases kOk n j m.kind<;>rfl
  ·simp only[yH,M.Qr,M.EN,dn,mG,hn,Nw,ah,Vz,eH];rw[vG ak,aQ]
 ·trivial
noncomputable def np(l:List Nd)(_:Nat)(n:Nd):Bool:=fOk n && Yu (kp l n) n.kids 0
def arY(h:Val l r)(hsm:∀n,n∈l->Small n):
  M.Ja (dD o l) 0=some (bif Yu (np l) l 0 then .inr (l.length:Int) else .inl ())/\
  True:=by
 have hle:=h.le;constructor
 ·rw[M.Ja];refine akP l (np l) (λi n hi=> ?_) ?_
  ·have hil:=(NV.1 hi).1;have hf:=(aAq (hsm n (WW hi)) (h.akQ hi)).1;simp only[yH,M.Qs,M.EO,fP,dn,mG,hi,Nw,ah,Yk,YS,YT,YU,Vz,hf,np];rw[zdt ak,aG,aS ak ak];cases hff:fOk n with
   |false=>rfl
   |true=>have:=(auf (o:=o) h hsm hi hff [] 0 0).1;rw[zaP,aQ,this,ah];cases Yu (kp l n) n.kids 0<;>rfl
  ·simp only[yH,M.Qs,M.EO,fP];rw[vG ak,aQ]
 ·trivial
end
noncomputable def KH(l:List Nd):Bool:=Hw l &&(decide (depth l<=40) && Yu (np l) l 0)
section
variable (l:List Nd) (o:Bool) (hl:l.length<=1048576) (hk:∀n,n∈l->n.kids.length<=1048576) (hsm:∀n,n∈l->Small n)
include hl hk hsm
theorem abd:M.zM (dD o l)=some (KH l):=by
 simp only[M.zM,M.Q9,Y5 l o hl hk,Y6 l o hl hk,ah,KH];cases hs:Hw l with
 |false=>rfl
 |true=>
  obtain⟨r,h⟩:=aud hs;rw[zaP,aQ,(arY (o:=o) h hsm).1,ah,Bool.true_and]
  by_cases hd:depth l<=40
  ·rw[vG (show¬depth l>40 by omega),aQ,zdt hd,Bool.true_and];cases Yu (np l) l 0<;>rfl
  ·rw[zdt (show depth l>40 by omega),aG,vG hd];rfl
theorem arZ(ht:KH l=true):∃n,l.getLast? =some n/\idx (dD o l) (i64.wrap ((l.length:Int) - 1))=some (PO o n):=by
 unfold KH at ht;rw[rZ] at ht;have hp:=anu ht.1;have hn:l≠[]:=by rintro rfl;simp at hp
 obtain⟨n,hn⟩:∃n,l.getLast? =some n:=⟨_,List.getLast?_eq_some_getLast hn⟩
 have hn':l[l.length - 1]? =some n:=by rw[<-List.getLast?_eq_getElem?];exact hn
 refine⟨n,hn, ?_⟩;rw[aS ak ak,show(l.length:Int) - 1=((l.length - 1:Nat):Int) by omega,dn,mG,hn'];rfl
end
@[simp] theorem aKI(l:List Int):KP (encI l)=true:=by
 induction l with
 |nil=>rfl
 |cons x l ih=>simp only[encI,zmc] at ih|-;simp[KP,dw,D.pure,ih]
@[simp] theorem aKJ(l:List Int):[[D.sl true 1 (encI l)]].all dw=true:=by simp[dw,D.pure]
def Kt(o:Bool)(a b:List Nd):dD o (a++b)=dD o a++dD o b:=by simp[dD]
def aug(w:Bool):∀t:Tn,t.row w=[.int .i64 t.kind,.int .i64 t.op,.str t.text,.str t.other,.sl w 5 (dG w t.kids)]
 | .mk k o x y ks=>rfl
def zJ(w:Bool)(a b:List Tn):dG w (a++b)=dG w a++dG w b:=by simp[Xn]
def dh(w:Bool)(a:List Tn):(dG w a).length=a.length:=by simp[Xn]
def qW{α:Type}{l:List α}{j:Nat}{t:α}(h:l[j]? =some t):l.take (j+1)=l.take j++[t]:=by rw[List.take_add_one,h];rfl
def ar0{α:Type}{l:List α}{j:Nat}{t:α}(h:l[j]? =some t):l=l.take j++t::l.drop (j+1):=by obtain⟨hj,rfl⟩:=NV.1 h;rw[<-List.drop_eq_getElem_cons hj,List.take_append_drop]
def Nh{ks:List Tn}{j:Nat}{t:Tn}(h:ks[j]? =some t):sizes (ks.take j)+t.size<=sizes ks:=by have:=congrArg sizes (ar0 h);rw[nH,sizes] at this;omega
section
variable {l:List Nd} {b:Nat} {k op:Int} {x y:aC} {ks:List Tn}
def Lies.aes(h:Lies l b (.mk k op x y ks)){j:Nat}{t:Tn}(hj:ks[j]? =some t):Lies l (b+sizes (ks.take j)) t:=by have e:=ar0 hj;rw[e] at h;exact h.kid
def afC{j:Nat}{t:Tn}(hj:ks[j]? =some t):(ends ks b)[j]? =some ((b+sizes (ks.take j)+sizes t.kids:Nat):Int):=by have hlt:=(NV.1 hj).1;have hs:=t.aby;rw[azu hlt,qW hj,nH,sizes,sizes];congr 1;omega
def Lies.root'{t:Tn}(h:Lies l b t):l[b+sizes t.kids]? =some ⟨t.kind,t.op,t.text,t.other,ends t.kids b⟩:=by cases t;exact h.root
def agU{j:Nat}{t:Tn}(hj:ks[j]? =some t):ends (ks.take (j+1)) b=ends (ks.take j) b++[((b+sizes (ks.take j)+t.size:Nat):Int) - 1]:=by rw[qW hj,VO,ends,ends];congr 2<;>omega
def aeu{j:Nat}{t:Tn}(hj:ks[j]? =some t):jU (ks.take (j+1)) b=jU (ks.take j) b++t.flat (b+sizes (ks.take j)):=by rw[qW hj,Oe,jU,jU,List.append_nil]
def ends_range:∀(ks:List Tn) (b:Nat),∀e,e∈ends ks b->(b:Int)<=e/\e<b+sizes ks
 |[],b,e,h=>by simp[ends] at h
 |t::ts,b,e,h=>by
  have hp:=t.size_pos;rw[ends] at h;have hs:(sizes (t::ts):Int)=t.size+sizes ts:=by rw[sizes];omega
  rcases List.mem_cons.1 h with rfl|h
  ·omega
  ·have:=ends_range ts _ e h;omega
end
mutual
def Uu:∀(t:Tn) (b:Nat),∀n,n∈t.flat b->n.kids.length<=t.size/\∀e,e∈n.kids->(0:Int)<=e/\e<b+t.size
 | .mk k o x y ks,b,n,h=>by
  rw[Tn.flat] at h;rw[Tn.size];rcases List.mem_append.1 h with h|h
  ·have:=akR ks b n h;exact⟨ak,λe he=>by have:=this.2 e he;omega⟩
  ·simp only[List.mem_singleton] at h;subst h;refine⟨by simp only[jr];have:=BN ks;omega,λe he=> ?_⟩;have:=ends_range ks b e he;omega
def akR:∀(ks:List Tn) (b:Nat),∀n,n∈jU ks b->n.kids.length<=sizes ks/\∀e,e∈n.kids->(0:Int)<=e/\e<b+sizes ks
 |[],b,n,h=>by simp[jU] at h
 |t::ts,b,n,h=>by
  rw[jU] at h;rw[sizes];rcases List.mem_append.1 h with h|h
  ·have:=Uu t b n h;exact⟨ak,λe he=>by have:=this.2 e he;omega⟩
  ·have:=akR ts _ n h;exact⟨ak,λe he=>by have:=this.2 e he;omega⟩
end
structure Ps where
 level:Int
 yQ:Bool
 Ad:Bool
 Du:Bool
 ng:Bool
 deriving DecidableEq,Inhabited
def Ps.top:Ps:=⟨1,false,false,false,false⟩
def Ps.zero:Ps:=⟨0,false,false,false,false⟩
def iT(op:Int):Int:=bif op==44 then 3 else bif op==45 then 4 else bif op==67||op==46 then 6 else
 bif op==63||(op==48||(op==47||(op==50||(op==62||op==49)))) then 7 else bif op==99 then 8 else bif op==55||op==56 then 9 else
 bif op==57||(op==58||op==59) then 10 else bif op==60 then 12 else 0
def lvl(k op:Int):Int:=bif k==15 then 1 else bif k==14 then 2 else bif k==13 then 5 else bif k==12 then iT op else bif k==11 then 11 else
 bif k==9||k==10 then 13 else bif k==6 then 14 else bif k==1||(k==2||(k==3||(k==4||(k==5||(k==7||k==8))))) then 15 else 0
def jL(p:Ps):Bool:=(decide (1<=p.level) && decide (p.level<=15)) &&(!p.yQ||p.level==14)
def fits(k op:Int)(p:Ps):Bool:=bif !(jL p)||lvl k op==0 then false else bif p.Ad && k==13 then false else bif p.Du &&(k==12 && op==62) then false else
 bif p.ng &&(k==11||(k==9||k==4)) then false else(p.yQ && k==9)||decide (p.level<=lvl k op)
def sides(op:Int):Int×Int:=bif iT op==3 then(3,4) else bif iT op==4 then(4,5) else bif iT op==6 then(7,7) else bif iT op==7 then(8,8) else
 bif iT op==8 then(8,9) else bif iT op==9 then(9,10) else bif iT op==10 then(10,11) else(13,11)
def abe(k op:Int)(j:Nat):Int:=bif k==15 then(bif Nat.beq j 0 then 14 else 1) else bif k==14 then(bif Nat.beq j 0 then 3 else 2) else bif k==13 then 5 else bif k==11 then 11 else
 bif k==12 then(bif Nat.beq j 0 then(sides op).1 else(sides op).2) else 14
def aU(k op:Int)(n j:Nat)(p:Ps):Ps:=bif !(jL p)||(!(Nat.blt j n)||lvl k op==0) then .zero else bif lvl k op==15||(k==13 && Nat.blt 1 n) then .top else
 ⟨abe k op j,k==6,p.Ad,p.Du,bif k==11||(k==9||(k==10||k==6)) then false else(Nat.beq j 0 && p.ng)||(Nat.beq j 1 &&(k==12 && op==99))⟩
def kM(k:Int)(j:Nat):Bool:=Nat.beq j 0 &&(k==9||(k==10||k==15))
def tok(k:Int):Tk:=⟨k,spell k,0⟩
def uX:Bool->List (List Tk)->List Tk
 |_,[]=>[]
 |b,x::l=>(bif b then x else tok 36::x)++uX false l
def IK{α:Type}(L:List (List α))(j:Nat):List α:=(L[j]?).getD []
def D8(k op:Int)(n:Nat)(x:aC)(L:List (List Tk)):List Tk:=
 bif k==1 then[⟨6,x,0⟩] else bif k==2 then[⟨3,x,0⟩] else bif k==3 then[⟨4,x,0⟩] else bif k==4 then[⟨5,x,0⟩] else
 bif k==5 then⟨6,x,0⟩::tok 34::(uX true L++[tok 35]) else bif k==7 then⟨7,x,0⟩::tok 32::(uX true L++[tok 33]) else bif k==8 then⟨8,x,0⟩::tok 32::(uX true L++[tok 33]) else
 bif k==9||k==11 then tok op::IK L 0 else bif k==6 then tok 68::IK L 0 else bif k==10 then IK L 0++[tok op] else
 bif k==13 then(bif Nat.blt 1 n then tok 32::(uX true L++[tok 33]) else IK L 0)++[tok 24,⟨6,x,0⟩] else
 bif k==14 then IK L 0++(tok 65::(IK L 1++(tok 66::IK L 2))) else IK L 0++((bif op==99 then[] else[tok op])++IK L 1)
mutual
def mV:Tn->Ps->List Tk
 | .mk k op x _ ks,p=>D8 k op ks.length x (fF k op ks.length p ks 0)
def fF(k op:Int)(n:Nat)(p:Ps):List Tn->Nat->List (List Tk)
 |[],_=>[]
 |t::ts,j=>(bif kM k j||fits t.kind t.op (aU k op n j p) then mV t (aU k op n j p) else tok 32::(mV t .top++[tok 33]))::fF k op n p ts (j+1)
end
def lu(t:Tn)(p:Ps):List Tk:=bif fits t.kind t.op p then mV t p else tok 32::(mV t .top++[tok 33])
def GN(s:aC):Tn:=.mk 1 0 s [] []
def Wj:Tn:=.mk 2 0 [] [] []
def adC(d:Tn):Tn:=.mk 4 4 [] [] [d]
def ar1(d:Tn):Tn:=.mk 5 0 [] [] [d]
def D9(l:List Tn):Tn:=.mk 6 0 [] [] l
def Qw:Bool->List Tn->List Tn
 |_,[]=>[]
 |b,x::l=>(bif b then[x] else[GN [44],Wj,x])++Qw false l
def XJ(L:List Tn):Tn:=ar1 (adC (D9 (Qw true L)))
def Pv(L:List Tn)(j:Nat):Tn:=(L[j]?).getD (GN [])
def KZ(s:aC):List (aC)->Nat->Nat
 |[],m=>m
 |g::l,m=>KZ s l (bif Nat.blt m g.length && g.isPrefixOf s then g.length else m)
def lastB(s:aC):Int:=match s.getLast? with|some c=>(c.toNat:Int)|none=> -1
def rY(s:aC):Int:=match s with|c::_=>(c.toNat:Int)|[]=> -1
def AZ(a b:Tk):Bool:=
 bif a.text==[]||(b.text==[]||(a.kind==2||(a.kind==1||b.kind==1))) then false else
 bif Vf (lastB a.text) && Vf (rY b.text) then true else
 bif a.kind==3 &&(Vf (rY b.text)||rY b.text==46) then true else
 bif a.kind==6 && b.kind==32 then true else
 bif !(decide (30<=a.kind) && decide (a.kind<=68)) then false else Nat.blt a.text.length (KZ (a.text++b.text) vT 0)
def abZ(k op:Int)(n:Nat)(x:aC)(gap:Bool)(L:List Tn):Tn:=
 bif k==1||(k==2||(k==3||k==4)) then GN x else bif k==5 then D9 [GN (x++[91]),XJ L,GN [93]] else
 bif k==7||k==8 then D9 [GN (x++[40]),XJ L,GN [41]] else bif k==9 then D9 [GN (spell op),Pv L 0] else bif k==10 then D9 [Pv L 0,GN (spell op)] else
 bif k==6 then D9 [GN [36],Pv L 0] else bif k==11 then D9 [GN (bif gap then spell op++[32] else spell op),Pv L 0] else
 bif k==14 then D9 [Pv L 0,GN [32,63,32],Pv L 1,GN [32,58,32],Pv L 2] else
 bif k==13 then(bif Nat.blt 1 n then D9 [GN [40],XJ L,GN ([41,32,105,110,32]++x)] else D9 [Pv L 0,GN ([32,105,110,32]++x)]) else
 bif k==12 && op==99 then D9 [Pv L 0,GN [32],Pv L 1] else
 bif k==12 &&(op==45||op==44) then ar1 (adC (D9 [Pv L 0,GN (32::spell op),Wj,Pv L 1])) else
 D9 [Pv L 0,GN ((32::spell op)++[32]),Pv L 1]
def ar2(op:Int)(L:List (List Tk)):Bool:=match L with
 |(b::_)::_=>AZ (tok op) b
 |_=>false
mutual
def zX:Tn->Ps->Tn
 | .mk k op x _ ks,p=>abZ k op ks.length x (ar2 op (fF k op ks.length p ks 0)) (nZ k op ks.length p ks 0)
def nZ(k op:Int)(n:Nat)(p:Ps):List Tn->Nat->List Tn
 |[],_=>[]
 |t::ts,j=>(bif kM k j||fits t.kind t.op (aU k op n j p) then zX t (aU k op n j p) else D9 [GN [40],zX t .top,GN [41]])::nZ k op n p ts (j+1)
end
def P9(t:Tn)(p:Ps):Tn:=bif fits t.kind t.op p then zX t p else D9 [GN [40],zX t .top,GN [41]]
def akS(p:Ps)(L:List Tn):Tn:=XJ (L.map λt=>P9 t p)
structure Cnt(k op:Int)(y:aC)(n:Nat):Prop where
 one:k=6\/k=9\/k=10\/k=11\/k=20\/k=32\/k=40\/k=41->n=1
 two:k=12\/k=15\/k=29\/k=30->n=2
 some_:k=5\/k=13\/k=44->1<=n
 three:k=14->n=3
 four:k=31->n=4
 cnd:k=28->n=2\/n=3
 prn:k=21->(op=0\/op=1)/\(y≠[]->1<=n)
 wrd:k=23\/k=24->n<=1
 non:k=1\/k=2\/k=3\/k=4\/k=16\/k=22\/k=25\/k=26\/k=34->n=0
 rule:k=42->(op=1/\n=1)\/(op=2/\n=1)\/(op=3/\n=2)
 range:k=43->(op=1/\n=2)\/(op=3/\n=3)
 few:k≠33->k≠45->n<=7
 bin:k=12->iT op≠0/\op≠61
 asg:k=15->op=54\/(38<=op/\op<=43)
 stp:k=9\/k=10->op=51\/op=52
 una:k=11->op=55\/op=56\/op=61
def cls(k op:Int)(n j:Nat):Nat:=
 if k=9\/k=10\/(k=15/\j=0) then 6 else if k=28\/k=29 then(if j=0 then 0 else 1) else if k=30 then(if j=0 then 1 else 0) else
 if k=31 then(if j<3 then 3 else 1) else if k=32\/k=40\/k=41 then 1 else if k=33 then 2 else if k=42 then(if op=2\/(op=3/\j+1=n) then 1 else 0) else
 if k=43 then(if j=2 then 1 else 0) else if k=44 then(if j+1=n then 1 else 4) else if k=45 then 5 else 0
def Px(c:Nat)(d:Int):Prop:=match c with
 |0=>1<=d/\d<=15
 |1=>d=33
 |2=>20<=d/\d<=34
 |3=>d=16\/(1<=d/\d<=15)
 |4=>d=1
 |5=>(40<=d/\d<=44)\/d=34
 |_=>d=1\/d=5\/d=6
def aJq(k:Int):Prop:=(1<=k/\k<=16)\/(20<=k/\k<=34)\/(40<=k/\k<=45)
mutual
def Kz:Tn->Prop
 | .mk k op x y ks=>aJq k/\Cnt k op y ks.length/\oks k op ks.length ks 0
def oks(k op:Int)(n:Nat):List Tn->Nat->Prop
 |[],_=>True
 |t::ts,j=>Px (cls k op n j) t.kind/\(Kz t)/\oks k op n ts (j+1)
end
def av2{k op:Int}{n:Nat}:∀{ks:List Tn} {j i:Nat} {t:Tn},oks k op n ks j->ks[i]? =some t->Px (cls k op n (j+i)) t.kind/\(Kz t)
 |[],_,i,_,_,h=>by simp at h
 |u::ts,j,0,t,h,e=>by rw[oks] at h;cases e;exact⟨h.1,h.2.1⟩
 |u::ts,j,i+1,t,h,e=>by rw[oks] at h;rw[List.getElem?_cons_succ] at e;have:=av2 h.2.2 e;rw[show j+1+i=j+(i+1) by omega] at this;exact this
def agV{k op:Int}{x y:aC}{ks:List Tn}(h:(Kz (Tn.mk k op x y ks))){i:Nat}{t:Tn}(e:ks[i]? =some t):Px (cls k op ks.length i) t.kind/\(Kz t):=by
 rw[Kz] at h;have:=av2 h.2.2 e
 rwa [Nat.zero_add] at this
def Vg{k op:Int}{x y:aC}{ks:List Tn}(h:(Kz (Tn.mk k op x y ks))):Cnt k op y ks.length:=by rw[Kz] at h;exact h.2.1
def PW(t:Tn):Prop:=1<=t.kind/\t.kind<=15
def abf{k op:Int}{x y:aC}{ks:List Tn}(h:(Kz (Tn.mk k op x y ks)))(he:1<=k/\k<=15){i:Nat}{t:Tn}(e:ks[i]? =some t):(PW t)/\(Kz t):=by
 obtain⟨h1,h2⟩:=agV h e;refine⟨?_,h2⟩;unfold PW;have:cls k op ks.length i=6\/cls k op ks.length i=0:=by
  unfold cls;split
  ·exact .inl rfl
  ·repeat(rw[if_neg ak])
   exact .inr rfl
 rcases this with h|h<;>rw[h] at h1<;>simp only[Px] at h1<;>omega
def KI{a b lo hi:Int}(c:Bool)(ha:lo<=a/\a<=hi)(hb:lo<=b/\b<=hi):lo<=(bif c then a else b)/\(bif c then a else b)<=hi:=by cases c<;>assumption
def SA(op:Int):0<=iT op/\iT op<=12:=by unfold iT;exact KI _ ⟨by decide,by decide⟩ (KI _ ⟨by decide,by decide⟩ (KI _ ⟨by decide,by decide⟩ (KI _ ⟨by decide,by decide⟩ (KI _ ⟨by decide,by decide⟩ (KI _ ⟨by decide,by decide⟩ (KI _ ⟨by decide,by decide⟩ (KI _ ⟨by decide,by decide⟩ ⟨by decide,by decide⟩)))))))
def Ui{k op:Int}{y:aC}{n:Nat}(he:1<=k/\k<=15)(hc:Cnt k op y n):1<=lvl k op/\lvl k op<=15:=by
 obtain⟨h1,h2⟩:=he;have hk:k=1\/k=2\/k=3\/k=4\/k=5\/k=6\/k=7\/k=8\/k=9\/k=10\/k=11\/k=13\/k=14\/k=15\/k=12:=ak;rcases hk with rfl|rfl|rfl|rfl|rfl|rfl|rfl|rfl|rfl|rfl|rfl|rfl|rfl|rfl|rfl
 case inr.inr.inr.inr.inr.inr.inr.inr.inr.inr.inr.inr.inr.inr=>have hb:=(hc.bin rfl).1;have:=SA op;change 1<=iT op/\iT op<=15;omega
 all_goals simp[lvl]
def aev{a b:Int×Int}(c:Bool)(ha:(1<=a.1/\a.1<=14)/\1<=a.2/\a.2<=14)(hb:(1<=b.1/\b.1<=14)/\1<=b.2/\b.2<=14):(1<=(bif c then a else b).1/\(bif c then a else b).1<=14)/\1<=(bif c then a else b).2/\(bif c then a else b).2<=14:=by cases c<;>assumption
def ar4(op:Int):(1<=(sides op).1/\(sides op).1<=14)/\1<=(sides op).2/\(sides op).2<=14:=by unfold sides;exact aev _ (by decide) (aev _ (by decide) (aev _ (by decide) (aev _ (by decide) (aev _ (by decide) (aev _ (by decide) (aev _ (by decide) (by decide)))))))
def ao2(k op:Int)(j:Nat):1<=abe k op j/\abe k op j<=14:=by have h:=ar4 op;unfold abe;exact KI _ (KI _ (by decide) (by decide)) (KI _ (KI _ (by decide) (by decide)) (KI _ (by decide) (KI _ (by decide) (KI _ (KI _ h.1 h.2) (by decide)))))
def jF{k op:Int}{n j:Nat}{p:Ps}(hp:jL p=true)(hj:j<n)(hl:lvl k op≠0):jL (aU k op n j p)=true:=by
 have h1:Nat.blt j n=true:=by rw[Nat.blt_eq];exact hj
 have h2:(lvl k op==0)=false:=by simpa using hl
 unfold aU;rw[hp,h1,h2];simp only[zaP,Bool.or_false,aQ];cases(lvl k op==15||(k==13 && Nat.blt 1 n)) with
 |true=>rfl
 |false=>
  have hr:=ao2 k op j;simp only[aQ,jL];rw[zdt hr.1,zdt (show abe k op j<=15 by omega)]
  by_cases h6:k=6
  ·subst h6;rfl
  ·have:(k==6)=false:=by simpa using h6
   rw[this];rfl
def abg{k op:Int}{n:Nat}{p q:Ps}(h:∀j,j<n->aU k op n j p=aU k op n j q):∀(ts:List Tn) (j:Nat),j+ts.length=n->fF k op n p ts j=fF k op n q ts j
 |[],_,_=>by rw[fF,fF]
 |t::ts,j,hj=>by rw[yS] at hj;rw[fF,fF,h j ak,abg h ts (j+1) ak]
def ahU{k op:Int}{n:Nat}{p q:Ps}(h:∀j,j<n->aU k op n j p=aU k op n j q):∀(ts:List Tn) (j:Nat),j+ts.length=n->nZ k op n p ts j=nZ k op n q ts j
 |[],_,_=>by rw[nZ,nZ]
 |t::ts,j,hj=>by rw[yS] at hj;rw[nZ,nZ,h j ak,ahU h ts (j+1) ak]
def Gy{k op:Int}{n j:Nat}{p:Ps}(hp:jL p=true)(hj:j<n)(hl:lvl k op=15):aU k op n j p=.top:=by
 have h1:Nat.blt j n=true:=by rw[Nat.blt_eq];exact hj
 unfold aU;rw[hp,h1,hl];rfl
def Yv{k op:Int}(h:13<=lvl k op)(he:1<=k/\k<=15):lvl k op=15\/k=6\/k=9\/k=10:=by
 have hk:k=1\/k=2\/k=3\/k=4\/k=5\/k=6\/k=7\/k=8\/k=9\/k=10\/k=11\/k=12\/k=13\/k=14\/k=15:=ak;rcases hk with rfl|rfl|rfl|rfl|rfl|rfl|rfl|rfl|rfl|rfl|rfl|rfl|rfl|rfl|rfl
 all_goals first
  |(left;rfl)
  |(right;simp;done)
  |(exfalso;have h2:=(SA op).2;have h3:lvl 12 op=iT op:=rfl;omega)
  |(exfalso;revert h;simp[lvl];done)
def ao3{k op:Int}(h:k=1\/k=5\/k=6):13<=lvl k op/\(1<=k/\k<=15):=by rcases h with rfl|rfl|rfl<;>simp[lvl]
def ahV{k op:Int}{a b c:Bool}{i j:Bool}(hl:lvl k op≠0):fits k op ⟨14,true,a,b,false⟩=fits k op ⟨14,true,i,j,false⟩:=by
 have e:∀a b,fits k op ⟨14,true,a,b,false⟩=(k==9||decide (14<=lvl k op)):=by
  intro a b;have h2:(lvl k op==0)=false:=by simpa using hl
  unfold fits;rw[h2,show jL ⟨14,true,a,b,false⟩=true from rfl];simp only[zaP,Bool.or_false,aQ,Bool.false_and,Bool.true_and]
  by_cases h13:k=13
  ·subst h13;have:lvl 13 op=5:=rfl;rw[this];cases a<;>cases b<;>rfl
  ·have e13:(k==13)=false:=by simpa using h13
   rw[e13,Bool.and_false,aQ]
   by_cases h12:k=12/\op=62
   ·obtain⟨rfl,rfl⟩:=h12;cases b<;>rfl
   ·have e12:(k==12 && op==62)=false:=by rw[Bool.and_eq_false_iff,mX,mX];omega
    rw[e12,Bool.and_false,aQ]
 rw[e,e]
def auh(t:Tn):(Kz t)->13<=lvl t.kind t.op->(PW t)->∀p q,jL p=true->jL q=true->mV t p=mV t q:=by
 refine Tn.ind (P:=λt=>(Kz t)->13<=lvl t.kind t.op->(PW t)->∀p q,jL p=true->jL q=true->mV t p=mV t q) ?_ t;intro k op x y ks ih hok hl he p q hp hq;simp only[Tn.kind,Tn.op] at hl;simp only[PW,Tn.kind] at he;rw[mV,mV];congr 1;rcases Yv hl he with h|h
 ·exact abg (λj hj=>by rw[Gy hp hj h,Gy hq hj h]) ks 0 ak
 ·have hn:ks.length=1:=(Vg hok).one ak;obtain⟨u,rfl⟩:=zlo.1 hn;obtain⟨hue,huo⟩:=abf hok he (i:=0) (t:=u) rfl;obtain⟨huc,_⟩:=agV hok (i:=0) (t:=u) rfl;have hlu:1<=lvl u.kind u.op/\lvl u.kind u.op<=15:=by cases u;exact Ui hue (Vg huo)
  have hlk:lvl k op≠0:=ak;have kp:=jF (n:=[u].length) (j:=0) hp (by simp) hlk;have kq:=jF (n:=[u].length) (j:=0) hq (by simp) hlk;rw[fF,fF,fF,fF];congr 1;rcases h with rfl|h
  ·have e1:∀r:Ps,jL r=true->aU 6 op [u].length 0 r=⟨14,true,r.Ad,r.Du,false⟩:=by intro r hr;unfold aU;rw[hr];rfl
   rw[e1 p hp] at kp|-;rw[e1 q hq] at kq|-;have ht:kM 6 0=false:=rfl;rw[ht,Bool.false_or,Bool.false_or,ahV (c:=false) (i:=q.Ad) (j:=q.Du) ak];cases hf:fits u.kind u.op ⟨14,true,q.Ad,q.Du,false⟩ with
   |false=>rfl
   |true=>
    have aJr:13<=lvl u.kind u.op:=by
     unfold fits at hf;revert hf;cases(!(jL ⟨14,true,q.Ad,q.Du,false⟩)||lvl u.kind u.op==0)<;>cases(q.Ad && u.kind==13)<;>cases(q.Du &&(u.kind==12 && u.op==62))<;>simp;intro hf;rcases hf with h9|h14
     ·rw[h9];exact(show(13:Int)<=13 by omega)
     ·omega
    rw[aG,aG];exact ih u (by simp) huo aJr hue _ _ kp kq
  ·have ht:kM k 0=true:=by rcases h with rfl|rfl<;>rfl
   rw[ht,Bool.true_or,aG,Bool.true_or,aG];have hc6:cls k op [u].length 0=6:=by unfold cls;rw[if_pos ak]
   rw[hc6] at huc;exact ih u (by simp) huo (ao3 huc).1 hue _ _ kp kq
def aui(t:Tn):(Kz t)->13<=lvl t.kind t.op->(PW t)->∀p q,jL p=true->jL q=true->zX t p=zX t q:=by
 refine Tn.ind (P:=λt=>(Kz t)->13<=lvl t.kind t.op->(PW t)->∀p q,jL p=true->jL q=true->zX t p=zX t q) ?_ t;intro k op x y ks ih hok hl he p q hp hq;simp only[Tn.kind,Tn.op] at hl;simp only[PW,Tn.kind] at he;have hT:fF k op ks.length p ks 0=fF k op ks.length q ks 0\/k=6\/k=9\/k=10:=by
  rcases Yv hl he with h|h
  ·exact .inl (abg (λj hj=>by rw[Gy hp hj h,Gy hq hj h]) ks 0 ak)
  ·exact .inr h
 rw[zX,zX];have hg:∀g g' L,k≠11->abZ k op ks.length x g L=abZ k op ks.length x g' L:=by
  intro g g' L h11;have:(k==11)=false:=by simpa using h11
  unfold abZ;rw[this];rfl
 have h11:k≠11:=by
  rcases Yv hl he with h|h
  ·rintro rfl;exact absurd h (by change¬(11:Int)=15;decide)
  ·omega
 rw[hg _ (ar2 op (fF k op ks.length q ks 0)) _ h11];congr 1;rcases Yv hl he with h|h
 ·exact ahU (λj hj=>by rw[Gy hp hj h,Gy hq hj h]) ks 0 ak
 ·have hn:ks.length=1:=(Vg hok).one ak;obtain⟨u,rfl⟩:=zlo.1 hn;obtain⟨hue,huo⟩:=abf hok he (i:=0) (t:=u) rfl;obtain⟨huc,_⟩:=agV hok (i:=0) (t:=u) rfl;have hlu:1<=lvl u.kind u.op/\lvl u.kind u.op<=15:=by cases u;exact Ui hue (Vg huo)
  have hlk:lvl k op≠0:=ak;have kp:=jF (n:=[u].length) (j:=0) hp (by simp) hlk;have kq:=jF (n:=[u].length) (j:=0) hq (by simp) hlk;rw[nZ,nZ,nZ,nZ];congr 1;rcases h with rfl|h
  ·have e1:∀r:Ps,jL r=true->aU 6 op [u].length 0 r=⟨14,true,r.Ad,r.Du,false⟩:=by intro r hr;unfold aU;rw[hr];rfl
   rw[e1 p hp] at kp|-;rw[e1 q hq] at kq|-;have ht:kM 6 0=false:=rfl;rw[ht,Bool.false_or,Bool.false_or,ahV (c:=false) (i:=q.Ad) (j:=q.Du) ak];cases hf:fits u.kind u.op ⟨14,true,q.Ad,q.Du,false⟩ with
   |false=>rfl
   |true=>
    have aJr:13<=lvl u.kind u.op:=by
     unfold fits at hf;revert hf;cases(!(jL ⟨14,true,q.Ad,q.Du,false⟩)||lvl u.kind u.op==0)<;>cases(q.Ad && u.kind==13)<;>cases(q.Du &&(u.kind==12 && u.op==62))<;>simp;intro hf;rcases hf with h9|h14
     ·rw[h9];exact(show(13:Int)<=13 by omega)
     ·omega
    rw[aG,aG];exact ih u (by simp) huo aJr hue _ _ kp kq
  ·have ht:kM k 0=true:=by rcases h with rfl|rfl<;>rfl
   rw[ht,Bool.true_or,aG,Bool.true_or,aG];have hc6:cls k op [u].length 0=6:=by unfold cls;rw[if_pos ak]
   rw[hc6] at huc;exact ih u (by simp) huo (ao3 huc).1 hue _ _ kp kq
def aew{α:Type}(a b:Bool)(x y:α):(bif a||b then x else y)=bif a then x else bif b then x else y:=by cases a<;>rfl
def av3{α:Type}(a b:Bool)(x y:α):(bif a && b then x else y)=bif a then(bif b then x else y) else y:=by cases a<;>rfl
def XK{α:Type}(a:Bool)(x y:α):some (bif a then x else y)=bif a then some x else some y:=by cases a<;>rfl
def anx(op:Int):M.tZ op=some (iT op):=by
 simp only[M.tZ,M.OI,iT,aew,XK]
 first|done|rfl
def Qx(op:Int):M.oC op=some (iT op)/\M.tZ op=some (iT op):=by
 refine⟨?_,anx op⟩;simp only[M.oC,M.Jh,iT,aew,XK]
 first|done|rfl
def anz(k op:Int)(x y:aC)(r:ay):M.lX k op x y r=some (lvl k op):=by
 simp only[M.lX,M.OJ,lvl,aew,XK,anx,ah]
 first|done|rfl
def av4(p:Ps):M.vY p.level p.yQ p.Ad p.Du p.ng=some (jL p):=by simp only[M.vY,M.Ub,kF,ah,jL,ge_iff_le];cases(decide (1<=p.level) && decide (p.level<=15))<;>cases p.yQ<;>rfl
def ahW:M.oQ=some (1,false,false,false,false):=rfl
def aEJ(k op:Int)(p:Ps):fits k op p=bif !(jL p) then false else bif lvl k op==0 then false else bif p.Ad && k==13 then false else bif p.Du &&(k==12 && op==62) then false else
  bif p.ng &&(k==11||(k==9||k==4)) then false else bif p.yQ && k==9 then true else decide (p.level<=lvl k op):=by
 unfold fits;rw[aew];cases(p.yQ && k==9)<;>rfl
def aAt(k op:Int)(x y:aC)(r:ay)(p:Ps):M.Ho k op x y r p.level p.yQ p.Ad p.Du p.ng=some (fits k op p):=by
 rw[aEJ];simp only[M.Ho,M.VR,M.CP,anz k op x y r,av4 p,ah,aew,av3,XK]
 first|done|rfl
def nb0(j:Nat):((j:Int)==0)=Nat.beq j 0:=by cases j<;>rfl
def gt0(j:Nat):decide ((j:Int)>0)= !(Nat.beq j 0):=by
 cases j with
 |zero=>rfl
 |succ j=>rw[zdt ak];rfl
def auj(op:Int):M.zA op=some (sides op):=by simp only[M.zA,M.OQ,(Qx op).2,ah,sides,XK]
def Ps.Kv(p:Ps):Int×Bool×Bool×Bool×Bool:=(p.level,p.yQ,p.Ad,p.Du,p.ng)
def aEK(j n:Nat)(h:n<=1048576):(decide ((j:Int)>=0) && decide ((j:Int)<=i64.wrap ((n:Int) - 1)))=Nat.blt j n:=by
 rw[aS ak ak];cases hb:Nat.blt j n with
 |true=>rw[Nat.blt_eq] at hb;rw[zdt ak,zdt ak];rfl
 |false=>
  have:¬j<n:=by rw[<-Nat.blt_eq,hb];simp
  rw[vG (show¬(j:Int)<=(n:Int) - 1 by omega),Bool.and_false]
def many(n:Nat):decide ((n:Int)>1)=Nat.blt 1 n:=by
 cases hb:Nat.blt 1 n with
 |true=>rw[Nat.blt_eq] at hb;exact zdt ak
 |false=>
  have:¬1<n:=by rw[<-Nat.blt_eq,hb];simp
  exact vG ak
def Jq(k:Int)(hk:I64 k):M.fU k=some (k,spell k,0):=by simp only[M.fU,M.Ri,(DZ k hk).1,(DZ k hk).2,ah]
def Y7(s:aC):List (aC)->Nat->Int->Nat->Int×Nat
 |[],_,k,m=>(k,m)
 |g::l,i,k,m=>bif Nat.blt m g.length && g.isPrefixOf s then Y7 s l (i+1) (30+(i:Int)) g.length else Y7 s l (i+1) k m
def abB(s:aC):∀(l:List (aC)) (i:Nat) (k:Int) (m:Nat),(Y7 s l i k m).2=KZ s l m
 |[],_,_,_=>rfl
 |g::l,i,k,m=>by
  rw[Y7,KZ];cases(Nat.blt m g.length && g.isPrefixOf s) with
  |true=>rw[aG,aG,abB s l]
  |false=>rw[aQ,aQ,abB s l]
def av5(s:aC)(L:List (aC)){b:Int×Int×Int->Option (Int×Int×Int⊕Int×Int×Int)}
  (hb:∀(i:Nat) g k (m:Nat),L[i]? =some g->m<=2->b (k,(m:Int),(i:Int))=some (.inl (bif Nat.blt m g.length && g.isPrefixOf s then(30+(i:Int),(g.length:Int),(i:Int)+1) else(k,(m:Int),(i:Int)+1))))
  (he:∀k m,b (k,m,(L.length:Int))=some (.inr (k,m,(L.length:Int)))) (h2:∀g,g∈L->g.length<=2):
  fJ b (0,0,0)=some ((Y7 s L 0 0 0).1,((Y7 s L 0 0 0).2:Int),(L.length:Int)):=by
 have key:∀(t:List (aC)) (i:Nat) (k:Int) (m:Nat),L.drop i=t->i<=L.length->m<=2->fJ b (k,(m:Int),(i:Int))=some ((Y7 s t i k m).1,((Y7 s t i k m).2:Int),(L.length:Int)):=by
  intro t;induction t with
  |nil=>
   intro i k m hd hi hm;have:i=L.length:=by have:=congrArg List.length hd;simp at this;omega
   subst this;exact aT (he _ _)
  |cons g t ih=>
   intro i k m hd hi hm;have hx:L[i]? =some g:=by
    have:(L.drop i)[0]? =some g:=by rw[hd];rfl
    simpa using this
   have hlt:i<L.length:=(NV.1 hx).1;have hd':L.drop (i+1)=t:=by rw[<-List.drop_drop,hd];rfl
   have hs:=hb i g k m hx hm;have hg:=h2 g (WW hx);rw[Y7];cases hc:(Nat.blt m g.length && g.isPrefixOf s) with
   |true=>rw[hc,aG] at hs;rw[cu hs,aG,show(i:Int)+1=((i+1:Nat):Int) by omega,ih (i+1) _ _ hd' hlt hg]
   |false=>rw[hc,aQ] at hs;rw[cu hs,aQ,show(i:Int)+1=((i+1:Nat):Int) by omega,ih (i+1) _ _ hd' hlt hm]
 have:=key L 0 0 0 rfl (Nat.zero_le _) ak;rw[MW] at this;exact this
def aRL{α:Type}(s:List α)(n:Nat)(h:n<=s.length):cut s 0 (n:Int)=some (s.take n):=by unfold cut;rw[zdt ak,zdt ak,zdt ak];simp
def pre_eq:∀(g s:aC),g.length<=s.length->(s.take g.length==g)=g.isPrefixOf s
 |[],s,_=>by simp
 |x::g,[],h=>by simp at h
 |x::g,y::s,h=>by
  have hr:=pre_eq g s (by simpa using h);have hxy:(y==x)=(x==y):=by rw[Bool.eq_iff_iff,beq_iff_eq,beq_iff_eq];exact⟨Eq.symm,Eq.symm⟩
  rw[List.isPrefixOf,yS,List.take_succ_cons,<-hr,<-hxy];rfl
def anA(g s:aC)(h:s.length<g.length):g.isPrefixOf s=false:=by
 cases hp:g.isPrefixOf s with
 |false=>rfl
 |true=>have:=(List.isPrefixOf_iff_prefix.1 hp).length_le;omega
def ao4(s g:aC):M.strings_HasPrefix s g=some (g.isPrefixOf s):=by
 simp only[M.strings_HasPrefix,M.Ej,M.jk,M.oD]
 by_cases h:g.length<=s.length
 ·rw[zdt ak,aG,aRL s g.length h,ah,ah,pre_eq g s h]
 ·rw[vG ak,aQ,ah,anA g s ak]
def anB:∀g,g∈vT->g.length<=2:=by decide+kernel
def ao5(m n:Nat):decide ((n:Int)>(m:Int))=Nat.blt m n:=by
 cases hb:Nat.blt m n with
 |true=>rw[Nat.blt_eq] at hb;exact zdt ak
 |false=>
  have:¬m<n:=by rw[<-Nat.blt_eq,hb];simp
  exact vG ak
def aAu{s:aC}(h:s≠[])(hl:s.length<=2000000):∃c,idx s (i64.wrap ((s.length:Int) - 1))=some c/\lastB s=(c.toNat:Int):=by
 have hn:1<=s.length:=by cases s with|nil=>exact absurd rfl h|cons=>simp
 obtain⟨c,hc⟩:∃c,s[s.length - 1]? =some c:=⟨s[s.length - 1],by simp⟩
 refine⟨c, ?_, ?_⟩
 ·rw[aS ak ak,show((s.length:Int) - 1)=((s.length - 1:Nat):Int) by omega,dn,hc]
 ·rw[lastB,List.getLast?_eq_getElem?,hc]
def aEL{s:aC}(h:s≠[]):∃c,idx s 0=some c/\rY s=(c.toNat:Int):=by
 cases s with
 |nil=>exact absurd rfl h
 |cons c s=>exact⟨c,rfl,rfl⟩
def ao6(c:UInt8):i64.wrap (c.toNat:Int)=(c.toNat:Int):=by have:=arK c;exact aS ak ak
def NM(a b:Tk):AZ a b=bif a.text==[] then false else bif b.text==[] then false else bif a.kind==2 then false else bif a.kind==1 then false else bif b.kind==1 then false else
 bif Vf (lastB a.text) && Vf (rY b.text) then true else
 bif a.kind==3 &&(Vf (rY b.text)||rY b.text==46) then true else
 bif a.kind==6 && b.kind==32 then true else
 bif !(decide (30<=a.kind) && decide (a.kind<=68)) then false else Nat.blt a.text.length (KZ (a.text++b.text) vT 0):=by
 unfold AZ;simp only[aew]
def ao7(s:aC)(h0:s≠[])(hs:s.length<=4000000):M.Jz s 0=some ((Y7 s vT 0 0 0).1,((KZ s vT 0:Nat):Int)):=by
 have hl:vT.length=39:=rfl;have hn:1<=s.length:=by cases s with|nil=>exact absurd rfl h0|cons=>simp
 simp only[M.Jz,M.VT,M.Uc,arP,ah];rw[av5 s vT (λi g k m hg hm=> ?_) (λk m=> ?_) anB,ah,abB]
 ·have hi:=(NV.1 hg).1;rw[hl] at hi;have hg2:=anB g (WW hg);have hw1:i64.wrap (30+(i:Int))=30+(i:Int):=aS ak ak;have hw2:i64.wrap ((i:Int)+1)=(i:Int)+1:=aS ak ak;have hw3:i64.wrap ((s.length:Int) - 0)=(s.length:Int):=by rw[aS ak ak];omega
  have hw4:i64.wrap (0+(g.length:Int))=(g.length:Int):=by rw[aS ak ak];omega
  simp only[M.U4,M.Jd,Sm,dn,aa6,Zt,hg,Nw,ah,cS0,hw1,hw2,hw3,hw4,hl];rw[zdt (show((i:Int))<((39:Nat):Int) by omega),aG,zdt (show(0:Int)>=0 by omega),aG,zdt (show(0:Int)<=(s.length:Int) by omega),aG]
  by_cases hq:g.length<=s.length
  ·rw[zdt ak,aG,aRL s g.length hq,ah,pre_eq g s hq,ao5];cases Nat.blt m g.length<;>cases g.isPrefixOf s<;>rfl
  ·rw[vG ak,aQ,anA g s ak,Bool.and_false];rfl
 ·simp only[M.U4,M.Jd,Sm];rw[vG ak,aQ]
def agW(a b:Tk)(ha:a.text.length<=2000000)(hb:b.text.length<=2000000):M.wW a.kind a.text a.at_ b.kind b.text b.at_=some (AZ a b):=by
 rw[NM];simp only[M.wW,M.LZ,M.Ac]
 by_cases h1:a.text=[]
 ·rw[show(a.text==[])=true by simpa using h1,aG,aG]
 ·rw[show(a.text==[])=false by simpa using h1,aQ,aQ]
  by_cases h2:b.text=[]
  ·rw[show(b.text==[])=true by simpa using h2,aG,aG]
  ·obtain⟨c,hc,hc'⟩:=aAu h1 ha;obtain⟨d,hd,hd'⟩:=aEL h2;have hop:=ao7 (a.text++b.text) (by simp[h1]) (by simp only[wM];omega);rw[show(b.text==[])=false by simpa using h2,aQ,aQ,hc',hd'];have hnn:∀(c:Bool) (r:Bool),some (bif !c then false else r)=bif c then some r else some false:=by intro c r;cases c<;>rfl
   simp only[hc,hd,ah,ao6,KY,kF,hop,ao5,ge_iff_le,aew,av3,XK,hnn,bC (show a.text.length+b.text.length<=9223372036854775807 by omega),aG]
open Int (reduceLE)
def sub(s:aC)(i e:Nat):aC:=(s.drop i).take (e - i)
def afD{s:aC}{i e:Nat}(h1:i<=e)(h2:e<=s.length):(sub s i e).length=e - i:=by rw[sub,zlt,List.length_drop];omega
def Wn{s:aC}{i e:Nat}(h1:i<=e)(h2:e<=s.length):cut s (i:Int) (e:Int)=some (sub s i e):=by unfold cut;rw[zdt ak,zdt ak,zdt ak];simp[sub]
def ao8(s:aC)(i:Nat):sub s i s.length=s.drop i:=by rw[sub,List.take_of_length_le];rw[List.length_drop];omega
def PX(s:aC)(i:Nat):Nat:=i+((s.drop i).takeWhile λc=>Vf (c.toNat:Int)).length
def aex(s:aC)(i:Nat):Nat:=i+((s.drop i).takeWhile λc=> !(c==10)).length
def av6{s:aC}{i:Nat}(h:i<=s.length):PX s i<=s.length:=by have:=(List.takeWhile_prefix (l:=s.drop i) λc=>Vf (c.toNat:Int)).length_le;rw[List.length_drop] at this;unfold PX;omega
def av7{s:aC}{i:Nat}(h:i<=s.length):aex s i<=s.length:=by have:=(List.takeWhile_prefix (l:=s.drop i) λc=> !(c==10)).length_le;rw[List.length_drop] at this;unfold aex;omega
def ar5(p:UInt8->Bool){s:aC}{i:Nat}{c:UInt8}(h:s[i]? =some c):((s.drop i).takeWhile p).length=bif p c then((s.drop (i+1)).takeWhile p).length+1 else 0:=by have hl:=(NV.1 h).1;rw[List.drop_eq_getElem_cons hl];have hc:s[i]=c:=(NV.1 h).2;rw[hc,List.takeWhile_cons];cases p c<;>simp
def agX{s:aC}{i:Nat}{c:UInt8}(h:s[i]? =some c):PX s i=bif Vf (c.toNat:Int) then PX s (i+1) else i:=by
 unfold PX;rw[ar5 (λc=>Vf (c.toNat:Int)) h];cases Vf (c.toNat:Int)
 ·rfl
 ·simp only[aG];omega
def axS{s:aC}{i:Nat}{c:UInt8}(h:s[i]? =some c):aex s i=bif c==10 then i else aex s (i+1):=by
 unfold aex;rw[ar5 (λc=> !(c==10)) h];cases c==10
 ·simp only[Bool.not_false,aG,aQ];omega
 ·rfl
def qX(k:Int):Bool:=k==3||(k==4||(k==5||(k==6||(k==8||(k==33||(k==35||(k==51||k==52)))))))
def akT(k:Int):True/\M.iU k=some (qX k):=by simp only[M.iU,M.Aq,qX];cases k==3<;>cases k==4<;>cases k==5<;>cases k==6<;>cases k==8<;>cases k==33<;>cases k==35<;>cases k==51<;>cases k==52<;>exact⟨trivial,rfl⟩
def afE(b:Int):Bool:=b==32||b==9
def auk(b:Int):True/\M.BX b=some (afE b):=by simp only[M.BX,M.OV,afE];cases b==32<;>cases b==9<;>exact⟨trivial,rfl⟩
def afF{s:aC}(h:s.length<=1048576){r:Int}(h0:0<=r):r<=Jp s r/\(Jp s r<=r\/Jp s r<=s.length):=by
 have r1:=Jo h (a:=r+1) ak;have r2:=Jo h (a:=r+1+1) ak;unfold Jp;cases(oL s r==101)||(oL s r==69) with
 |false=>rw[aQ];omega
 |true=>
  rw[aG];cases(oL s (r+1)==43)||(oL s (r+1)==45) with
  |true=>
   rw[aG];cases hd:decide (jY s (r+1+1)>r+1+1) with
   |true=>rw[aG];rw[decide_eq_true_eq] at hd;omega
   |false=>rw[aQ];omega
  |false=>
   rw[aQ];cases hd:decide (jY s (r+1)>r+1) with
   |true=>rw[aG];rw[decide_eq_true_eq] at hd;omega
   |false=>rw[aQ];omega
def Yw{s:aC}{a:Int}(h:(s.length:Int)<=a):oL s a= -1:=by unfold oL;rw[if_pos ak,List.getElem?_eq_none ak]
def Yx{s:aC}(h:s.length<=1048576){i:Nat}(hi:i<s.length):yP s i<0\/((i:Int)<yP s i/\yP s i<=s.length):=by
 have r1:=Jo h (a:=(i:Int)) ak;have r2:=Jo h (a:=jY s i+1) ak;have e1:=afF h (r:=jY s (jY s i+1)) ak;have e2:=afF h (r:=jY s i) ak;unfold yP;rw[if_neg ak];cases hp:oL s (jY s i)==46 with
 |true=>
  rw[aG];have hlt:jY s i<s.length:=by
   by_cases hc:jY s i<s.length
   ·exact hc
   ·rw[Yw ak] at hp;cases hp
  cases hq:(jY s i==(i:Int)) &&(jY s (jY s i+1)==jY s i+1) with
  |true=>rw[aG];omega
  |false=>rw[aQ];omega
 |false=>
  rw[aQ];cases hq:jY s i==(i:Int) with
  |true=>rw[aG];omega
  |false=>rw[aQ];rw[mX] at hq;omega
def aey(q:Int):∀(n:Nat) (l:aC) (i:Int),l.length<=n->0<=i->Yq q l i<0\/(i<Yq q l i/\Yq q l i<=i+(l.length:Int))
 |n,[],i,_,h0=>by rw[Yq];omega
 |0,c::l,i,hn,_=>by simp at hn
 |n+1,c::l,i,hn,h0=>by
  rw[XH];rw[yS] at hn|-
  by_cases h1:(c.toNat:Int)=q
  ·rw[if_pos h1];omega
  rw[if_neg h1]
  by_cases h2:(c.toNat:Int)=10
  ·rw[if_pos h2];omega
  rw[if_neg h2]
  by_cases h3:(c.toNat:Int)=92
  ·rw[if_pos h3];cases l with
   |nil=>simp only[];omega
   |cons d l=>
    simp only[];rw[yS] at hn|-
    by_cases h4:(d.toNat:Int)=10
    ·rw[if_pos h4];omega
    ·rw[if_neg h4];have:=aey q n l (i+2) ak ak;omega
  ·rw[if_neg h3];have:=aey q n l (i+1) ak ak;omega
def Yy{s:aC}{q:Int}{i:Nat}(hi:i<s.length):quoted s i q<0\/((i:Int)<quoted s i q/\quoted s i q<=s.length):=by
 unfold quoted;split
 ·have:=aey q _ (s.drop ((i:Int)+1).toNat) ((i:Int)+1) (zaQ _) ak;rw[List.length_drop] at this;omega
 ·omega
def anC{s:aC}{i:Nat}(hi:i<s.length):MX s i<0\/((i:Int)<MX s i/\MX s i<=s.length):=by
 have:=Yy (s:=s) (q:=47) hi;unfold MX;cases quoted s i 47==(i:Int)+2 with
 |true=>rw[aG];omega
 |false=>rw[aQ];exact this
def akU(s:aC):∀(l:List (aC)) (i:Nat) (k:Int) (m:Nat),((k=0/\m=0)\/(30<=k/\1<=m))->(((Y7 s l i k m).1=0/\(Y7 s l i k m).2=0)\/(30<=(Y7 s l i k m).1/\1<=(Y7 s l i k m).2))
 |[],_,_,_,h=>h
 |g::l,i,k,m,h=>by
  rw[Y7];cases hc:(Nat.blt m g.length && g.isPrefixOf s) with
  |false=>rw[aQ];exact akU s l (i+1) k m h
  |true=>rw[aG];rw[rZ,Nat.blt_eq] at hc;exact akU s l (i+1) _ _ (.inr ak)
def ao9(s:aC):∀(l:List (aC)) (i:Nat) (k:Int) (m:Nat),m<=s.length->(Y7 s l i k m).2<=s.length
 |[],_,_,_,h=>h
 |g::l,i,k,m,h=>by
  rw[Y7];cases hc:(Nat.blt m g.length && g.isPrefixOf s) with
  |false=>rw[aQ];exact ao9 s l (i+1) k m h
  |true=>rw[aG];rw[rZ] at hc;exact ao9 s l (i+1) _ _ (List.isPrefixOf_iff_prefix.1 hc.2).length_le
def opK(s:aC)(i:Nat):Int:=(Y7 (s.drop i) vT 0 0 0).1
def opN(s:aC)(i:Nat):Nat:=(Y7 (s.drop i) vT 0 0 0).2
def aEM(s:aC)(i:Nat):(opK s i=0/\opN s i=0)\/(30<=opK s i/\1<=opN s i):=akU _ _ _ _ _ (.inl ⟨rfl,rfl⟩)
def aAv{s:aC}{i:Nat}(h:i<=s.length):i+opN s i<=s.length:=by have:=ao9 (s.drop i) vT 0 0 0 (Nat.zero_le _);rw[List.length_drop] at this;unfold opN;omega
def apa(s:aC)(i:Nat)(h0:i<s.length)(hs:s.length<=4000000):M.JA s (i:Int)=some (opK s i,(opN s i:Int)):=by
 have hl:vT.length=39:=rfl;simp only[M.JA,M.VU,M.Uf,XI,ah];rw[aS ak ak,zdt ak,zdt ak,Bool.and_self,zaP,aQ];have hc:=Wn (s:=s) (i:=i) (Nat.le_of_lt h0) (zaQ _);rw[ao8] at hc;rw[av5 (s.drop i) vT (λj g k m hg hm=> ?_) (λk m=> ?_) anB,ah]
 ·rfl
 ·have hi:=(NV.1 hg).1;rw[hl] at hi;have hsc:=avZ j hi;simp only[UM,hg] at hsc;simp only[M.ZX,M.O1,Zt,hsc,ah,hc,ao4,ao5];rw[zdt ak,zdt ak,aS ak ak,aS ak ak];cases Nat.blt m g.length<;>cases g.isPrefixOf (s.drop i)<;>rfl
 ·rw[hl];rfl
def axT{s:aC}{b:(aC×Int×Bool)⊕(aC×Int)->Option (((aC×Int×Bool)⊕(aC×Int))⊕(aC×Int))}(hs:s.length<=1048576)
  (h1:∀(a:Int) (v:Bool),b (.inl (s,a,v))=some (bif Vf (oL s a) then .inl (.inr (s,i64.wrap (a+1))) else .inr (s,a)))
  (h2:∀(a:Int),b (.inr (s,a))=some (bif Vf (oL s a) then .inl (.inr (s,i64.wrap (a+1))) else .inr (s,a))) (v:Bool) {i:Nat} (hi:i<=s.length):fJ b (.inl (s,(i:Int),v))=some (s,(PX s i:Int)):=by
 have key:∀(n i:Nat),s.length - i<=n->i<=s.length->fJ b (.inr (s,(i:Int)))=some (s,(PX s i:Int)):=by
  intro n;induction n with
  |zero=>
   intro i hn hi;have e:i=s.length:=ak;subst e;refine aT ?_;rw[h2,Yw (Int.le_refl _)];have:PX s s.length=s.length:=by unfold PX;simp
   rw[this];rfl
  |succ n ih=>
   intro i hn hi
   by_cases hlt:i<s.length
   ·obtain⟨c,hc⟩:∃c,s[i]? =some c:=⟨s[i],by simp[hlt]⟩
    have hb:oL s (i:Int)=(c.toNat:Int):=by rw[IB,hc]
    have hst:=agX hc;cases hw:Vf (c.toNat:Int) with
    |true=>rw[hw,aG] at hst;have hx:=h2 (i:Int);rw[hb,hw,aG,aS ak ak] at hx;rw[cu hx,hst,show(i:Int)+1=((i+1:Nat):Int) by omega];exact ih (i+1) ak ak
    |false=>rw[hw,aQ] at hst;refine aT ?_;rw[h2,hb,hw,aQ,hst]
   ·exact ih i ak hi
 by_cases hlt:i<s.length
 ·obtain⟨c,hc⟩:∃c,s[i]? =some c:=⟨s[i],by simp[hlt]⟩
  have hb:oL s (i:Int)=(c.toNat:Int):=by rw[IB,hc]
  have hst:=agX hc;cases hw:Vf (c.toNat:Int) with
  |true=>rw[hw,aG] at hst;have hx:=h1 (i:Int) v;rw[hb,hw,aG,aS ak ak] at hx;rw[cu hx,hst,show(i:Int)+1=((i+1:Nat):Int) by omega];exact key _ (i+1) (zaQ _) ak
  |false=>rw[hw,aQ] at hst;refine aT ?_;rw[h1,hb,hw,aQ,hst]
 ·have e:i=s.length:=ak;subst e;refine aT ?_;rw[h1,Yw (Int.le_refl _)];have:PX s s.length=s.length:=by unfold PX;simp
  rw[this];rfl
def aul{s:aC}(hs:s.length<=1048576){i:Nat}(hi:i<=s.length)(hL:isL (oL s i)=true):True/\M.zB s (i:Int)=some (PX s i:Int):=by
 have hb1:=λa=>E5 hs a
 have hb2:=λa=>AY hs a
 constructor
 ·trivial
 ·simp only[M.zB,M.OY,hb2,ah,(Wh _).2,hL,zaP,aQ,M.Md];rw[axT hs (λa v=> ?_) (λa=> ?_) false hi,ah]
  ·simp only[M.OX,M.CW,hb2,ah,(KY _).2];cases Vf (oL s a)<;>rfl
  ·simp only[M.OX,M.CW,hb2,ah,(KY _).2];cases Vf (oL s a)<;>rfl
def ahX(s w:aC)(e:Nat):Int:=bif aa8 w !=0 then aa8 w else bif P8 w then 8 else bif oL s e==40 then 7 else 6
def aEN{s:aC}(hs:s.length<=1048576){i e:Nat}(h1:i<=e)(h2:e<=s.length):True/\M.ug s (i:Int) (e:Int)=some (ahX s (sub s i e) e,sub s i e,(i:Int)):=by
 have hb1:=λa=>E5 hs a
 have hb2:=λa=>AY hs a
 simp only[M.ug,M.J5,Wn h1 h2,(Yr _).1,(Yr _).2,(Gx _).1,(Gx _).2,hb1,hb2,ah,ahX];cases aa8 (sub s i e) !=0<;>cases P8 (sub s i e)<;>cases oL s (e:Int)==40<;>exact⟨trivial,rfl⟩
def n10'{c:UInt8}(h:(c.toNat:Int)≠10):(c==10)=false:=mX.2 λe=>h (by rw[e];rfl)
def aAw(s w:aC)(e:Nat):ahX s w e≠0:=by
 unfold ahX;cases h:aa8 w !=0 with
 |true=>rw[aG];simpa using h
 |false=>
  rw[aQ];cases P8 w
  ·rw[aQ];cases oL s (e:Int)==40<;>decide
  ·rw[aG];decide
def ab1(s:aC)(i:Nat)(k e:Int):Option zav:=bif decide (e<0) then none else some (k,sub s i e.toNat)
def ar6(s:aC)(i:Nat):Option zav:=bif yB (sub s i (PX s i)) then some (ahX s (sub s i (PX s i)) (PX s i),sub s i (PX s i)) else none
def opT(s:aC)(i:Nat):Option zav:=bif opK s i==0 then none else some (opK s i,sub s i (i+opN s i))
def abh(s:aC)(i:Nat):Option zav:=bif isL (oL s i) then ar6 s i else opT s i
def Bq(s:aC)(i:Nat)(bf:Int):Option zav:=
 bif oL s i==10 then some (1,[10]) else bif oL s i==35 then some (2,sub s i (aex s i)) else bif isD (oL s i) then ab1 s i 3 (yP s i) else bif oL s i==46 then ab1 s i 3 (yP s i) else
 bif oL s i==34 then ab1 s i 4 (quoted s i 34) else bif oL s i==47 then(bif !(qX bf) then ab1 s i 5 (MX s i) else abh s i) else abh s i
def aEO(i j:Int):Option zav->Int×aC×Int
 |none=>(0,[],j)
 |some p=>(p.1,p.2,i)
def ar7(c:UInt8):∀l:aC,(Lib.indexByte l c<0/\(l.takeWhile λx=> !(x==c)).length=l.length)\/Lib.indexByte l c=((l.takeWhile λx=> !(x==c)).length:Int)
 |[]=> .inl ⟨by rw[Lib.indexByte];omega,rfl⟩
 |b::l=>by
  have ih:=ar7 c l;rw[Lib.indexByte,List.takeWhile_cons];cases hb:b==c with
  |true=>right;simp
  |false=>
   simp only[Bool.not_false,if_true,Bool.false_eq_true,if_false,yS];have hge:=Lib.indexByte_ge l c;rcases ih with⟨h1,h2⟩|h
   ·left;have:Lib.indexByte l c= -1:=ak;rw[this,h2];exact⟨by decide,rfl⟩
   ·right;rw[h];have:((((l.takeWhile λx=> !(x==c)).length:Nat):Int)== -1)=false:=mX.2 ak;rw[this];simp
section
variable {s:aC} (hs:s.length<=1048576) {i:Nat} (hi:i<s.length) (bf:Int)
include hs hi
omit hs hi in
theorem apb{k e:Int}{j:Int}(h:e<0\/((i:Int)<e/\e<=s.length)):(bif decide (e<0) then some ((0:Int),([]:aC),j) else(cut s (i:Int) e).bind λw=>some (k,w,(i:Int)))=some (aEO i j (ab1 s i k e)):=by
 unfold ab1;rcases h with h|⟨h1,h2⟩
 ·rw[zdt h,aG,aG];rfl
 ·rw[vG ak,aQ,aQ];obtain⟨n,rfl⟩:=Int.eq_ofNat_of_zero_le (show 0<=e by omega);rw[Wn ak ak,ah,Zt];rfl
theorem axU:((M.lD (oL s i)).bind λr=>bif r then(M.zB s (i:Int)).bind λe=>(cut s (i:Int) e).bind λw=>(M.oU w).bind λq=>bif q then(M.ug s (i:Int) e).bind λt=>some (t.fst,t.snd.fst,t.snd.snd) else some (0,[],0)
  else(M.JA s (i:Int)).bind λr=>bif r.fst==0 then some (0,[],0) else bif decide (i64.wrap ((i:Int)+r.snd)<0) then some (0,[],0) else(cut s (i:Int) (i64.wrap ((i:Int)+r.snd))).bind λw=>some (r.fst,w,(i:Int)))=some (aEO i 0 (abh s i)):=by
 unfold abh;rw[(Wh _).2,ah];cases hL:isL (oL s i) with
 |true=>
  have hw:=av6 (Nat.le_of_lt hi);have hle:i<=PX s i:=by unfold PX;omega
  have hne:=(aul hs (Nat.le_of_lt hi) hL).2;have hwd:=(aEN hs hle hw).2;have hns:=(afz (sub s i (PX s i)) (by rw[afD hle hw];omega)).2;simp only[aG,hne,ah,Wn hle hw,hns,hwd,ar6];cases yB (sub s i (PX s i))<;>rfl
 |false=>
  have hop:=apa s i hi ak;have hln:=aAv (Nat.le_of_lt hi);have hw:i64.wrap ((i:Int)+(opN s i:Int))=((i+opN s i:Nat):Int):=by rw[aS ak ak];omega
  simp only[aQ,hop,ah,hw,opT];rw[vG ak,Wn ak hln];cases opK s i==0<;>rfl
theorem aum:M.zC s (i:Int) bf=some (aEO i 0 (Bq s i bf)):=by
 obtain⟨c,hc⟩:∃c,s[i]? =some c:=⟨s[i],by simp[hi]⟩
 have hb:oL s (i:Int)=(c.toNat:Int):=by rw[IB,hc]
 have hR:=axU hs hi;have hw1:i64.wrap ((i:Int)+1)=((i+1:Nat):Int):=by rw[aS ak ak];omega
 have hnum:=aa5 hs (i:Int) ak;have hstr:=(anm hs (i:Int) ak ak).2;have here:=(ano hs (i:Int) ak ak).2;have c3:=apb (s:=s) (i:=i) (j:=0) (k:=3) (Yx hs hi);have c4:=apb (s:=s) (i:=i) (j:=0) (k:=4) (Yy (q:=34) hi);have c5:=apb (s:=s) (i:=i) (j:=0) (k:=5) (anC hi);simp only[M.zC,M.O4,M.MB,dn,hc,ah,ao6,<-hb,akH,hnum,hstr,here,(akT bf).2,c3,c4,c5];unfold Bq;cases h10:oL s i==10 with
 |true=>
  have aZV:c=10:=by rw[hb,beq_iff_eq] at h10;have h9:c.toNat=10:=ak;exact UInt8.toNat_inj.1 (by rw[h9];rfl)
  rw[aG,aG,hw1,vG ak,aQ,Wn ak ak,ah,sub,show i+1 - i=1 by omega,List.drop_eq_getElem_cons hi,(NV.1 hc).2,aZV];rfl
 |false=>
 rw[aQ,aQ];cases h35:oL s i==35 with
 |true=>
  have hcl:=av7 (Nat.le_of_lt hi);have hix:M.strings_IndexByte (s.drop i) 10=some (Lib.indexByte (s.drop i) 10):=rfl;rw[aG,aG,Wn (Nat.le_of_lt hi) (zaQ _),ah,ao8,hix,ah];rcases ar7 10 (s.drop i) with⟨h1,h2⟩|h1
  ·rw[vG ak,aQ,ah];have:aex s i=s.length:=by unfold aex;rw[h2,List.length_drop];omega
   rw[this,ao8];rfl
  ·have hce:((i:Int)+Lib.indexByte (s.drop i) 10)=((aex s i:Nat):Int):=by rw[h1];unfold aex;omega
   rw[hce,h1,zdt ak,aG,aS ak ak,vG ak,aQ,Wn (by unfold aex;omega) hcl,ah];rfl
 |false=>
 rw[aQ,aQ];cases isD (oL s i) with
 |true=>rfl
 |false=>
 rw[aQ,aQ];cases oL s i==46 with
 |true=>rfl
 |false=>
 rw[aQ,aQ];cases oL s i==34 with
 |true=>rfl
 |false=>
 rw[aQ,aQ];cases oL s i==47 with
 |true=>
  rw[aG,aG];cases qX bf with
  |false=>rfl
  |true=>exact hR
 |false=>exact hR
theorem aez{k:Int}{w:aC}(h:Bq s i bf=some (k,w)):k≠0/\1<=w.length/\i+w.length<=s.length:=by
 obtain⟨c,hc⟩:∃c,s[i]? =some c:=⟨s[i],by simp[hi]⟩
 have hb:oL s (i:Int)=(c.toNat:Int):=by rw[IB,hc]
 have hE:∀{k' e:Int},k'≠0->(e<0\/((i:Int)<e/\e<=s.length))->ab1 s i k' e=some (k,w)->k≠0/\1<=w.length/\i+w.length<=s.length:=by
  intro k' e hk he hx;unfold ab1 at hx;rcases he with he|⟨h1,h2⟩
  ·rw[zdt he] at hx;cases hx
  ·rw[vG ak,aQ] at hx;cases hx;rw[afD ak ak];exact⟨hk,ak,ak⟩
 have hR:abh s i=some (k,w)->k≠0/\1<=w.length/\i+w.length<=s.length:=by
  intro hx;unfold abh at hx;cases hL:isL (oL s i) with
  |true=>
   rw[hL,aG] at hx;unfold ar6 at hx;cases hn:yB (sub s i (PX s i)) with
   |false=>rw[hn] at hx;cases hx
   |true=>
    rw[hn,aG] at hx;cases hx;have hw:=av6 (Nat.le_of_lt hi);have hle:i<=PX s i:=by unfold PX;omega
    have hst:=agX hc;rw[<-hb,show Vf (oL s i)=true by unfold Vf;rw[hL];rfl,aG] at hst;have:i+1<=PX s i:=by rw[hst];unfold PX;omega
    rw[afD hle hw];exact⟨aAw _ _ _,ak,ak⟩
  |false=>
   rw[hL,aQ] at hx;unfold opT at hx;cases hz:opK s i==0 with
   |true=>rw[hz] at hx;cases hx
   |false=>rw[hz,aQ] at hx;cases hx;rw[mX] at hz;have h0:=aEM s i;have hln:=aAv (Nat.le_of_lt hi);rw[afD ak hln];exact⟨hz,ak,ak⟩
 unfold Bq at h;cases h10:oL s i==10 with
 |true=>rw[h10,aG] at h;cases h;exact⟨by decide,by simp,by simp;omega⟩
 |false=>
 rw[h10,aQ] at h;cases h35:oL s i==35 with
 |true=>
  rw[h35,aG] at h;cases h;have hcl:=av7 (Nat.le_of_lt hi);have hst:=axS hc;have hn:(c==10)=false:=n10' (by rw[<-hb];rw[mX] at h10;exact h10);rw[hn,aQ] at hst;have:i+1<=aex s i:=by rw[hst];unfold aex;omega
  rw[afD ak hcl];exact⟨by decide,ak,ak⟩
 |false=>
 rw[h35,aQ] at h;cases hD:isD (oL s i) with
 |true=>rw[hD,aG] at h;exact hE (by decide) (Yx hs hi) h
 |false=>
 rw[hD,aQ] at h;cases h46:oL s i==46 with
 |true=>rw[h46,aG] at h;exact hE (by decide) (Yx hs hi) h
 |false=>
 rw[h46,aQ] at h;cases h34:oL s i==34 with
 |true=>rw[h34,aG] at h;exact hE (by decide) (Yy hi) h
 |false=>
 rw[h34,aQ] at h;cases h47:oL s i==47 with
 |true=>
  rw[h47,aG] at h;cases he:qX bf with
  |false=>rw[he,Bool.not_false,aG] at h;exact hE (by decide) (anC hi) h
  |true=>rw[he,zaP,aQ] at h;exact hR h
 |false=>rw[h47,aQ] at h;exact hR h
end
def ar8(l:List Tk):aj (aF l)=true:=by simp[aj,aF,alP,D.flat]
def Yz(s:aC):Nat->Nat->Int->List Tk->List Tk⊕Nat
 |0,_,_,acc=> .inl acc
 |f+1,i,bf,acc=>bif Nat.ble s.length i then .inl acc else bif afE (oL s i) then Yz s f (i+1) bf acc else
  bif oL s i==92 && oL s ((i+1:Nat):Int)==10 then Yz s f (i+2) bf acc else
  match Bq s i bf with
  |none=> .inr i
  |some p=>Yz s f (i+p.2.length) p.1 (acc++[⟨p.1,p.2,(i:Int)⟩])
def aun(n:Nat)(l:List Tk):Prop:=∀t,t∈l->t.text.length<=n
def aun.snoc{n:Nat}{l:List Tk}{t:Tk}(h:aun n l)(ht:t.text.length<=n):aun n (l++[t]):=by
 intro u hu;rcases List.mem_append.1 hu with hu|hu
 ·exact h u hu
 ·rw[List.mem_singleton] at hu;rw[hu];exact ht
def aiR{s:aC}(hs:s.length<=1048576):∀(f i:Nat) (bf:Int) (acc l:List Tk),i<=s.length->acc.length<=i->aun s.length acc->Yz s f i bf acc=.inl l->l.length<=s.length/\aun s.length l
 |0,i,bf,acc,l,hi,hl,ht,h=>by cases h;exact⟨ak,ht⟩
 |f+1,i,bf,acc,l,hi,hl,ht,h=>by
  rw[Yz] at h;cases hb:Nat.ble s.length i with
  |true=>rw[hb,aG] at h;cases h;exact⟨ak,ht⟩
  |false=>
   have hlt:i<s.length:=by
    have:¬(Nat.ble s.length i=true):=by rw[hb];simp
    rw[Nat.ble_eq] at this;omega
   rw[hb,aQ] at h;cases h1:afE (oL s i) with
   |true=>rw[h1,aG] at h;exact aiR hs f (i+1) bf acc l ak ak ht h
   |false=>
    rw[h1,aQ] at h;cases h2:(oL s i==92 && oL s ((i+1:Nat):Int)==10) with
    |true=>
     rw[h2,aG] at h;have:i+1<s.length:=by
      by_cases hc:i+1<s.length
      ·exact hc
      ·rw[Yw (a:=((i+1:Nat):Int)) ak] at h2;rw[rZ] at h2;cases h2.2
     exact aiR hs f (i+2) bf acc l ak ak ht h
    |false=>
     rw[h2,aQ] at h;cases hk:Bq s i bf with
     |none=>rw[hk] at h;cases h
     |some p=>obtain⟨k,w⟩:=p;rw[hk] at h;have hp:=aez hs hlt bf hk;exact aiR hs f _ _ _ l hp.2.2 (by rw[wM,GK];have:=hp.2.1;omega) (ht.snoc (by show w.length<=_;omega)) h
section
variable {s:aC} (hs:s.length<=3000)
include hs
theorem av8(x y:Int):∀(f i:Nat) (bf:Int) (acc:List Tk),s.length<i+f->i<=s.length->acc.length<=i->
  match Yz s f i bf acc with
  | .inl l=>∃b',M.pU s x y ((i:Int),bf,aF acc)=some (.inr ((s.length:Int),b',aF l))
  | .inr a=>M.pU s x y ((i:Int),bf,aF acc)=some (.inl (a:Int))
 |0,i,bf,acc,hf,hi,hl=>absurd hf ak
 |f+1,i,bf,acc,hf,hi,hl=>by
  rw[Yz]
  by_cases hlt:i<s.length
  ·have hb:Nat.ble s.length i=false:=by
    cases hb:Nat.ble s.length i with
    |false=>rfl
    |true=>rw[Nat.ble_eq] at hb;omega
   obtain⟨c,hc⟩:∃c,s[i]? =some c:=⟨s[i],by simp[hlt]⟩
   have hbc:oL s (i:Int)=(c.toNat:Int):=by rw[IB,hc]
   have hw1:i64.wrap ((i:Int)+1)=((i+1:Nat):Int):=by rw[aS ak ak];omega
   have hw2:i64.wrap ((i:Int)+2)=((i+2:Nat):Int):=by rw[aS ak ak];omega
   have hby:=λa=>AY (s:=s) (by omega:s.length<=1048576) a
   have htk:=aum (s:=s) ak hlt bf;have hbody:M.Ip s x y ((i:Int),bf,aF acc)=some (bif afE (oL s i) then .inl (((i+1:Nat):Int),bf,aF acc) else
     bif oL s i==92 && oL s ((i+1:Nat):Int)==10 then .inl (((i+2:Nat):Int),bf,aF acc) else
     match Bq s i bf with
     |none=> .inr (.inl (i:Int))
     |some p=> .inl (((i+p.2.length:Nat):Int),p.1,aF (acc++[⟨p.1,p.2,(i:Int)⟩]))):=by
    have tail:((M.zC s (i:Int) bf).bind λr=>bif r.fst==0 then some (Sum.inr (Sum.inl (i:Int))) else
      bif(((aF acc).length+[[D.int IntKind.i64 r.fst,D.str r.snd.fst,D.int IntKind.i64 r.snd.snd]].length) * 32).ble 140737488355328 then
      bif((aF acc).length+[[D.int IntKind.i64 r.fst,D.str r.snd.fst,D.int IntKind.i64 r.snd.snd]].length).ble 140737488355328 then
       some (Sum.inl (i64.wrap ((i:Int)+(r.snd.fst.length:Int)),r.fst,aF acc++[[D.int IntKind.i64 r.fst,D.str r.snd.fst,D.int IntKind.i64 r.snd.snd]])) else none else none)=
      some (match Bq s i bf with
       |none=>(Sum.inr (Sum.inl (i:Int)):(Int×Int×ay)⊕(Int⊕(Int×Int×ay)))
       |some p=> .inl (((i+p.2.length:Nat):Int),p.1,aF (acc++[⟨p.1,p.2,(i:Int)⟩]))):=by
     rw[htk,ah];cases hk:Bq s i bf with
     |none=>rfl
     |some p=>obtain⟨k,w⟩:=p;have hp:=aez ak hlt bf hk;simp only[aEO,gZ,yS,SS];rw[mX.2 hp.1,aQ,bC ak,aG,bC ak,aG,aS ak ak];simp only[aF,List.map_append];rfl
    simp only[M.Ip,M.CY,M.Ar,dn,hc,ah,ao6,<-hbc,(auk _).2,hw1,hw2,hby];rw[zdt ak,aG];cases afE (oL s i) with
    |true=>rfl
    |false=>
     rw[aQ,aQ];cases oL s i==92 with
     |true=>
      rw[aG,Bool.true_and];cases oL s ((i+1:Nat):Int)==10 with
      |true=>rfl
      |false=>exact tail
     |false=>exact tail
   rw[hb,aQ];cases h1:afE (oL s i) with
   |true=>rw[h1,aG] at hbody;have:=av8 x y f (i+1) bf acc ak ak ak;rw[aG];rw[M.pU] at this|-;rw[cu hbody];exact this
   |false=>
    rw[h1,aQ] at hbody;rw[aQ];cases h2:(oL s i==92 && oL s ((i+1:Nat):Int)==10) with
    |true=>
     rw[h2,aG] at hbody;have hlt2:i+1<s.length:=by
      by_cases hcc:i+1<s.length
      ·exact hcc
      ·rw[Yw (a:=((i+1:Nat):Int)) ak] at h2;rw[rZ] at h2;cases h2.2
     have:=av8 x y f (i+2) bf acc ak ak ak;rw[aG];rw[M.pU] at this|-;rw[cu hbody];exact this
    |false=>
     rw[h2,aQ] at hbody;rw[aQ];cases hk:Bq s i bf with
     |none=>rw[hk] at hbody;rw[M.pU];exact aT hbody
     |some p=>obtain⟨k,w⟩:=p;rw[hk] at hbody;have hp:=aez ak hlt bf hk;have:=av8 x y f (i+w.length) k (acc++[⟨k,w,(i:Int)⟩]) ak ak (by rw[wM,GK];omega);rw[M.pU] at this|-;simp only[] at hbody|-;rw[cu hbody];exact this
  ·have hb:Nat.ble s.length i=true:=by rw[Nat.ble_eq];omega
   rw[hb,aG];refine⟨bf, ?_⟩;rw[M.pU];refine aT ?_;simp only[M.Ip,M.CY,M.Ar];rw[vG ak,aQ,show(i:Int)=(s.length:Int) by omega]
end
def aeA(s:aC):List Tk×Int×Int:=if s.length>3000 then([],1,0) else match Yz s (s.length+1) 0 0 [] with
 | .inl l=>(l,0,0)
 | .inr a=>([],2,(a:Int))
def aEP(s:aC):(aeA s).1.length<=3000/\aun 3000 (aeA s).1:=by
 have h0:aun 3000 []:=λt h=>by cases h
 unfold aeA;split
 ·exact⟨Nat.zero_le _,h0⟩
 ·next hn=>
  cases hx:Yz s (s.length+1) 0 0 [] with
  |inr a=>exact⟨Nat.zero_le _,h0⟩
  |inl l=>have:=aiR (s:=s) ak _ 0 0 [] l (Nat.zero_le _) (Nat.zero_le _) (λt h=>by cases h) hx;exact⟨by show l.length<=3000;omega,λt ht=>by have:=this.2 t ht;omega⟩
def aJs(s:aC):True/\M.RU s=some (aF (aeA s).1,(aeA s).2.1,(aeA s).2.2):=by
 refine⟨trivial, ?_⟩;simp only[M.RU,M.Ym,M.FX,M.O5,aeA]
 by_cases h:s.length>3000
 ·rw[if_pos h,zdt ak,aG];rfl
 ·rw[if_neg h,vG ak,aQ];have h1:=av8 (s:=s) ak 0 0 (s.length+1) 0 0 [] ak ak (by simp);have e0:aF []=[]:=rfl;rw[e0,MW] at h1;cases hx:Yz s (s.length+1) 0 0 [] with
  |inl l=>
   rw[hx] at h1;obtain⟨b1,h1⟩:=h1;rw[h1];simp only[ah,jX,letE,ar8,aG]
   try rfl
  |inr a=>
   rw[hx] at h1;rw[h1];simp only[ah,jX,letE]
   try rfl
def aiS{t u:aC}{a:Int}(h0:0<=a)(h1:a<t.length):oL (t++u) a=oL t a:=by unfold oL;rw[if_pos h0,if_pos h0,List.getElem?_append_left ak]
def apc{t u:aC}:oL (t++u) (t.length:Int)=rY u:=by rw[IB,List.getElem?_append_right (zaQ _),Nat.sub_self];cases u<;>rfl
def Uw{t u:aC}{a:Int}(h0:0<=a):oL (t++u) ((t.length:Int)+a)=oL u a:=by unfold oL;rw[if_pos h0,if_pos ak,List.getElem?_append_right ak,show((t.length:Int)+a).toNat - t.length=a.toNat by omega]
def av9(s:aC):oL s 0=rY s:=by cases s<;>rfl
def akV{t u:aC}{a:Int}(h0:0<=a):(t++u).drop ((t.length:Int)+a).toNat=u.drop a.toNat:=by rw[show((t.length:Int)+a).toNat=t.length+a.toNat by omega,<-List.drop_drop,List.drop_left]
def YA{t u:aC}{a:Int}(h0:0<=a):jY (t++u) ((t.length:Int)+a)=(t.length:Int)+jY u a:=by unfold jY;rw[if_pos h0,if_pos ak,akV h0];omega
def auo{p:UInt8->Bool}:∀(t u:aC),(∀c r,u=c::r->p c=false)->((t++u).takeWhile p)=t.takeWhile p
 |[],[],_=>rfl
 |[],c::r,h=>by rw[List.nil_append,List.takeWhile_cons,h c r rfl];rfl
 |d::t,u,h=>by rw[zca,List.takeWhile_cons,List.takeWhile_cons,auo t u h]
def aEQ{u:aC}(h:isD (rY u)=false):∀c r,u=c::r->isD (c.toNat:Int)=false:=by rintro c r rfl;exact h
def afG{t u:aC}(h:isD (rY u)=false){a:Int}(h0:0<=a)(h1:a<=t.length):jY (t++u) a=jY t a:=by unfold jY;rw[if_pos h0,if_pos h0,List.drop_append_of_le_length ak,auo _ _ (aEQ h)]
def aGU{b:Int}(h:Vf b=false):isD b=false:=by unfold Vf at h;rw[Bool.or_eq_false_iff] at h;exact h.2
def aRM{b:Int}(h:Vf b=false):isL b=false:=by unfold Vf at h;rw[Bool.or_eq_false_iff] at h;exact h.1
def noE{b:Int}(h:Vf b=false):((b==101)||(b==69))=false:=by have:=aRM h;unfold isL at this;simp only[Bool.or_eq_false_iff,Bool.and_eq_false_iff,decide_eq_false_iff_not,mX] at this|-;omega
def aiT{s:aC}{a:Int}(h0:0<=a)(h1:a<=s.length):a<=jY s a/\jY s a<=s.length:=by have:=(List.takeWhile_prefix (l:=s.drop a.toNat) λc=>isD (c.toNat:Int)).length_le;rw[List.length_drop] at this;unfold jY;rw[if_pos h0];omega
def aER{s:aC}{a:Int}(h0:0<=a):a<=jY s a:=by unfold jY;rw[if_pos h0];omega
def aeB{t u:aC}(hu:Vf (rY u)=false){r:Int}(h0:0<=r)(h1:r<=t.length)(h:Jp t r=(t.length:Int)):Jp (t++u) r=(t.length:Int):=by
 have hD:=aGU hu
 by_cases hr:r=(t.length:Int)
 ·subst hr;unfold Jp;rw[apc,noE hu,aQ]
 ·have hlt:r<t.length:=ak;unfold Jp at h|-;rw[aiS h0 hlt];cases he:(oL t r==101)||(oL t r==69) with
  |false=>rw[he,aQ] at h;omega
  |true=>
   rw[he,aG] at h;rw[aG]
   by_cases hr1:r+1<t.length
   ·rw[aiS ak hr1];cases hs:(oL t (r+1)==43)||(oL t (r+1)==45) with
    |true=>rw[hs,aG] at h;rw[aG,afG hD ak ak];exact h
    |false=>rw[hs,aQ] at h;rw[aQ,afG hD ak ak];exact h
   ·have e:r+1=(t.length:Int):=ak;have hb:oL t (r+1)= -1:=Yw ak;have hd:jY t (r+1)=r+1:=by have:=aiT (s:=t) (a:=r+1) ak ak;omega
    have e0:((-1:Int)==43||(-1:Int)==45)=false:=rfl;rw[hb,e0,aQ,hd,vG ak,aQ] at h;omega
def aup{t u:aC}(hu:Vf (rY u)=false)(h46:rY u≠46)(h:yP t 0=(t.length:Int)):yP (t++u) 0=(t.length:Int):=by
 have hD:=aGU hu;have ht:0<t.length:=by
  cases t with
  |nil=>simp[yP] at h
  |cons=>simp
 unfold yP at h|-;rw[if_neg ak] at h;rw[if_neg (by rw[wM];omega),afG hD ak ak];have r0:=aiT (s:=t) (a:=0) ak ak
 by_cases hz:jY t 0=(t.length:Int)
 ·have hb:oL t (jY t 0)= -1:=by rw[hz];exact Yw (Int.le_refl _)
  have hb':(oL (t++u) (jY t 0)==46)=false:=by rw[hz,apc];exact mX.2 h46
  rw[hb] at h;rw[hb',aQ];rw[show((-1:Int)==46)=false from rfl,aQ] at h;cases hq:jY t 0==0 with
  |true=>rw[hq,aG] at h;omega
  |false=>rw[hq,aQ] at h;rw[aQ];exact aeB hu ak ak h
 ·rw[aiS ak ak];cases hp:oL t (jY t 0)==46 with
  |true=>
   rw[hp,aG] at h;rw[aG,afG hD ak ak];have r1:=aiT (s:=t) (a:=jY t 0+1) ak ak;cases hq:(jY t 0==0) &&(jY t (jY t 0+1)==jY t 0+1) with
   |true=>rw[hq,aG] at h;omega
   |false=>rw[hq,aQ] at h;rw[aQ];exact aeB hu ak ak h
  |false=>
   rw[hp,aQ] at h;rw[aQ];cases hq:jY t 0==0 with
   |true=>rw[hq,aG] at h;omega
   |false=>rw[hq,aQ] at h;rw[aQ];exact aeB hu ak ak h
def afH{t u:aC}{r:Int}(h0:0<=r):Jp (t++u) ((t.length:Int)+r)=(t.length:Int)+Jp u r:=by
 unfold Jp;rw[Uw h0,Int.add_assoc,Uw ak,Int.add_assoc,YA ak,YA ak];cases(oL u r==101)||(oL u r==69) with
 |false=>rfl
 |true=>rw[aG,aG];have e1:decide ((t.length:Int)+jY u (r+1+1)>(t.length:Int)+(r+1+1))=decide (jY u (r+1+1)>r+1+1):=decide_eq_decide.2 ak;have e2:decide ((t.length:Int)+jY u (r+1)>(t.length:Int)+(r+1))=decide (jY u (r+1)>r+1):=decide_eq_decide.2 ak;rw[e1,e2];cases(oL u (r+1)==43)||(oL u (r+1)==45)<;>cases decide (jY u (r+1+1)>r+1+1)<;>cases decide (jY u (r+1)>r+1)<;>rfl
def apd{t u:aC}(h:0<yP u 0):yP (t++u) (t.length:Int)=(t.length:Int)+yP u 0:=by
 have hu:0<u.length:=by
  cases u with
  |nil=>simp[yP] at h
  |cons=>simp
 have d0:jY (t++u) (t.length:Int)=(t.length:Int)+jY u 0:=by
  have:=YA (t:=t) (u:=u) (a:=0) ak
  rwa [Int.add_zero] at this
 have r0:=aiT (s:=u) (a:=0) ak ak;have d1:jY (t++u) ((t.length:Int)+jY u 0+1)=(t.length:Int)+jY u (jY u 0+1):=by
  have:=YA (t:=t) (u:=u) (a:=jY u 0+1) ak
  rwa [<-Int.add_assoc] at this
 have r1:=aER (s:=u) (a:=jY u 0+1) ak;have c1:¬((t.length:Int)<0\/((t++u).length:Int)<=(t.length:Int)):=by rw[wM];omega
 have c2:¬((0:Int)<0\/(u.length:Int)<=0):=ak;unfold yP at h|-;rw[if_neg c2] at h;rw[if_neg c1,if_neg c2,d0,d1,Uw ak,afH ak,afH ak];have e1:((t.length:Int)+jY u 0==(t.length:Int))=(jY u 0==0):=by rw[Bool.eq_iff_iff,beq_iff_eq,beq_iff_eq];omega
 have e2:((t.length:Int)+jY u (jY u 0+1)==(t.length:Int)+jY u 0+1)=(jY u (jY u 0+1)==jY u 0+1):=by rw[Bool.eq_iff_iff,beq_iff_eq,beq_iff_eq];omega
 rw[e1,e2];revert h;cases oL u (jY u 0)==46 with
 |true=>
  simp only[aG];cases(jY u 0==0) &&(jY u (jY u 0+1)==jY u 0+1) with
  |true=>simp only[aG];omega
  |false=>simp only[aQ];intros;trivial
 |false=>
  simp only[aQ];cases jY u 0==0 with
  |true=>simp only[aG];omega
  |false=>simp only[aQ];intros;trivial
def akW{q:Int}:∀(n:Nat) (l u:aC) (i d:Int),l.length<=n->0<=i->0<=d->0<=Yq q l i->Yq q (l++u) (d+i)=d+Yq q l i
 |n,[],u,i,d,_,_,_,h=>by rw[Yq] at h;omega
 |0,c::l,u,i,d,hn,_,_,_=>by simp at hn
 |n+1,c::l,u,i,d,hn,h0,hd,h=>by
  rw[XH] at h|-;rw[yS] at hn;rw[zca,XH]
  by_cases h1:(c.toNat:Int)=q
  ·rw[if_pos h1,if_pos h1];omega
  rw[if_neg h1] at h;rw[if_neg h1,if_neg h1]
  by_cases h2:(c.toNat:Int)=10
  ·rw[if_pos h2] at h;omega
  rw[if_neg h2] at h;rw[if_neg h2,if_neg h2]
  by_cases h3:(c.toNat:Int)=92
  ·rw[if_pos h3] at h;rw[if_pos h3,if_pos h3];cases l with
   |nil=>simp at h
   |cons e l=>
    simp only[zca] at h|-;rw[yS] at hn
    by_cases h4:(e.toNat:Int)=10
    ·rw[if_pos h4] at h;omega
    rw[if_neg h4] at h;rw[if_neg h4,if_neg h4,Int.add_assoc];exact akW n l u (i+2) d ak ak hd h
  ·rw[if_neg h3] at h;rw[if_neg h3,if_neg h3,Int.add_assoc];exact akW n l u (i+1) d ak ak hd h
def akX{p t u:aC}{q:Int}(h:0<quoted t 0 q):quoted (p++(t++u)) (p.length:Int) q=(p.length:Int)+quoted t 0 q:=by
 have ht:0<t.length:=by
  cases t with
  |nil=>unfold quoted at h;split at h<;>simp[Yq] at h
  |cons=>simp
 have hb:oL (p++(t++u)) (p.length:Int)=oL t 0:=by have:=Uw (t:=p) (u:=t++u) (a:=0) ak;rw[Int.add_zero] at this;rw[this,aiS ak ak]
 unfold quoted at h|-;rw[hb]
 by_cases hq:oL t 0=q
 ·rw[if_pos hq] at h;rw[if_pos hq,if_pos hq];have e:(p++(t++u)).drop ((p.length:Int)+1).toNat=t.drop 1++u:=by rw[akV ak,List.drop_append_of_le_length (show(1:Int).toNat<=t.length from ht)];rfl
  rw[e];have:=akW (q:=q) _ (t.drop 1) u (0+1) (p.length:Int) (zaQ _) ak ak;have e2:(0+1:Int).toNat=1:=rfl;rw[e2] at h|-;rw[show(p.length:Int)+1=(p.length:Int)+(0+1) by omega];exact this ak
 ·rw[if_neg hq] at h;omega
def A8(s:aC):(GN s).size=1:=by simp[GN,Tn.size,sizes]
def abj:Wj.size=1:=by simp[Wj,Tn.size,sizes]
def afI(d:Tn):(adC d).size=d.size+1:=by simp[adC,Tn.size,sizes]
def awc(d:Tn):(ar1 d).size=d.size+1:=by simp[ar1,Tn.size,sizes]
def YB(l:List Tn):(D9 l).size=sizes l+1:=by simp[D9,Tn.size]
def agY:∀(L:List Tn) (b:Bool),sizes (Qw b L)<=sizes L+2 * L.length
 |[],b=>by rw[Qw];simp[sizes]
 |x::l,b=>by have:=agY l false;cases b<;>simp only[Qw,aG,aQ,nH,sizes,A8,abj,yS]<;>omega
def akY(L:List Tn):(XJ L).size<=sizes L+2 * L.length+3:=by have:=agY L true;rw[XJ,awc,afI,YB];omega
def anD:∀(L:List Tn) (j:Nat),(Pv L j).size<=sizes L+1
 |[],j=>by simp[Pv,sizes,A8]
 |x::l,0=>by simp only[Pv,List.getElem?_cons_zero,Option.getD_some,sizes];omega
 |x::l,j+1=>by have:=anD l j;simp only[Pv,List.getElem?_cons_succ,sizes] at this|-;omega
def auq:∀(L:List Tn),(Pv L 0).size+((Pv L 1).size+(Pv L 2).size)<=sizes L+3
 |[]=>by simp[Pv,sizes,A8]
 |[x]=>by simp[Pv,sizes,A8]
 |[x,y]=>by simp[Pv,sizes,A8];omega
 |x::y::z::l=>by simp[Pv,sizes];omega
def Hf{a b:Tn}{N:Nat}(c:Bool)(ha:a.size<=N)(hb:b.size<=N):(bif c then a else b).size<=N:=by cases c<;>assumption
def axV(k op:Int)(n:Nat)(x:aC)(g:Bool)(L:List Tn):(abZ k op n x g L).size<=sizes L+2 * L.length+9:=by
 have h1:=akY L;have h2:=anD L 0;have h3:=auq L;unfold abZ;refine Hf _ ?_ (Hf _ ?_ (Hf _ ?_ (Hf _ ?_ (Hf _ ?_ (Hf _ ?_ (Hf _ ?_ (Hf _ ?_ (Hf _ (Hf _ ?_ ?_) (Hf _ ?_ (Hf _ ?_ ?_))))))))))
 all_goals(simp only[A8,YB,awc,afI,abj,sizes]<;>omega)
def afJ(k op:Int)(n:Nat)(p:Ps):∀(ts:List Tn) (j:Nat),(nZ k op n p ts j).length=ts.length
 |[],j=>by simp[nZ]
 |t::ts,j=>by rw[nZ,yS,afJ k op n p ts (j+1),yS]
def Uj(k op:Int)(n:Nat)(p:Ps)(j:Nat)(u:Tn):Tn:=bif kM k j||fits u.kind u.op (aU k op n j p) then zX u (aU k op n j p) else D9 [GN [40],zX u .top,GN [41]]
def akZ(a:Tn):(D9 [GN [40],a,GN [41]]).size=a.size+3:=by simp only[YB,A8,sizes];omega
def anE{k op:Int}{n:Nat}{p:Ps}{j:Nat}{u:Tn}(h:∀q,(zX u q).size+6<=16 * u.size):(Uj k op n p j u).size+3<=16 * u.size:=by
 unfold Uj;cases(kM k j||fits u.kind u.op (aU k op n j p)) with
 |true=>have:=h (aU k op n j p);rw[aG];omega
 |false=>have:=h .top;rw[aQ,akZ];omega
def ak0{k op:Int}{n:Nat}{p:Ps}:∀{ts:List Tn} {j:Nat},(∀u,u∈ts->∀q,(zX u q).size+6<=16 * u.size)->sizes (nZ k op n p ts j)+3 * ts.length<=16 * sizes ts
 |[],j,_=>by rw[nZ];simp[sizes]
 |t::ts,j,h=>by
  have h1:=anE (k:=k) (op:=op) (n:=n) (p:=p) (j:=j) (h t zmf);have h2:=ak0 (k:=k) (op:=op) (n:=n) (p:=p) (ts:=ts) (j:=j+1) λu hu=>h u (zmm _ hu)
  unfold Uj at h1;rw[nZ,sizes,sizes,yS];omega
def Nj(t:Tn):∀q,(zX t q).size+6<=16 * t.size:=by refine Tn.ind (P:=λt=>∀q,(zX t q).size+6<=16 * t.size) ?_ t;intro k op x y ks ih q;have h1:=axV k op ks.length x (ar2 op (fF k op ks.length q ks 0)) (nZ k op ks.length q ks 0);have h2:=ak0 (k:=k) (op:=op) (n:=ks.length) (p:=q) (ts:=ks) (j:=0) ih;rw[afJ] at h1;rw[zX,Tn.size];omega
def aeC(t:Tn)(q:Ps):(P9 t q).size+3<=16 * t.size:=by
 have h1:=Nj t q;have h2:=Nj t .top;unfold P9;cases fits t.kind t.op q with
 |true=>rw[aG];omega
 |false=>rw[aQ,akZ];omega
def ak1(p:Ps)(L:List Tn):(akS p L).size<=16 * sizes L+3:=by
 have h:∀L:List Tn,sizes (L.map λt=>P9 t p)+3 * L.length<=16 * sizes L:=by
  intro L;induction L with
  |nil=>simp[sizes]
  |cons t l ih=>have:=aeC t p;simp only[zmc,sizes,yS];omega
 have h1:=akY (L.map λt=>P9 t p);have h2:=h L;rw[zaR] at h1;unfold akS;omega
inductive PR(α:Type) where
 |ok (a:α) (i:Nat) (nt:List (aC))
 |bad (i:Nat)
 |out
def PR.bind{α β:Type}(x:PR α)(f:α->Nat->List (aC)->PR β):PR β:=match x with
 | .ok a i nt=>f a i nt
 | .bad i=> .bad i
 | .out=> .out
abbrev jf:=List (aC)
def aP(l:List Tk)(i:Nat):Int:=match l[i]? with|some t=>t.kind|none=>0
def Bv(l:List Tk)(i:Nat):aC:=match l[i]? with|some t=>t.text|none=>[]
def lU(l:List Tk)(k:Int)(i:Nat)(nt:jf):PR Unit:=bif aP l i==k then .ok () (i+1) nt else .bad i
def nameP(l:List Tk)(i:Nat)(nt:jf):PR (aC):=bif aP l i==6 then .ok (Bv l i) (i+1) nt else .bad i
def nlR:List Tk->Nat->jf->Nat×jf
 |[],i,nt=>(i,nt)
 |t::r,i,nt=>bif t.kind==1 then nlR r (i+1) nt else bif t.kind==2 then nlR r (i+1) (nt++[t.text]) else(i,nt)
def nl(l:List Tk)(i:Nat)(nt:jf):Nat×jf:=nlR (l.drop i) i nt
def ab2:List Tk->Nat->jf->Nat×jf
 |[],i,nt=>(i,nt)
 |t::r,i,nt=>bif t.kind==1||t.kind==37 then ab2 r (i+1) nt else bif t.kind==2 then ab2 r (i+1) (nt++[t.text]) else(i,nt)
def sep(l:List Tk)(i:Nat)(nt:jf):Nat×jf:=ab2 (l.drop i) i nt
def Vh(k:Int):Bool:=k==32||(k==34||k==30)
def YC(k:Int):Bool:=k==33||(k==35||k==31)
def ahead:List Tk->Int->Bool
 |[],_=>false
 |t::r,d=>bif Vh t.kind then ahead r (d+1) else bif YC t.kind then(bif decide (d - 1<=0) then false else ahead r (d - 1)) else
   bif t.kind==36 && d==1 then true else bif decide (d<=0) then false else ahead r d
def isStep(k:Int):Bool:=k==51||k==52
def agZ(k:Int):Bool:=k==3||(k==4||(k==6||(k==7||(k==8||(k==32||k==68)))))
abbrev Xp:=Tn×Bool
def tgt(x:Xp):Bool:= !x.2 && SN x.1.kind
def XL(k:Int)(l:List Tk)(i:Nat)(nt:jf):PR Xp:=.ok (.mk k 0 (Bv l i) [] [],false) (i+1) nt
def Gz(lv:Nat)(b:Bool)(k:Int):Bool:=bif Nat.beq lv 8 then agZ k else iT k==(lv:Int) && !(b && k==62)
mutual
def ex(l:List Tk):Nat->Nat->Bool->Bool->Nat->jf->PR Xp
 |0,_,_,_,_,_=> .out
 |n+1,lv,a,b,i,nt=>match lv with
  |1=>(ex l n 2 a b i nt).bind λx i nt=>bif tgt x && Sr (aP l i) then(ex l n 1 a b (i+1) nt).bind λy j nt=> .ok (.mk 15 (aP l i) [] [] [x.1,y.1],false) j nt else .ok x i nt
  |2=>(ex l n 3 a b i nt).bind λx i nt=>bif aP l i==65 then(ex l n 2 a b (i+1) nt).bind λy i nt=>(lU l 66 i nt).bind λ_ i nt=>(ex l n 2 a b i nt).bind λz i nt=>.ok (.mk 14 0 [] [] [x.1,y.1,z.1],false) i nt else .ok x i nt
  |3=>(ex l n 4 a b i nt).bind λx i nt=>chP l n 3 a b x i nt
  |4=>(ex l n 5 a b i nt).bind λx i nt=>chP l n 4 a b x i nt
  |5=>bif(aP l i==32 && !a) && ahead (l.drop i) 0 then
    (WM l n 33 (i+1) nt).bind λL i nt=>(lU l 24 i nt).bind λ_ i nt=>(nameP l i nt).bind λs i nt=>inP l n a (.mk 13 0 s [] L,false) i nt
   else(ex l n 6 a b i nt).bind λx i nt=>inP l n a x i nt
  |6=>(ex l n 7 a b i nt).bind λx i nt=>bif aP l i==67||aP l i==46 then(ex l n 7 a b (i+1) nt).bind λy j nt=> .ok (.mk 12 (aP l i) [] [] [x.1,y.1],false) j nt else .ok x i nt
  |7=>(ex l n 8 a b i nt).bind λx i nt=>bif Gz 7 b (aP l i) then(ex l n 8 a b (i+1) nt).bind λy j nt=> .ok (.mk 12 (aP l i) [] [] [x.1,y.1],false) j nt else .ok x i nt
  |8=>(ex l n 9 a b i nt).bind λx i nt=>chP l n 8 a b x i nt
  |9=>(ex l n 10 a b i nt).bind λx i nt=>chP l n 9 a b x i nt
  |10=>(ex l n 11 a b i nt).bind λx i nt=>chP l n 10 a b x i nt
  |11=>bif aP l i==55||(aP l i==56||aP l i==61) then(ex l n 11 a b (i+1) nt).bind λx j nt=> .ok (.mk 11 (aP l i) [] [] [x.1],false) j nt
   else ex l n 12 a b i nt
  |12=>(ex l n 13 a b i nt).bind λx i nt=>bif aP l i==60 then(ex l n 11 a b (i+1) nt).bind λy j nt=> .ok (.mk 12 60 [] [] [x.1,y.1],false) j nt else .ok x i nt
  |13=>bif isStep (aP l i) then afK l n i nt else(ex l n 14 a b i nt).bind λx i nt=>bif tgt x && isStep (aP l i) then .ok (.mk 10 (aP l i) [] [] [x.1],false) (i+1) nt else .ok x i nt
  |14=>bif aP l i==68 then
    (bif isStep (aP l (i+1)) then afK l n (i+1) nt else ex l n 14 a b (i+1) nt).bind λx i nt=> .ok (.mk 6 0 [] [] [x.1],false) i nt
   else ex l n 15 a b i nt
  |_=>bif aP l i==3 then XL 2 l i nt else bif aP l i==4 then XL 3 l i nt else bif aP l i==5 then XL 4 l i nt else
   bif aP l i==6 then
    (bif aP l (i+1)==34 then(WO l n false false [] (i+2) nt).bind λL j nt=>(lU l 35 j nt).bind λ_ j nt=> .ok (.mk 5 0 (Bv l i) [] L,false) j nt
     else XL 1 l i nt) else
   bif aP l i==7||aP l i==8 then
    (bif aP l i==8 &&(Bv l i==[108,101,110,103,116,104] && !(aP l (i+1)==32)) then XL 8 l i nt else
     (lU l 32 (i+1) nt).bind λ_ j nt=>(WM l n 33 j nt).bind λL j nt=> .ok (.mk (aP l i) 0 (Bv l i) [] L,false) j nt) else
   bif aP l i==32 then(ex l n 1 false false (i+1) nt).bind λx i nt=>(lU l 33 i nt).bind λ_ i nt=> .ok (x.1,true) i nt else .bad i
def chP(l:List Tk):Nat->Nat->Bool->Bool->Xp->Nat->jf->PR Xp
 |0,_,_,_,_,_,_=> .out
 |n+1,lv,a,b,x,i,nt=>bif Gz lv (b && Nat.beq lv 7) (aP l i) then
   (let op:=bif Nat.beq lv 8 then 99 else aP l i
    let q:=bif Nat.beq lv 8 then(i,nt) else bif Nat.ble lv 4 then nl l (i+1) nt else(i+1,nt)
    (ex l n (lv+1) a b q.1 q.2).bind λy i nt=>chP l n lv a b (.mk 12 op [] [] [x.1,y.1],false) i nt)
  else .ok x i nt
def inP(l:List Tk):Nat->Bool->Xp->Nat->jf->PR Xp
 |0,_,_,_,_=> .out
 |n+1,a,x,i,nt=>bif aP l i==24 && !a then(nameP l (i+1) nt).bind λs i nt=>inP l n a (.mk 13 0 s [] [x.1],false) i nt else .ok x i nt
def afK(l:List Tk):Nat->Nat->jf->PR Xp
 |0,_,_=> .out
 |n+1,i,nt=>bif aP l (i+1)==68||aP l (i+1)==6 then(ex l n 14 false false (i+1) nt).bind λx j nt=> .ok (.mk 9 (aP l i) [] [] [x.1],false) j nt else .bad (i+1)
def WM(l:List Tk):Nat->Int->Nat->jf->PR (List Tn)
 |0,_,_,_=> .out
 |n+1,e,i,nt=>bif aP l i==e then .ok [] (i+1) nt else(WO l n false false [] i nt).bind λL i nt=>(lU l e i nt).bind λ_ i nt=> .ok L i nt
def WO(l:List Tk):Nat->Bool->Bool->List Tn->Nat->jf->PR (List Tn)
 |0,_,_,_,_,_=> .out
 |n+1,a,b,L,i,nt=>(ex l n 1 a b i nt).bind λx i nt=>bif aP l i==36 then(bif Nat.beq (L.length+1) 6 then .bad i else WO l n a b (L++[x.1]) (nl l (i+1) nt).1 (nl l (i+1) nt).2) else .ok (L++[x.1]) i nt
end
def Wp(k:Int):Bool:=k==0||(k==1||(k==2||(k==37||k==31)))
def Py(k:Int):Bool:=k==62||(k==53||k==64)
def Y8(nt:jf):List Tn:=nt.map λs=> .mk 34 0 s [] []
def endP{α:Type}(l:List Tk)(x:α)(i:Nat)(nt:jf):PR α:=bif Wp (aP l i) then .ok x i nt else .bad i
def adD(l:List Tk)(n i:Nat)(nt:jf):PR Tn:=(lU l 32 i nt).bind λ_ i nt=>(ex l n 1 false false i nt).bind λx i nt=>(lU l 33 i nt).bind λ_ i nt=> .ok x.1 i nt
def Vj(l:List Tk)(n:Nat)(e:Int)(a:Bool)(i:Nat)(nt:jf):PR Tn:=bif aP l i==e then .ok (.mk 16 0 [] [] []) i nt else(ex l n 1 a false i nt).bind λx i nt=> .ok x.1 i nt
def aur(l:List Tk)(n i:Nat)(nt:jf):PR Tn:=
 (bif aP l i==26|| !(Wp (aP l (i+1))||Py (aP l (i+1))) then WO l n false true [] (i+1) nt else .ok [] (i+1) nt).bind λL j nt=>
  bif Py (aP l j) then(ex l n 9 false false (j+1) nt).bind λx k nt=> .ok (.mk 21 (aP l i - 25) [] (Bv l j) (L++[x.1])) k nt
  else .ok (.mk 21 (aP l i - 25) [] [] L) j nt
def anF(l:List Tk)(n:Nat)(k:Int)(i:Nat)(nt:jf):PR Tn:=
 bif Wp (aP l (i+1)) then .ok (.mk k 0 [] [] []) (i+1) nt else(ex l n 1 false false (i+1) nt).bind λx i nt=> .ok (.mk k 0 [] [] [x.1]) i nt
def aAx(l:List Tk)(n i:Nat)(nt:jf):PR Tn:=(nameP l (i+1) nt).bind λs i nt=>bif aP l i==34 then(WO l n false false [] (i+1) nt).bind λL i nt=>(lU l 35 i nt).bind λ_ i nt=> .ok (.mk 27 0 s [] L) i nt else .ok (.mk 27 0 s [] []) i nt
def aus(l:List Tk)(n i:Nat)(nt:jf):PR Tn:=
 bif aP l i==25||aP l i==26 then aur l n i nt else bif aP l i==20 then .ok (.mk 22 0 [] [] []) (i+1) nt else bif aP l i==18 then .ok (.mk 25 0 [] [] []) (i+1) nt else
 bif aP l i==19 then .ok (.mk 26 0 [] [] []) (i+1) nt else bif aP l i==21 then anF l n 23 i nt else bif aP l i==22 then anF l n 24 i nt else
 bif aP l i==23 then aAx l n i nt else(ex l n 1 false false i nt).bind λx i nt=> .ok (.mk 20 0 [] [] [x.1]) i nt
mutual
def stP(l:List Tk):Nat->Nat->jf->PR Tn
 |0,_,_=> .out
 |n+1,i,nt=>
  bif aP l i==30 then Vk l n i nt else
  bif aP l i==13 then(adD l n (i+1) nt).bind λx i nt=>(E9 l n i nt).bind λy i nt=>
   (let q:=sep l i nt
    bif aP l q.1==14 then(E9 l n (q.1+1) q.2).bind λz i nt=> .ok (.mk 28 0 [] [] [x,y,z]) i nt else .ok (.mk 28 0 [] [] [x,y]) i nt) else
  bif aP l i==15 then(adD l n (i+1) nt).bind λx i nt=>(E9 l n i nt).bind λy i nt=> .ok (.mk 29 0 [] [] [x,y]) i nt else
  bif aP l i==17 then(E9 l n (i+1) nt).bind λx i nt=>(lU l 15 (sep l i nt).1 (sep l i nt).2).bind λ_ i nt=>(adD l n i nt).bind λy i nt=>endP l (.mk 30 0 [] [] [x,y]) i nt else
  bif aP l i==16 then(lU l 32 (i+1) nt).bind λ_ i nt=>
   (bif aP l i==6 && aP l (i+1)==24 then(nameP l (i+2) nt).bind λs j nt=>(lU l 33 j nt).bind λ_ j nt=>(E9 l n j nt).bind λy j nt=> .ok (.mk 32 0 (Bv l i) s [y]) j nt
    else(Vj l n 37 true i nt).bind λx i nt=>(lU l 37 i nt).bind λ_ i nt=>(Vj l n 37 false (nl l i nt).1 (nl l i nt).2).bind λy i nt=>
    (lU l 37 i nt).bind λ_ i nt=>(Vj l n 33 false (nl l i nt).1 (nl l i nt).2).bind λz i nt=>(lU l 33 i nt).bind λ_ i nt=>
    (E9 l n i nt).bind λw i nt=> .ok (.mk 31 0 [] [] [x,y,z,w]) i nt) else
  (aus l n i nt).bind λx i nt=>endP l x i nt
def Vk(l:List Tk):Nat->Nat->jf->PR Tn
 |0,_,_=> .out
 |n+1,i,nt=>(lU l 30 i nt).bind λ_ i nt=>(aeD l n [] i nt).bind λL i nt=> .ok (.mk 33 0 [] [] L) i nt
def aeD(l:List Tk):Nat->List Tn->Nat->jf->PR (List Tn)
 |0,_,_,_=> .out
 |n+1,L,i,nt=>
  (let q:=sep l i nt
   bif aP l q.1==31 then .ok (L++Y8 q.2) (q.1+1) [] else bif aP l q.1==0 then .bad q.1 else
   (stP l n q.1 []).bind λs i nt=>aeD l n ((L++Y8 q.2)++[s]) i nt)
def E9(l:List Tk):Nat->Nat->jf->PR Tn
 |0,_,_=> .out
 |n+1,i,nt=>
  (let q:=nl l i nt
   bif aP l q.1==30 then Vk l n q.1 q.2 else bif aP l q.1==37 then .ok (.mk 33 0 [] [] (Y8 q.2)) (q.1+1) [] else
   (stP l n q.1 []).bind λs i nt=> .ok (.mk 33 0 [] [] (Y8 q.2++[s])) i nt)
end
def SB(l:List Tk):Nat->List Tn->Nat->jf->PR (List Tn)
 |0,_,_,_=> .out
 |n+1,L,i,nt=>(nameP l i nt).bind λs i nt=>bif aP l i==36 then(bif Nat.beq (L.length+1) 6 then .bad i else SB l n (L++[.mk 1 0 s [] []]) (nl l (i+1) nt).1 (nl l (i+1) nt).2) else .ok (L++[.mk 1 0 s [] []]) i nt
def aAy(l:List Tk)(n i:Nat)(nt:jf):PR Tn:=
 bif aP l i==6||aP l i==7 then
  (lU l 32 (i+1) nt).bind λ_ j nt=>(bif aP l j==33 then .ok [] j nt else SB l n [] j nt).bind λL j nt=>(lU l 33 j nt).bind λ_ j nt=>(Vk l n (nl l j nt).1 (nl l j nt).2).bind λb j nt=> .ok (.mk 44 0 (Bv l i) [] (L++[b])) j nt
 else .bad i
def adE(l:List Tk)(n i:Nat)(nt:jf):PR Tn:=
 bif aP l i==10 then(Vk l n (i+1) nt).bind λb i nt=> .ok (.mk 40 0 [] [] [b]) i nt else
 bif aP l i==11 then(Vk l n (i+1) nt).bind λb i nt=> .ok (.mk 41 0 [] [] [b]) i nt else
 bif aP l i==12 then aAy l n (i+1) nt else
 bif aP l i==30 then(Vk l n i nt).bind λb i nt=> .ok (.mk 42 2 [] [] [b]) i nt else
 (ex l n 1 false false i nt).bind λx i nt=>(bif aP l i==36 then(ex l n 1 false false (nl l (i+1) nt).1 (nl l (i+1) nt).2).bind λy i nt=> .ok (43,[x.1,y.1]) i nt else .ok (42,[x.1]) i nt:PR (Int×List Tn)).bind λq i nt=>bif aP l i==30 then(Vk l n i nt).bind λb i nt=> .ok (.mk q.1 3 [] [] (q.2++[b])) i nt else endP l (.mk q.1 1 [] [] q.2) i nt
def Vl(l:List Tk):Nat->List Tn->Nat->jf->PR (List Tn)
 |0,_,_,_=> .out
 |n+1,L,i,nt=>
  (let q:=sep l i nt
   bif aP l q.1==0 then .ok (L++Y8 q.2) q.1 [] else bif aP l q.1==31 then .bad q.1 else
   (adE l n q.1 []).bind λs i nt=>Vl l n ((L++Y8 q.2)++[s]) i nt)
def PR.sat{α:Type}(P:α->Nat->jf->Prop)(x:PR α):Prop:=match x with
 | .ok a i nt=>P a i nt
 |_=>True
variable {l:List Tk}
def jH{i:Nat}(h:aP l i≠0):i<l.length:=by
 unfold aP at h;cases hq:l[i]? with
 |none=>rw[hq] at h;exact absurd rfl h
 |some t=>exact(NV.1 hq).1
def aAz{k:Int}(h:Sr k=true):k≠0:=by rintro rfl;exact absurd h (by decide)
def abC{k:Int}(h:isStep k=true):k≠0:=by rintro rfl;exact absurd h (by decide)
def ape{lv:Nat}{b:Bool}{k:Int}(h3:3<=lv)(h:Gz lv b k=true):k≠0:=by
 rintro rfl;unfold Gz at h;cases hb:Nat.beq lv 8 with
 |true=>rw[hb,aG] at h;exact absurd h (by decide)
 |false=>
  rw[hb,aQ,rZ] at h;have h1:(0:Int)=(lv:Int):=by simpa[iT] using h.1
  omega
inductive Fld:Int->Int->aC->aC->Nat->Prop where
 |name {x:aC}:DY x=true->Fld 1 0 x [] 0
 |tok {k:Int} {x:aC}:k=2\/k=3\/k=4->iR (k+1) x=true->Fld k 0 x [] 0
 |index {k:Int} {x:aC} {n:Nat}:k=5\/k=13->DY x=true->1<=n->n<=6->Fld k 0 x [] n
 |call {k:Int} {x:aC} {n:Nat}:k=7\/k=27->DY x=true->n<=6->Fld k 0 x [] n
 |blt {x:aC} {n:Nat}:P8 x=true->n<=6->Fld 8 0 x [] n
 |one {k:Int}:k=6\/k=20\/k=40\/k=41->Fld k 0 [] [] 1
 |step {k op:Int}:k=9\/k=10->op=51\/op=52->Fld k op [] [] 1
 |una {op:Int}:op=55\/op=56\/op=61->Fld 11 op [] [] 1
 |bin {op:Int}:akK op=true->Fld 12 op [] [] 2
 |cond:Fld 14 0 [] [] 3
 |asg {op:Int}:Sr op=true->Fld 15 op [] [] 2
 |none {k:Int}:k=16\/k=22\/k=25\/k=26->Fld k 0 [] [] 0
 |prn {op:Int} {n:Nat}:op=0\/op=1->op<=n->n<=6->Fld 21 op [] [] n
 |prt {op:Int} {y:aC} {n:Nat}:op=0\/op=1->y=[62]\/y=[62,62]\/y=[124]->op+1<=n->n<=7->Fld 21 op [] y n
 |word {k:Int} {n:Nat}:k=23\/k=24->n<=1->Fld k 0 [] [] n
 |if_ {n:Nat}:n=2\/n=3->Fld 28 0 [] [] n
 |two {k:Int}:k=29\/k=30->Fld k 0 [] [] 2
 |for_:Fld 31 0 [] [] 4
 |ar9 {x y:aC}:DY x=true->DY y=true->Fld 32 0 x y 1
 |many {k:Int} {n:Nat}:k=33\/k=45->Fld k 0 [] [] n
 |com {x:aC}:iR 2 x=true->Fld 34 0 x [] 0
 |rule {op:Int} {n:Nat}:((op=1\/op=2)/\n=1)\/(op=3/\n=2)->Fld 42 op [] [] n
 |range {op:Int} {n:Nat}:(op=1/\n=2)\/(op=3/\n=3)->Fld 43 op [] [] n
 |func {x:aC} {n:Nat}:DY x=true->1<=n->n<=7->Fld 44 0 x [] n
mutual
def Wq:Tn->Prop
 | .mk k op x y ks=>Fld k op x y ks.length/\rts k op ks.length ks 0
def rts(k op:Int)(n:Nat):List Tn->Nat->Prop
 |[],_=>True
 |t::ts,j=>Px (cls k op n j) t.kind/\(Wq t)/\rts k op n ts (j+1)
end
def apf{k op:Int}{n:Nat}:∀{ks:List Tn} {j:Nat},(∀i t,ks[i]? =some t->Px (cls k op n (j+i)) t.kind/\Wq t)->rts k op n ks j
 |[],_,_=>by rw[rts];trivial
 |t::ts,j,h=>by
  rw[rts];have h0:=h 0 t rfl;refine⟨h0.1,h0.2,apf λi u hu=> ?_⟩;have:=h (i+1) u (by rw[List.getElem?_cons_succ];exact hu)
  rwa [show j+(i+1)=j+1+i by omega] at this
def YD{k op:Int}{n:Nat}:∀{ks:List Tn} {j i:Nat} {t:Tn},rts k op n ks j->ks[i]? =some t->Px (cls k op n (j+i)) t.kind/\(Wq t)
 |[],_,i,_,_,h=>by simp at h
 |u::ts,j,0,t,h,e=>by rw[rts] at h;cases e;exact⟨h.1,h.2.1⟩
 |u::ts,j,i+1,t,h,e=>by rw[rts] at h;rw[List.getElem?_cons_succ] at e;have:=YD h.2.2 e;rw[show j+1+i=j+(i+1) by omega] at this;exact this
def aRN{k:Int}(hk:(1<=k/\k<=8)\/(11<=k/\k<=14)\/(20<=k/\k<=27))(op:Int)(n j:Nat):cls k op n j=0:=by unfold cls;repeat(rw[if_neg ak])
def anG{op:Int}(h:akK op=true):iT op≠0/\op≠61:=by
 have hc:op=60\/op=57\/op=58\/op=59\/op=55\/op=56\/op=99\/op=63\/op=48\/op=47\/op=50\/op=62\/op=49\/op=67\/op=46\/op=45\/op=44:=by simp only[akK,Bool.or_eq_true,beq_iff_eq] at h;omega
 rcases hc with rfl|rfl|rfl|rfl|rfl|rfl|rfl|rfl|rfl|rfl|rfl|rfl|rfl|rfl|rfl|rfl|rfl<;>decide
def asa{op:Int}(h:Sr op=true):op=54\/(38<=op/\op<=43):=by simp only[Sr,Bool.or_eq_true,rZ,beq_iff_eq,decide_eq_true_eq] at h;omega
def ak2{α:Type}{p:Nat->α->Bool}:∀{l:List α} {i j:Nat} {x:α},Yu p l i=true->l[j]? =some x->p (i+j) x=true
 |[],_,j,_,_,h=>by simp at h
 |y::l,i,0,x,h,e=>by rw[Yu,rZ] at h;cases e;exact h.1
 |y::l,i,j+1,x,h,e=>by
  rw[Yu,rZ] at h;rw[List.getElem?_cons_succ] at e;have:=ak2 h.2 e
  rwa [show i+1+j=i+(j+1) by omega] at this
def aAA{k op:Int}{n:Nat}:∀{ks:List Tn} {j:Nat},(∀i t,ks[i]? =some t->Px (cls k op n (j+i)) t.kind/\Kz t)->oks k op n ks j
 |[],_,_=>by rw[oks];trivial
 |t::ts,j,h=>by
  rw[oks];have h0:=h 0 t rfl;refine⟨h0.1,h0.2,aAA λi u hu=> ?_⟩;have:=h (i+1) u (by rw[List.getElem?_cons_succ];exact hu)
  rwa [show j+(i+1)=j+1+i by omega] at this
def fx0{t e d:Bool}(h:((bif t then some e else some false).bind λr=>bif r then some d else some false)=some true):t=true/\e=true/\d=true:=by revert h;cases t<;>cases e<;>cases d<;>simp
def fx1{c t e d:Bool}(h:(bif c then((bif t then some e else some false).bind λr=>bif r then some d else some false) else some false)=some true):c=true/\t=true/\e=true/\d=true:=by
 cases c with
 |true=>exact⟨rfl,fx0 h⟩
 |false=>cases h
def bd2{n:Nat}{a b:Int}(h:(decide (a<=(n:Int)) && decide ((n:Int)<=b))=true):a<=(n:Int)/\(n:Int)<=b:=by simpa using h
set_option maxHeartbeats 1000000 in
def aJt{k op:Int}{x y:aC}{kids:ay}(he:1<=k/\k<=15)(hx:x.length<=1048576)(hy:y.length<=1048576)(h:M.bJ k op x y kids=some true):Fld k op x y kids.length:=by
 have hN:=(Ut x hx).1;have hB:=(Gx x).1;have h3:=(Qv 3 x 0 hx ⟨ak,ak⟩).1;have h4:=(Qv 4 x 0 hx ⟨ak,ak⟩).1;have h5:=(Qv 5 x 0 hx ⟨ak,ak⟩).1;have hk:k=1\/k=2\/k=3\/k=4\/k=5\/k=6\/k=7\/k=8\/k=9\/k=10\/k=11\/k=12\/k=13\/k=14\/k=15:=ak;generalize hn:kids.length=n at h|-;rcases hk with rfl|rfl|rfl|rfl|rfl|rfl|rfl|rfl|rfl|rfl|rfl|rfl|rfl|rfl|rfl
 all_goals simp only[M.bJ,M.bY,M.dZ,M.dQ,M.fV,M.fG,M.dW,M.dR,kF,(akL op).1,(Wi op).1,hN,hB,h3,h4,h5,hn,ge_iff_le,Int.reduceBEq,reduceLE,decide_true,aG,aQ,Bool.and_true,Bool.true_and,ah] at h
 all_goals simp at h
 case inl=>obtain⟨a1,a2,a3,a4⟩:=fx1 h;simp at a1 a3 a4;subst a1 a3 a4;exact .name a2
 case inr.inl=>obtain⟨a1,a2,a3,a4⟩:=fx1 h;simp at a1 a3 a4;subst a1 a3 a4;exact .tok (.inl rfl) a2
 case inr.inr.inl=>obtain⟨a1,a2,a3,a4⟩:=fx1 h;simp at a1 a3 a4;subst a1 a3 a4;exact .tok (.inr (.inl rfl)) a2
 case inr.inr.inr.inl=>obtain⟨a1,a2,a3,a4⟩:=fx1 h;simp at a1 a3 a4;subst a1 a3 a4;exact .tok (.inr (.inr rfl)) a2
 case inr.inr.inr.inr.inl=>obtain⟨a1,a2,a3,a4⟩:=fx1 h;simp at a1 a3;have a4:=bd2 a4;subst a1 a3;exact .index (.inl rfl) a2 ak ak
 case inr.inr.inr.inr.inr.inl=>obtain⟨a1,a2,a3,a4⟩:=fx1 h;simp at a1 a2 a3;have a4:=bd2 a4;obtain rfl:n=1:=ak;subst a1 a2 a3;exact .one (.inl rfl)
 case inr.inr.inr.inr.inr.inr.inl=>obtain⟨a1,a2,a3,a4⟩:=fx1 h;simp at a1 a3 a4;subst a1 a3;exact .call (.inl rfl) a2 ak
 case inr.inr.inr.inr.inr.inr.inr.inl=>obtain⟨a1,a2,a3,a4⟩:=fx1 h;simp at a1 a3 a4;subst a1 a3;exact .blt a2 ak
 case inr.inr.inr.inr.inr.inr.inr.inr.inl=>
  have ho:op=51\/op=52:=by
   by_cases h1:op=51
   ·exact .inl h1
   ·by_cases h2:op=52
    ·exact .inr h2
    ·rw[mX.2 h1,mX.2 h2] at h;cases h
  obtain⟨a2,a3,a4⟩:=fx0 (by rcases ho with rfl|rfl<;>exact h);simp at a2 a3;have a4:=bd2 a4;obtain rfl:n=1:=ak;subst a2 a3;exact .step (.inl rfl) ho
 case inr.inr.inr.inr.inr.inr.inr.inr.inr.inl=>
  have ho:op=51\/op=52:=by
   by_cases h1:op=51
   ·exact .inl h1
   ·by_cases h2:op=52
    ·exact .inr h2
    ·rw[mX.2 h1,mX.2 h2] at h;cases h
  obtain⟨a2,a3,a4⟩:=fx0 (by rcases ho with rfl|rfl<;>exact h);simp at a2 a3;have a4:=bd2 a4;obtain rfl:n=1:=ak;subst a2 a3;exact .step (.inr rfl) ho
 case inr.inr.inr.inr.inr.inr.inr.inr.inr.inr.inl=>
  have ho:op=55\/op=56\/op=61:=by
   by_cases h1:op=55
   ·exact .inl h1
   ·by_cases h2:op=56
    ·exact .inr (.inl h2)
    ·by_cases h3:op=61
     ·exact .inr (.inr h3)
     ·rw[mX.2 h1,mX.2 h2,mX.2 h3] at h;cases h
  obtain⟨a2,a3,a4⟩:=fx0 (by rcases ho with rfl|rfl|rfl<;>exact h);simp at a2 a3;have a4:=bd2 a4;obtain rfl:n=1:=ak;subst a2 a3;exact .una ho
 case inr.inr.inr.inr.inr.inr.inr.inr.inr.inr.inr.inl=>obtain⟨a1,a2,a3,a4⟩:=fx1 h;simp at a2 a3;have a4:=bd2 a4;obtain rfl:n=2:=ak;subst a2 a3;exact .bin a1
 case inr.inr.inr.inr.inr.inr.inr.inr.inr.inr.inr.inr.inl=>obtain⟨a1,a2,a3,a4⟩:=fx1 h;simp at a1 a3;have a4:=bd2 a4;subst a1 a3;exact .index (.inr rfl) a2 ak ak
 case inr.inr.inr.inr.inr.inr.inr.inr.inr.inr.inr.inr.inr.inl=>obtain⟨a1,a2,a3,a4⟩:=fx1 h;simp at a1 a2 a3;have a4:=bd2 a4;obtain rfl:n=3:=ak;subst a1 a2 a3;exact .cond
 case inr.inr.inr.inr.inr.inr.inr.inr.inr.inr.inr.inr.inr.inr=>obtain⟨a1,a2,a3,a4⟩:=fx1 h;simp at a2 a3;have a4:=bd2 a4;obtain rfl:n=2:=ak;subst a2 a3;exact .asg a1
def aES{k op:Int}{x y:aC}{n:Nat}(he:1<=k/\k<=15)(h:Fld k op x y n):Cnt k op y n:=by
 cases h with
 |bin hb=>constructor<;>intros<;>first|omega|exact anG hb
 |asg ha=>constructor<;>intros<;>first|omega|exact asa ha
 |_=>constructor<;>intros<;>first|omega|assumption|(exfalso;omega)
def kkE{k op:Int}{x y:aC}{kids:ay}{j:Nat}{d:Int}(he:1<=k/\k<=15)(h:M.dN k op x y kids (j:Int) d=some true):Px (cls k op kids.length j) d/\(1<=d/\d<=15):=by
 have hE:akM d=true->1<=d/\d<=15:=λh=>by unfold akM at h;rw[rZ,decide_eq_true_eq,decide_eq_true_eq] at h;exact h
 have hL:SN d=true->d=1\/d=5\/d=6:=λh=>by unfold SN at h;rw[Bool.or_eq_true,Bool.or_eq_true,beq_iff_eq,beq_iff_eq,beq_iff_eq] at h;exact h
 have hk:k=9\/k=10\/k=15\/k=1\/k=2\/k=3\/k=4\/k=5\/k=6\/k=7\/k=8\/k=11\/k=12\/k=13\/k=14:=ak;rcases hk with rfl|rfl|rfl|rfl|rfl|rfl|rfl|rfl|rfl|rfl|rfl|rfl|rfl|rfl|rfl
 all_goals simp only[M.dN,M.dX,M.bZ,(uU d).1,(Sv d).1,ah,Int.reduceBEq,aG,aQ] at h
 case inl=>have h:=hL (Option.some.inj h);exact⟨by simpa[cls,Px] using h,ak⟩
 case inr.inl=>have h:=hL (Option.some.inj h);exact⟨by simpa[cls,Px] using h,ak⟩
 case inr.inr.inl=>
  cases hx:akM d with
  |false=>rw[hx] at h;cases h
  |true=>
   have hd:=hE hx;rw[hx] at h
   by_cases hj:j=0
   ·subst hj;have h:=hL (by simpa using h);exact⟨by simpa[cls,Px] using h,hd⟩
   ·exact⟨by simpa[cls,Px,hj] using hd,hd⟩
 all_goals
  have h:=hE (Option.some.inj h);exact⟨by simpa[cls,Px] using h,h⟩
def aET{l:List Nd}(hall:Yu (np l) l 0=true)(hsm:∀n,n∈l->Small n)(hkl:∀n,n∈l->n.kids.length<=400)(t:Tn):∀b,Lies l b t->PW t->Kz t/\Wq t:=by
 refine Tn.ind (P:=λt=>∀b,Lies l b t->PW t->Kz t/\Wq t) ?_ t;intro k op x y ks ih b h he;have hr:=h.root;have hm:=WW hr;have hn:=ak2 hall hr;unfold np at hn;rw[rZ] at hn;have hf:=(aAq (hsm _ hm) (hkl _ hm)).1;rw[hn.1] at hf;have hs:=hsm _ hm;simp only[PW,Tn.kind] at he;have hF:=aJt he hs.1 hs.2 hf;rw[eH,jr] at hF;have kd:∀i u,ks[i]? =some u->Px (cls k op ks.length i) u.kind/\Kz u/\Wq u:=λi u hu=>by
  have hee:=afC (b:=b) hu;have hlt:=(NV.1 hu).1;have hk:=ak2 hn.2 hee;have hroot:=Lies.root' (Lies.aes h hu);unfold kp at hk;rw[Zt] at hk;have hnd:(aue l (b+sizes (ks.take i)+sizes u.kids)).kind=u.kind:=by rw[aue,hroot]
  rw[hnd,Nat.zero_add] at hk;have hko:=(aAr (hsm _ hm) (hkl _ hm) hn.1 i (by rw[jr];omega) u.kind).1;rw[hk] at hko;have h2:=kkE he hko;rw[eH,jr] at h2;exact⟨h2.1,ih u (WW hu) _ (Lies.aes h hu) h2.2⟩
 refine⟨?_, ?_⟩
 ·rw[Kz];exact⟨.inl ⟨he.1,ak⟩,aES he hF,aAA λi u hu=>by rw[Nat.zero_add];exact⟨(kd i u hu).1,(kd i u hu).2.1⟩⟩
 ·rw[Wq];exact⟨hF,apf λi u hu=>by rw[Nat.zero_add];exact⟨(kd i u hu).1,(kd i u hu).2.2⟩⟩
def ak3{t:Tn}(h:KH (t.flat 0)=true)(hsm:∀n,n∈t.flat 0->Small n)(he:PW t):Kz t/\Wq t:=by unfold KH at h;rw[rZ,rZ] at h;obtain⟨r,hv⟩:=aud h.1;exact aET h.2.2 hsm hv.aAs t 0 (Lies.whole t) he
def aut(k n:Int)(x:aC)(c:Nat):Bool:=
 bif(!(k==4) && !(n==0))||(!(k==1) && !(x==[])) then false else
 bif k==1 then !(hasB 10 x) && Nat.beq c 0 else bif k==2||k==3 then Nat.beq c 0 else bif k==4 then(decide (0<=n) && decide (n<=40)) && Nat.beq c 1 else
 bif k==5 then Nat.beq c 1 else k==6
mutual
def dOk:Tn->Bool
 | .mk k n x _ ks=>axW ks && aut k n x ks.length
def axW:List Tn->Bool
 |[]=>true
 |t::ts=>(dOk t) && axW ts
end
mutual
def Qa:Tn->Option (aC)
 | .mk k _ x _ ks=>bif k==1 then some x else bif k==2 then some [32] else bif k==3 then none else Jr ks
def Jr:List Tn->Option (aC)
 |[]=>some []
 |t::ts=>match(Qa t) with
  |none=>none
  |some a=>match Jr ts with
   |none=>none
   |some b=>some (a++b)
end
def anH(s:aC):∀(l:List (aC)) (i:Int),P7 s l i>=0->s∈l
 |[],i,h=>by rw[P7] at h;omega
 |x::l,i,h=>by
  rw[P7] at h;split at h
  ·next hx=>rw[beq_iff_eq] at hx;rw[hx];exact zmf
  ·exact zmm _ (anH s l (i+1) h)
inductive TkC:Int->aC->Prop where
 |nl:TkC 1 [10]
 |com {t:aC}:rY t=35->hasB 10 t=false->TkC 2 t
 |num {t:aC}:yP t 0=(t.length:Int)->TkC 3 t
 |str {t:aC}:quoted t 0 34=(t.length:Int)->TkC 4 t
 |ere {t:aC}:MX t 0=(t.length:Int)->TkC 5 t
 |name {k:Int} {t:aC}:k=6\/k=7->DY t=true->TkC k t
 |blt {t:aC}:t∈agS->TkC 8 t
 |kw {j:Nat} {t:aC}:j<17->Ve[j]? =some t->TkC (10+(j:Int)) t
 |op {j:Nat} {t:aC}:j<39->vT[j]? =some t->TkC (30+(j:Int)) t
def aAB(s:aC)(h:P7 s agS 0>=0):s∈agS:=anH s agS 0 h
def aEU:Ve.length=17:=rfl
def aEV:vT.length=39:=rfl
def NP{k:Int}{t:aC}(h:iR k t=true):t≠[]/\TkC k t:=by
 unfold iR at h;cases ht:t==[] with
 |true=>rw[ht] at h;cases h
 |false=>
  rw[ht,aQ] at h;refine⟨λe=>(by rw[e] at ht;cases ht), ?_⟩
  by_cases h2:k=2
  ·subst h2;rw[show((2:Int)==2)=true from rfl,aG,rZ,beq_iff_eq,Bool.not_eq_true',av9] at h;exact .com h.1 h.2
  rw[mX.2 h2,aQ] at h
  by_cases h3:k=3
  ·subst h3;rw[show((3:Int)==3)=true from rfl,aG,beq_iff_eq] at h;exact .num h
  rw[mX.2 h3,aQ] at h
  by_cases h4:k=4
  ·subst h4;rw[show((4:Int)==4)=true from rfl,aG,beq_iff_eq] at h;exact .str h
  rw[mX.2 h4,aQ] at h
  by_cases h5:k=5
  ·subst h5;rw[show((5:Int)==5)=true from rfl,aG,beq_iff_eq] at h;exact .ere h
  rw[mX.2 h5,aQ] at h
  by_cases h6:k=6
  ·subst h6;rw[show((6:Int)==6)=true from rfl,aG] at h;exact .name (.inl rfl) h
  rw[mX.2 h6,aQ] at h
  by_cases h7:k=7
  ·subst h7;rw[show((7:Int)==7)=true from rfl,aG] at h;exact .name (.inr rfl) h
  rw[mX.2 h7,aQ] at h
  by_cases h8:k=8
  ·subst h8;rw[show((8:Int)==8)=true from rfl,aG] at h;exact .blt (aAB t (by unfold P8 at h;simpa using h))
  rw[mX.2 h8,aQ,beq_iff_eq] at h;unfold spell at h
  by_cases h1:k=1
  ·subst h1;rw[if_pos rfl] at h;subst h;exact .nl
  rw[if_neg h1] at h
  by_cases hk:10<=k/\k<=26
  ·rw[if_pos hk] at h;have hl:(k - 10).toNat<Ve.length:=by rw[aEU];omega
   rw[List.getElem?_eq_getElem hl,Option.getD_some] at h;have:=TkC.kw (j:=(k - 10).toNat) (t:=t) ak (by rw[List.getElem?_eq_getElem hl,h])
   rwa [show(10:Int)+((k - 10).toNat:Int)=k by omega] at this
  rw[if_neg hk] at h
  by_cases hs:30<=k/\k<=68
  ·rw[if_pos hs] at h;have hl:(k - 30).toNat<vT.length:=by rw[aEV];omega
   rw[List.getElem?_eq_getElem hl,Option.getD_some] at h;have:=TkC.op (j:=(k - 30).toNat) (t:=t) ak (by rw[List.getElem?_eq_getElem hl,h])
   rwa [show(30:Int)+((k - 30).toNat:Int)=k by omega] at this
  rw[if_neg hs] at h;rw[h] at ht;cases ht
def kwF(j:Nat)(g:aC):Bool:=agT g &&(isL (rY g) &&(yB g && aa8 g==10+(j:Int)))
def aEW(g:aC):Bool:=agT g &&(isL (rY g) &&(yB g &&(aa8 g==0 && P8 g)))
def asb(j:Nat)(g:aC):Bool:=(Y7 g vT 0 0 0==(30+(j:Int),g.length)) &&
 (Nat.ble (KZ (g++[32]) vT 0) g.length &&(Nat.ble (KZ (g++[10]) vT 0) g.length &&(!(g.isEmpty) &&(!(rY g==10) &&(!(rY g==35) &&(!(isD (rY g)) &&(!(rY g==46) &&(!(rY g==34) &&(!(isL (rY g)) &&(!(afE (rY g)) &&(!(rY g==92) &&((!(rY g==40)||Nat.beq j 2) &&(!(rY g==47)||(Nat.beq j 28||Nat.beq j 11))))))))))))))
def auu:∀j,j<17->(match Ve[j]? with|some g=>kwF j g|none=>true)=true:=by decide+kernel
def apg:∀g,g∈agS->aEW g=true:=by decide+kernel
def aEX:((List.range 39).all λj=>match vT[j]? with|some g=>asb j g|none=>true)=true:=by decide+kernel
def ag0{j:Nat}(h:j<39){g:aC}(hg:vT[j]? =some g):asb j g=true:=by
 have:=(List.all_eq_true.1 aEX) j (List.mem_range.2 h)
 rwa [hg] at this
def aph{b:Int}(h:isL b=true):(b==10)=false/\(b==35)=false/\isD b=false/\(b==46)=false/\(b==34)=false/\(b==47)=false/\afE b=false/\(b==92)=false/\b≠40:=by
 unfold isL at h;simp only[Bool.or_eq_true,rZ,decide_eq_true_eq,beq_iff_eq] at h;refine⟨?_, ?_, ?_, ?_, ?_, ?_, ?_, ?_, ?_⟩
 case refine_3=>unfold isD;rw[Bool.and_eq_false_iff,decide_eq_false_iff_not,decide_eq_false_iff_not];omega
 case refine_7=>unfold afE;rw[Bool.or_eq_false_iff,mX,mX];omega
 case refine_9=>omega
 all_goals rw[mX];omega
def auv{t:aC}(h:DY t=true):agT t=true/\isL (rY t)=true/\yB t=true/\aa8 t=0/\P8 t=false:=by
 unfold DY at h;rw[rZ,rZ,beq_iff_eq,Bool.not_eq_true'] at h;have h':=h.1;unfold yB at h';rw[rZ,rZ] at h';refine⟨h'.1, ?_,h.1,h.2.1,h.2.2⟩;have:=h'.2.2;cases t with
 |nil=>cases this
 |cons c t=>exact this
def awd{t:aC}(h:yP t 0=(t.length:Int)):isD (rY t)=true\/rY t=46:=by
 by_cases hd:isD (rY t)=true
 ·exact .inl hd
 ·right;rw[Bool.not_eq_true] at hd;cases t with
  |nil=>simp[yP] at h
  |cons c t=>
   have e:jY (c::t) 0=0:=by have hd':isD (c.toNat:Int)=false:=hd;unfold jY;rw[if_pos ak];simp[List.takeWhile_cons,hd']
   unfold yP at h;rw[if_neg (by rw[yS];omega),e] at h;cases hp:oL (c::t) 0==46 with
   |true=>rw[beq_iff_eq,av9] at hp;exact hp
   |false=>rw[hp,aQ,show((0:Int)==0)=true from rfl,aG,yS] at h;omega
def aAC{b:Int}(h:isD b=true):(b==10)=false/\(b==35)=false/\afE b=false/\(b==92)=false/\b≠40:=by
 unfold isD at h;rw[rZ,decide_eq_true_eq,decide_eq_true_eq] at h;refine⟨?_, ?_, ?_, ?_, ?_⟩
 case refine_3=>unfold afE;rw[Bool.or_eq_false_iff,mX,mX];omega
 case refine_5=>omega
 all_goals rw[mX];omega
def Vo{t:aC}{q:Int}(h0:t≠[])(h:quoted t 0 q=(t.length:Int)):rY t=q:=by
 unfold quoted at h;split at h
 ·next e=>rwa [av9] at e
 ·omega
def aeE{t:aC}(h0:t≠[])(h:MX t 0=(t.length:Int)):quoted t 0 47=(t.length:Int)/\quoted t 0 47≠2:=by
 have hl:0<t.length:=by cases t with
  |nil=>exact absurd rfl h0
  |cons=>simp
 unfold MX at h;cases hq:quoted t 0 47==0+2 with
 |true=>rw[hq,aG] at h;omega
 |false=>rw[hq,aQ] at h;rw[mX] at hq;exact⟨h,ak⟩
def awe{k:Int}{t:aC}(h0:t≠[])(h:TkC k t):afE (rY t)=false/\(rY t==92)=false/\(rY t=40->k=32):=by
 cases h with
 |nl=>exact⟨rfl,rfl,λe=>absurd e (by decide)⟩
 |com h1 h2=>rw[h1];exact⟨rfl,rfl,λe=>absurd e (by decide)⟩
 |num h1=>
  rcases awd h1 with h|h
  ·have:=aAC h;exact⟨this.2.2.1,this.2.2.2.1,λe=>absurd e this.2.2.2.2⟩
  ·rw[h];exact⟨rfl,rfl,λe=>absurd e (by decide)⟩
 |str h1=>rw[Vo h0 h1];exact⟨rfl,rfl,λe=>absurd e (by decide)⟩
 |ere h1=>rw[Vo h0 (aeE h0 h1).1];exact⟨rfl,rfl,λe=>absurd e (by decide)⟩
 |name _ h1=>have:=aph (auv h1).2.1;exact⟨this.2.2.2.2.2.2.1,this.2.2.2.2.2.2.2.1,λe=>absurd e this.2.2.2.2.2.2.2.2⟩
 |blt h1=>have h1:=apg t h1;unfold aEW at h1;simp only[rZ] at h1;have:=aph h1.2.1;exact⟨this.2.2.2.2.2.2.1,this.2.2.2.2.2.2.2.1,λe=>absurd e this.2.2.2.2.2.2.2.2⟩
 |kw h1 h2=>have h1:=auu _ h1;simp only[h2,kwF,rZ] at h1;have:=aph h1.2.1;exact⟨this.2.2.2.2.2.2.1,this.2.2.2.2.2.2.2.1,λe=>absurd e this.2.2.2.2.2.2.2.2⟩
 |op h1 h2=>
  have h1:=ag0 h1 h2;simp only[asb,rZ,Bool.not_eq_true',Bool.or_eq_true] at h1;obtain⟨_,_,_,_,_,_,_,_,_,_,h3,h4,h5,_⟩:=h1;refine⟨h3,h4,λe=> ?_⟩;rcases h5 with h5|h5
  ·rw[e] at h5;cases h5
  ·rw[Nat.beq_eq] at h5;subst h5;rfl
structure Fol(k:Int)(t u:aC):Prop where
 com:k=2->u=[]\/rY u=10
 num:k=3->Vf (rY u)=false/\rY u≠46
 name:k=6->rY u≠40
 fn:k=7->rY u=40
 word:6<=k/\k<=26->Vf (rY u)=false
 op:30<=k/\k<=68->Y7 (t++u) vT 0 0 0=(k,t.length)
section
variable {p t u:aC}
def aiU:(p++(t++u)).drop p.length=t++u:=List.drop_left
def ag1:sub (p++(t++u)) p.length (p.length+t.length)=t:=by rw[sub,aiU,show p.length+t.length - p.length=t.length by omega,List.take_left]
def YE(h:t≠[]):oL (p++(t++u)) (p.length:Int)=rY t:=by
 have:=Uw (t:=p) (u:=t++u) (a:=0) ak;rw[Int.add_zero] at this;rw[this,av9];cases t with
 |nil=>exact absurd rfl h
 |cons=>rfl
def aAD{q:UInt8->Bool}(h:t.all q=true)(hu:∀c r,u=c::r->q c=false):(t++u).takeWhile q=t:=by
 rw[auo t u hu];induction t with
 |nil=>rfl
 |cons c t ih=>rw[List.all_cons,rZ] at h;rw[List.takeWhile_cons,h.1,ih h.2];rfl
def aEY(h:agT t=true)(hu:Vf (rY u)=false):PX (p++(t++u)) p.length=p.length+t.length:=by unfold PX;rw[aiU,aAD h];rintro c r rfl;exact hu
def aEZ(h:hasB 10 t=false)(hu:u=[]\/rY u=10):aex (p++(t++u)) p.length=p.length+t.length:=by
 unfold aex;rw[aiU,aAD]
 ·unfold hasB at h;rw[List.all_eq_true];rw[List.any_eq_false] at h;intro c hc;have:=h c hc;simpa using this
 ·rintro c r rfl;rcases hu with hu|hu
  ·cases hu
  ·have hu:(c.toNat:Int)=10:=hu;have h9:c.toNat=10:=ak;have:c=10:=UInt8.toNat_inj.1 (by rw[h9];rfl);rw[this];rfl
def auw:oL (p++(t++u)) ((p.length+t.length:Nat):Int)=rY u:=by
 have:=apc (t:=p++t) (u:=u)
 rwa [Qc,wM] at this
def ak4(bf:Int)(h0:t≠[])(hL:isL (rY t)=true)(hW:agT t=true)(hN:yB t=true)(hu:Vf (rY u)=false):Bq (p++(t++u)) p.length bf=some (bif aa8 t !=0 then aa8 t else bif P8 t then 8 else bif rY u==40 then 7 else 6,t):=by have hn:=aph hL;unfold Bq abh ar6;rw[YE h0,hn.1,hn.2.1,hn.2.2.1,hn.2.2.2.1,hn.2.2.2.2.1,hn.2.2.2.2.2.1,hL,aEY hW hu,ag1,hN,ahX,auw];rfl
def axX{k bf:Int}(ht:iR k t=true)(hf:Fol k t u)(h5:k=5->qX bf=false)(hd:k=58\/k=41->qX bf=true):Bq (p++(t++u)) p.length bf=some (k,t):=by
 obtain⟨h0,hc⟩:=NP ht;cases hc with
 |nl=>unfold Bq;rw[YE h0];rfl
 |com h1 h2=>unfold Bq;rw[YE h0,h1,aEZ h2 (hf.com rfl),ag1];rfl
 |num h1=>
  have hu:=hf.num rfl;have hl:0<t.length:=by cases t with
   |nil=>exact absurd rfl h0
   |cons=>simp
  have h2:=aup (u:=u) hu.1 hu.2 h1;have h3:=apd (t:=p) (u:=t++u) ak;have h4:ab1 (p++(t++u)) p.length 3 (yP (p++(t++u)) (p.length:Int))=some (3,t):=by unfold ab1;rw[h3,h2,vG ak,aQ,show((p.length:Int)+(t.length:Int)).toNat=p.length+t.length by omega,ag1]
  unfold Bq;rw[YE h0,h4];rcases awd h1 with h|h
  ·have:=aAC h;rw[this.1,this.2.1,h];rfl
  ·rw[h];rfl
 |str h1=>
  have hl:0<t.length:=by cases t with
   |nil=>exact absurd rfl h0
   |cons=>simp
  have h3:=akX (p:=p) (t:=t) (u:=u) (q:=34) ak;have h4:ab1 (p++(t++u)) p.length 4 (quoted (p++(t++u)) (p.length:Int) 34)=some (4,t):=by unfold ab1;rw[h3,h1,vG ak,aQ,show((p.length:Int)+(t.length:Int)).toNat=p.length+t.length by omega,ag1]
  unfold Bq;rw[YE h0,h4,Vo h0 h1];rfl
 |ere h1=>
  have hl:0<t.length:=by cases t with
   |nil=>exact absurd rfl h0
   |cons=>simp
  have h2:=aeE h0 h1;have h3:=akX (p:=p) (t:=t) (u:=u) (q:=47) ak;have h4:ab1 (p++(t++u)) p.length 5 (MX (p++(t++u)) (p.length:Int))=some (5,t):=by unfold ab1 MX;rw[h3,h2.1,mX.2 ak,aQ,vG ak,aQ,show((p.length:Int)+(t.length:Int)).toNat=p.length+t.length by omega,ag1]
  unfold Bq;rw[YE h0,h4,Vo h0 h2.1,h5 rfl];rfl
 |name hk h1=>
  have hn:=auv h1;rw[ak4 bf h0 hn.2.1 hn.1 hn.2.2.1 (hf.word ak),hn.2.2.2.1,hn.2.2.2.2];rcases hk with rfl|rfl
  ·rw[mX.2 (hf.name rfl)];rfl
  ·rw[hf.fn rfl];rfl
 |blt h1=>have hb:=apg t h1;unfold aEW at hb;simp only[rZ,beq_iff_eq] at hb;rw[ak4 bf h0 hb.2.1 hb.1 hb.2.2.1 (hf.word ak),hb.2.2.2.1,hb.2.2.2.2];rfl
 |@kw j _ h1 h2=>have hb:=auu _ h1;simp only[h2,kwF,rZ,beq_iff_eq] at hb;rw[ak4 bf h0 hb.2.1 hb.1 hb.2.2.1 (hf.word ak),hb.2.2.2,show((10+(j:Int)) !=0)=true from bne_iff_ne.2 ak];rfl
 |@op j _ h1 h2=>
  have hb:=ag0 h1 h2;simp only[asb,rZ,Bool.not_eq_true',Bool.or_eq_true] at hb;obtain⟨_,_,_,_,b1,b2,b3,b4,b5,b6,_,_,_,b7⟩:=hb;have ho:=hf.op ak;have hr:abh (p++(t++u)) p.length=some (30+(j:Int),t):=by unfold abh opT opK opN;rw[YE h0,b6,aQ,aiU,ho,show((30+(j:Int))==0)=false from mX.2 ak,aQ,ag1]
  unfold Bq;rw[YE h0,b1,b2,b3,b4,b5,hr];simp only[aQ];cases h47:rY t==47 with
  |false=>rfl
  |true=>
   rw[h47] at b7;have:j=28\/j=11:=by
    rcases b7 with b7|b7|b7
    ·cases b7
    ·rw[Nat.beq_eq] at b7;exact .inl b7
    ·rw[Nat.beq_eq] at b7;exact .inr b7
   rw[hd ak];rfl
end
def axY:∀(g s:aC),g.length<=2->g.isPrefixOf (s.take 2)=g.isPrefixOf s
 |[],s,_=>by cases s<;>rfl
 |[a],[],_=>rfl
 |[a],[b],_=>rfl
 |[a],b::c::s,_=>rfl
 |[a,b],[],_=>rfl
 |[a,b],[c],_=>rfl
 |[a,b],c::d::s,_=>by simp[List.isPrefixOf]
 |_::_::_::_,_,h=>by simp at h
def abD(s:aC):∀(l:List (aC)) (i:Nat) (k:Int) (m:Nat),(∀g,g∈l->g.length<=2)->Y7 (s.take 2) l i k m=Y7 s l i k m
 |[],_,_,_,_=>rfl
 |g::l,i,k,m,h=>by rw[Y7,Y7,axY g s (h g (by simp)),abD s l _ _ _ λx hx=>h x (by simp[hx]),abD s l _ _ _ λx hx=>h x (by simp[hx])]
def take2{t:aC}(h:t≠[])(c:UInt8)(r:aC):(t++c::r).take 2=(t++[c]).take 2:=by
 cases t with
 |nil=>exact absurd rfl h
 |cons a t=>cases t<;>simp
def awf{t:aC}(h:t≠[])(c:UInt8)(r:aC):Y7 (t++c::r) vT 0 0 0=Y7 (t++[c]) vT 0 0 0:=by rw[<-abD (t++c::r) vT 0 0 0 anB,take2 h,abD _ vT 0 0 0 anB]
def auy(s:aC):∀(l:List (aC)) (i:Nat) (k:Int) (m:Nat),m<=(Y7 s l i k m).2
 |[],_,_,_=>zaQ _
 |g::l,i,k,m=>by
  rw[Y7];cases hc:(Nat.blt m g.length && g.isPrefixOf s) with
  |false=>rw[aQ];exact auy s l _ _ _
  |true=>rw[aG];rw[rZ,Nat.blt_eq] at hc;have:=auy s l (i+1) (30+(i:Int)) g.length;omega
def axZ(g s:aC)(n:Nat)(h:g.length<=n):g.isPrefixOf (s.take n)=g.isPrefixOf s:=by rw[Bool.eq_iff_iff,List.isPrefixOf_iff_prefix,List.isPrefixOf_iff_prefix,List.prefix_take_iff];exact⟨λh=>h.1,λq=>⟨q,h⟩⟩
def ag2(s:aC)(n:Nat):∀(l:List (aC)) (i:Nat) (k:Int) (m:Nat),(Y7 s l i k m).2<=n->Y7 (s.take n) l i k m=Y7 s l i k m
 |[],_,_,_,_=>rfl
 |g::l,i,k,m,h=>by
  rw[Y7] at h|-;rw[Y7];cases hc:(Nat.blt m g.length && g.isPrefixOf s) with
  |true=>rw[hc,aG] at h;have h1:=auy s l (i+1) (30+(i:Int)) g.length;rw[axZ g s n ak,hc,aG,aG];exact ag2 s n l _ _ _ h
  |false=>
   rw[hc,aQ] at h;have:(Nat.blt m g.length && g.isPrefixOf (s.take n))=false:=by
    rw[Bool.and_eq_false_iff] at hc|-;rcases hc with hc|hc
    ·exact .inl hc
    ·right;cases hp:g.isPrefixOf (s.take n) with
     |false=>rfl
     |true=>rw[List.isPrefixOf_iff_prefix] at hp;have:=List.isPrefixOf_iff_prefix.2 (hp.trans (List.take_prefix n s));rw[this] at hc;cases hc
   rw[this,aQ,aQ];exact ag2 s n l _ _ _ h
def aAE{j:Nat}{t:aC}(hj:j<39)(ht:vT[j]? =some t){c:UInt8}{r:aC}(h:KZ (t++[c]) vT 0<=t.length):Y7 (t++c::r) vT 0 0 0=(30+(j:Int),t.length):=by
 have hb:=ag0 hj ht;simp only[asb,rZ,Bool.not_eq_true',Bool.or_eq_true,beq_iff_eq] at hb;have h0:t≠[]:=λe=>by have:=hb.2.2.2.1;rw[e] at this;cases this
 rw[awf h0,<-ag2 (t++[c]) t.length vT 0 0 0 (by rw[abB];exact h),List.take_left];exact hb.1
def adj(a:Tk)(g:aC)(b:Tk):Prop:=(g=[]->AZ a b=false)/\(a.kind=7->g=[]/\b.kind=32)/\(a.kind=2->g=[]/\b.kind=1)/\(b.kind=5->qX a.kind=false)/\(b.kind=58\/b.kind=41->qX a.kind=true)
def aJu{t:aC}(h0:t≠[])(h:agT t=true):Vf (lastB t)=true:=by
 unfold lastB;cases hl:t.getLast? with
 |none=>rw[List.getLast?_eq_none_iff] at hl;exact absurd hl h0
 |some c=>unfold agT at h;rw[List.all_eq_true] at h;exact h c (List.mem_of_getLast? hl)
def aE0{a b:aC}(h:a≠[]):rY (a++b)=rY a:=by
 cases a with
 |nil=>exact absurd rfl h
 |cons=>rfl
def aJv{k:Int}{t:aC}(h:TkC k t)(hk:6<=k/\k<=26):agT t=true:=by
 cases h with
 |nl=>omega
 |com=>omega
 |num=>omega
 |str=>omega
 |ere=>omega
 |name _ h1=>exact(auv h1).1
 |blt h1=>have h1:=apg t h1;unfold aEW at h1;simp only[rZ] at h1;exact h1.1
 |kw h1 h2=>have h1:=auu _ h1;simp only[h2,kwF,rZ] at h1;exact h1.1
 |op=>omega
def XM{k:Int}{t:aC}(h:TkC k t)(hk:30<=k/\k<=68):∃j:Nat,j<39/\vT[j]? =some t/\k=30+(j:Int):=by
 cases h with
 |nl=>omega
 |com=>omega
 |num=>omega
 |str=>omega
 |ere=>omega
 |name h _=>omega
 |blt h1=>omega
 |kw h1 h2=>omega
 |op h1 h2=>exact⟨_,h1,h2,rfl⟩
def ax0{t:aC}(h:t≠[])(c:UInt8)(r:aC):KZ (t++c::r) vT 0=KZ (t++[c]) vT 0:=by have:=awf h c r;have h1:=abB (t++c::r) vT 0 0 0;have h2:=abB (t++[c]) vT 0 0 0;rw[<-h1,<-h2,this]
def aE1{a b:Tk}{g w:aC}(ha:iR a.kind a.text=true)(hb:iR b.kind b.text=true)(hg:∀c,c∈g->c=32)(h:adj a g b):Fol a.kind a.text (g++(b.text++w)):=by
 obtain⟨a0,ac⟩:=NP ha;obtain⟨b0,bc⟩:=NP hb;obtain⟨h1,h7,h2,_,_⟩:=h;cases g with
 |cons c g=>
  have hc:c=32:=hg c (by simp);subst hc;refine⟨λe=> ?_,λ_=>⟨rfl,(by show(32:Int)≠46;decide)⟩,λ_=>(by show(32:Int)≠40;decide),λe=> ?_,λ_=>rfl,λe=> ?_⟩
  ·cases(h2 e).1
  ·cases(h7 e).1
  ·obtain⟨j,hj,hs,hk⟩:=XM ac e;rw[hk];refine aAE hj hs ?_;have hb:=ag0 hj hs;simp only[asb,rZ] at hb;have:=hb.2.1
   rwa [Nat.ble_eq] at this
 |nil=>
  rw[List.nil_append];have hf:rY (b.text++w)=rY b.text:=aE0 b0;have h1:=h1 rfl;rw[NM,show(a.text==[])=false by simpa using a0,show(b.text==[])=false by simpa using b0,aQ,aQ] at h1
  by_cases k2:a.kind=2
  ·have hb1:=(h2 k2).2;rw[hb1] at bc;have hbt:b.text=[10]:=by
    generalize hk:(1:Int)=k at bc;generalize b.text=t at bc;cases bc with
    |nl=>rfl
    |name h _=>omega
    |kw=>omega
    |op=>omega
    |_=>cases hk
   refine⟨λ_=> .inr (by rw[hf,hbt];rfl),λe=>absurd e ak,λe=>absurd e ak,λe=>absurd e ak,λe=>absurd e ak,λe=>absurd e ak⟩
  rw[mX.2 k2,aQ] at h1
  by_cases k1:a.kind=1
  ·exact⟨λe=>absurd e ak,λe=>absurd e ak,λe=>absurd e ak,λe=>absurd e ak,λe=>absurd e ak,λe=>absurd e ak⟩
  rw[mX.2 k1,aQ] at h1
  by_cases b1:b.kind=1
  ·rw[b1] at bc;have hbt:b.text=[10]:=by
    generalize hk:(1:Int)=k at bc;generalize b.text=t at bc;cases bc with
    |nl=>rfl
    |name h _=>omega
    |kw=>omega
    |op=>omega
    |_=>cases hk
   rw[hbt];refine⟨λe=>absurd e k2,λ_=>⟨rfl,(by show(10:Int)≠46;decide)⟩,λ_=>(by show(10:Int)≠40;decide),λe=>absurd (h7 e).2 ak,λ_=>rfl,λe=> ?_⟩;obtain⟨j,hj,hs,hk⟩:=XM ac e;rw[hk];refine aAE hj hs ?_;have hb:=ag0 hj hs;simp only[asb,rZ] at hb;have:=hb.2.2.1
   rwa [Nat.ble_eq] at this
  rw[mX.2 b1,aQ] at h1;cases hw:(Vf (lastB a.text) && Vf (rY b.text)) with
  |true=>rw[hw] at h1;cases h1
  |false=>
  rw[hw,aQ] at h1;cases h3:(a.kind==3 &&(Vf (rY b.text)||rY b.text==46)) with
  |true=>rw[h3] at h1;cases h1
  |false=>
  rw[h3,aQ] at h1;cases h6:(a.kind==6 && b.kind==32) with
  |true=>rw[h6] at h1;cases h1
  |false=>
  rw[h6,aQ] at h1;refine⟨λe=>absurd e k2,λe=> ?_,λe=> ?_,λe=> ?_,λe=> ?_,λe=> ?_⟩
  ·rw[e,show((3:Int)==3)=true from rfl,Bool.true_and,Bool.or_eq_false_iff,mX] at h3;rw[hf];exact h3
  ·rw[hf];intro e4;have:=(awe b0 bc).2.2 e4;rw[e,this] at h6;cases h6
  ·have hb2:=(h7 e).2;rw[hb2] at bc;obtain⟨j,hj,hs,hk⟩:=XM bc ak;have:j=2:=ak;subst this;have hx:vT[2]? =some [40]:=rfl;rw[hx] at hs;rw[hf,<-Option.some.inj hs];rfl
  ·rw[hf];rw[aJu a0 (aJv ac e),Bool.true_and] at hw;exact hw
  ·obtain⟨j,hj,hs,hk⟩:=XM ac e;rw[zdt (show(30:Int)<=a.kind by omega),zdt (show a.kind<=68 by omega),Bool.and_self,zaP,aQ] at h1;have hle:KZ (a.text++b.text) vT 0<=a.text.length:=by
    cases hq:decide (KZ (a.text++b.text) vT 0<=a.text.length) with
    |true=>simpa using hq
    |false=>
     rw[decide_eq_false_iff_not] at hq;have:Nat.blt a.text.length (KZ (a.text++b.text) vT 0)=true:=by rw[Nat.blt_eq];omega
     rw[this] at h1;cases h1
   rw[hk];cases hbt:b.text with
   |nil=>exact absurd hbt b0
   |cons c r=>rw[hbt,ax0 a0] at hle;rw[zca];exact aAE hj hs hle
def aE2{a:Tk}(ha:iR a.kind a.text=true)(h7:a.kind≠7):Fol a.kind a.text []:=by obtain⟨a0,ac⟩:=NP ha;refine⟨λ_=> .inl rfl,λ_=>⟨rfl,by decide⟩,λ_=>by decide,λe=>absurd e h7,λ_=>rfl,λe=> ?_⟩;obtain⟨j,hj,hs,hk⟩:=XM ac e;have hb:=ag0 hj hs;simp only[asb,rZ,beq_iff_eq] at hb;rw[List.append_nil,hk];exact hb.1
abbrev Gt:=aC×Tk
def spl:List Gt->aC
 |[]=>[]
 |x::r=>x.1++(x.2.text++spl r)
def okS:Tk->List Gt->Prop
 |_,[]=>True
 |a,x::r=>(∀c,c∈x.1->c=32)/\iR x.2.kind x.2.text=true/\adj a x.1 x.2/\okS x.2 r
def lastT:Tk->List Gt->Tk
 |a,[]=>a
 |_,x::r=>lastT x.2 r
def VE:List Gt->Nat->List Tk
 |[],_=>[]
 |x::r,i=>⟨x.2.kind,x.2.text,((i+x.1.length:Nat):Int)⟩::VE r (i+x.1.length+x.2.text.length)
def asc(w:aC)(bf:Int)(acc:List Tk)(hw:w≠[]):∀(g p:aC) (f:Nat),(∀c,c∈g->c=32)->g.length<=f->Yz (p++(g++w)) f p.length bf acc=Yz ((p++g)++w) (f - g.length) (p++g).length bf acc
 |[],p,f,_,_=>by simp
 |c::g,p,0,_,h=>by simp at h
 |c::g,p,f+1,hc,h=>by
  have e32:c=32:=hc c (by simp);subst e32;have hlt:Nat.ble (p++(32::g++w)).length p.length=false:=by
   cases hq:Nat.ble (p++(32::g++w)).length p.length with
   |false=>rfl
   |true=>rw[Nat.ble_eq] at hq;simp at hq;omega
  have hb:oL (p++(32::g++w)) (p.length:Int)=32:=by have:=Uw (t:=p) (u:=32::g++w) (a:=0) ak;rw[Int.add_zero] at this;rw[this];rfl
  rw[Yz,hlt,hb];have ih:=asc w bf acc hw g (p++[32]) f (λx hx=>hc x (by simp[hx])) (by simpa using h);have e1:p++[32]++(g++w)=p++(32::g++w):=by simp
  have e2:(p++[32]).length=p.length+1:=by simp
  have e3:p++[32]++g=p++32::g:=by simp
  rw[e1,e2,e3] at ih;rw[yS,Nat.add_sub_add_right,<-ih];rfl
def awg:∀(L:List Gt) (p:aC) (a:Tk) (acc:List Tk) (f:Nat),okS a L->(L≠[]->(lastT a L).kind≠7)->(spl L).length<f->Yz (p++spl L) f p.length a.kind acc=.inl (acc++VE L p.length)
 |[],p,a,acc,0,_,_,h=>by omega
 |[],p,a,acc,f+1,_,_,_=>by
  have:Nat.ble (p++spl []).length p.length=true:=by rw[Nat.ble_eq];simp[spl]
  rw[Yz,this,VE,List.append_nil];rfl
 |(g,t)::r,p,a,acc,f,hok,hl,h=>by
  rw[okS] at hok;obtain⟨hg,ht,aRO,hr⟩:=hok;have hl7:=hl (by simp);rw[lastT] at hl7;obtain⟨t0,tc⟩:=NP ht;have tpos:0<t.text.length:=by
   cases hx:t.text with
   |nil=>exact absurd hx t0
   |cons=>simp
  rw[spl] at h|-;rw[wM,wM] at h;rw[asc _ _ _ (by simp[t0]) g p f hg (by simp only at h;omega)];generalize hP:p++g=P;have hPl:P.length=p.length+g.length:=by rw[<-hP,wM]
  have hF:Fol t.kind t.text (spl r):=by
   cases r with
   |nil=>exact aE2 ht hl7
   |cons x r=>rw[okS] at hr;rw[spl];exact aE1 ht hr.2.1 hr.1 hr.2.2.1
  have hx:=axX (p:=P) (bf:=a.kind) ht hF aRO.2.2.2.1 aRO.2.2.2.2;have aRP:=awe t0 tc;obtain⟨F,hFe⟩:∃F,f - g.length=F+1:=⟨f - g.length - 1,by simp only at h;omega⟩
  have hb:Nat.ble (P++(t.text++spl r)).length P.length=false:=by
   cases hq:Nat.ble (P++(t.text++spl r)).length P.length with
   |false=>rfl
   |true=>rw[Nat.ble_eq,wM,wM] at hq;omega
  simp only;rw[hFe,Yz,hb,aQ,YE t0,aRP.1,aQ,aRP.2.1,Bool.false_and,aQ,hx];simp only;have ih:=awg r (P++t.text) t (acc++[⟨t.kind,t.text,(P.length:Int)⟩]) F hr (λ_=>hl7) (by simp only at h;omega);rw[Qc,wM] at ih;rw[ih,Qc,VE,hPl];rfl
def aAF{L:List Gt}(h:okS ⟨0,[],0⟩ L)(hl:L≠[]->(lastT ⟨0,[],0⟩ L).kind≠7)(hs:(spl L).length<=3000):aeA (spl L)=(VE L 0,0,0):=by have:=awg L [] ⟨0,[],0⟩ [] ((spl L).length+1) h hl ak;rw[List.nil_append,List.nil_append,SS] at this;unfold aeA;rw[if_neg ak,this]
def txN(k:Int)(x:aC):Prop:=(k=1\/k=5\/k=7\/k=13->DY x=true)/\(k=2->iR 3 x=true)/\(k=3->iR 4 x=true)/\(k=4->iR 5 x=true)/\(k=8->P8 x=true)
mutual
def txT:Tn->Prop
 | .mk k op x y ks=>txN k x/\ase ks
def ase:List Tn->Prop
 |[]=>True
 |t::ts=>(txT t)/\ase ts
end
def awh:∀{ks:List Tn} {j:Nat} {t:Tn},ase ks->ks[j]? =some t->txT t
 |[],_,_,_,h=>by simp at h
 |u::ts,0,t,h,e=>by rw[ase] at h;cases e;exact h.1
 |u::ts,j+1,t,h,e=>by rw[ase] at h;rw[List.getElem?_cons_succ] at e;exact awh h.2 e
def Dv:∀a b:List Gt,spl (a++b)=spl a++spl b
 |[],b=>rfl
 |x::a,b=>by rw[zca,spl,spl,Dv a b];simp
def BK:∀(a:Tk) (x y:List Gt),lastT a (x++y)=lastT (lastT a x) y
 |_,[],_=>rfl
 |_,x::r,y=>by rw[zca,lastT,lastT,BK]
def Pz:∀(a:Tk) (x y:List Gt),okS a (x++y)↔okS a x/\okS (lastT a x) y
 |a,[],y=>by simp[okS,lastT]
 |a,x::r,y=>by rw[zca,okS,okS,lastT,Pz];simp only[and_assoc]
def apj:∀(a:Tk) (x:List Gt),okS a x->iR a.kind a.text=true->iR (lastT a x).kind (lastT a x).text=true
 |_,[],_,h=>h
 |_,x::r,h,_=>by rw[okS] at h;rw[lastT];exact apj x.2 r h.2.2.2 h.2.1
def aE3:((List.range 69).all λk=> !((Nat.ble 10 k && Nat.ble k 26)||Nat.ble 30 k)||iR (k:Int) (spell (k:Int)))=true:=by decide+kernel
def Vp{k:Int}(h:(10<=k/\k<=26)\/(30<=k/\k<=68)):iR (tok k).kind (tok k).text=true:=by
 have h1:=(List.all_eq_true.1 aE3) k.toNat (List.mem_range.2 ak);rw[show((k.toNat:Nat):Int)=k by omega] at h1;rw[Bool.or_eq_true] at h1;rcases h1 with h1|h1
 ·exfalso;have:((Nat.ble 10 k.toNat && Nat.ble k.toNat 26)||Nat.ble 30 k.toNat)=true:=by rw[Bool.or_eq_true,rZ,Nat.ble_eq,Nat.ble_eq,Nat.ble_eq];omega
  rw[this] at h1;cases h1
 ·exact h1
def YF{k:Int}(h:qX k=true):k=3\/k=4\/k=5\/k=6\/k=8\/k=33\/k=35\/k=51\/k=52:=by unfold qX at h;simp only[Bool.or_eq_true,beq_iff_eq] at h;exact h
def auz{k:Int}{t:aC}(h:iR k t=true)(hk:30<=k/\k<=68):t=spell k:=by obtain⟨j,hj,hs,rfl⟩:=XM (NP h).2 hk;unfold spell;rw[if_neg ak,if_neg ak,if_pos ak,show(30+(j:Int) - 30).toNat=j by omega,hs];rfl
def closes(k:Int):Prop:=k=33\/k=35\/k=51\/k=52\/k=36\/k=31\/k=37
def aGV(a k:Int):Bool:= !(Vf (rY (spell k))) &&(!(rY (spell k)==46) && !(Nat.blt (spell a).length (KZ (spell a++spell k) vT 0)))
def auA:([(33:Int),35,51,52,32,34].all λa=>[(33:Int),35,51,52,36,31,37].all λk=>aGV a k)=true:=by decide+kernel
def anI{a k:Int}(ha:a=33\/a=35\/a=51\/a=52\/a=32\/a=34)(hk:k=33\/k=35\/k=51\/k=52\/k=36\/k=31\/k=37):(Vf (rY (spell k))=false/\(rY (spell k)==46)=false)/\Nat.blt (spell a).length (KZ (spell a++spell k) vT 0)=false:=by have h:=(List.all_eq_true.1 ((List.all_eq_true.1 auA) a (by simp only[List.mem_cons,List.not_mem_nil,or_false];omega))) k (by simp only[List.mem_cons,List.not_mem_nil,or_false];omega);unfold aGV at h;rw[rZ,rZ,Bool.not_eq_true',Bool.not_eq_true',Bool.not_eq_true'] at h;exact⟨⟨h.1,h.2.1⟩,h.2.2⟩
def NQ{a:Tk}(ha:iR a.kind a.text=true)(he:qX a.kind=true\/a.kind=32\/a.kind=34){k:Int}(hk:closes k):adj a [] (tok k):=by
 have hc:a.kind=3\/a.kind=4\/a.kind=5\/a.kind=6\/a.kind=8\/a.kind=33\/a.kind=35\/a.kind=51\/a.kind=52\/a.kind=32\/a.kind=34:=by
  rcases he with he|he|he
  ·have:=YF he;omega
  ·omega
  ·omega
 have hkk:k=33\/k=35\/k=51\/k=52\/k=36\/k=31\/k=37:=hk;have h0:=anI (a:=33) (.inl rfl) hkk;refine⟨λ_=> ?_,λe=>absurd e ak,λe=>absurd e ak,λe=>absurd (show k=5 from e) ak,λe=>absurd (show k=58\/k=41 from e) ak⟩;rw[NM];have hb:(tok k).kind=k:=rfl;have ht:(tok k).text=spell k:=rfl;rw[hb,ht,h0.1.1,h0.1.2,Bool.and_false,Bool.or_self,Bool.and_false,mX.2 (show k≠32 by omega),Bool.and_false];cases a.text==[] with
 |true=>rfl
 |false=>
 rw[aQ];cases spell k==[] with
 |true=>rfl
 |false=>
 rw[aQ];cases a.kind==2 with
 |true=>rfl
 |false=>
 rw[aQ];cases a.kind==1 with
 |true=>rfl
 |false=>
 rw[aQ];cases k==1 with
 |true=>rfl
 |false=>
 simp only[aQ]
 by_cases h30:30<=a.kind
 ·have h68:a.kind<=68:=ak;rw[zdt h30,zdt h68,auz ha ⟨h30,h68⟩,Bool.and_self,zaP,aQ,(anI ak hkk).2]
 ·rw[vG h30,Bool.false_and,Bool.not_false,aG]
def opn(k:Int):Prop:=k=32\/k=34\/k=68\/k=51\/k=52\/k=30
def aRQ(k:Int):Bool:= !(Vf (lastB (spell k))) &&(Nat.beq (spell k).length 2||vT.all λg=> !((spell k).isPrefixOf g)||g==spell k)
def aE4:([(32:Int),34,68,51,52,30].all λk=>aRQ k)=true:=by decide+kernel
def aJw{k:Int}(h:opn k):Vf (lastB (spell k))=false/\((spell k).length=2\/∀g,g∈vT->(spell k).isPrefixOf g=true->g=spell k):=by have hkk:k=32\/k=34\/k=68\/k=51\/k=52\/k=30:=h;have h:=(List.all_eq_true.1 aE4) k (by simp only[List.mem_cons,List.not_mem_nil,or_false];omega);unfold aRQ at h;rw[rZ,Bool.not_eq_true',Bool.or_eq_true,Nat.beq_eq,List.all_eq_true] at h;refine⟨h.1,h.2.imp id λh g hg hp=> ?_⟩;have:=h g hg;rw[hp] at this;simpa using this
def ak5(s:aC)(n:Nat):∀(l:List (aC)) (m:Nat),m<=n->(∀g,g∈l->g.isPrefixOf s=true->g.length<=n)->KZ s l m<=n
 |[],m,h,_=>h
 |g::l,m,h,hg=>by
  rw[KZ];cases hc:(Nat.blt m g.length && g.isPrefixOf s) with
  |false=>rw[aQ];exact ak5 s n l m h λx hx=>hg x (by simp[hx])
  |true=>rw[aG];rw[rZ] at hc;exact ak5 s n l _ (hg g (by simp) hc.2) λx hx=>hg x (by simp[hx])
def aE5{k:Int}(h:opn k)(b:Tk):AZ (tok k) b=false:=by
 obtain⟨h1,h2⟩:=aJw h;have hkk:k=32\/k=34\/k=68\/k=51\/k=52\/k=30:=h;have hle:KZ (spell k++b.text) vT 0<=(spell k).length:=by
  refine ak5 _ _ _ _ (Nat.zero_le _) λg hg hp=> ?_
  have g2:=anB g hg;rcases h2 with h2|h2
  ·omega
  ·by_cases hl:g.length<=(spell k).length
   ·exact hl
   ·rw[List.isPrefixOf_iff_prefix] at hp;have:(spell k).isPrefixOf g=true:=by rw[List.isPrefixOf_iff_prefix];exact List.prefix_of_prefix_length_le (List.prefix_append _ _) hp ak
    rw[h2 g hg this];exact zaQ _
 rw[NM];have hb:(tok k).kind=k:=rfl;have ht:(tok k).text=spell k:=rfl;have hlt:Nat.blt (spell k).length (KZ (spell k++b.text) vT 0)=false:=by
  cases hq:Nat.blt (spell k).length (KZ (spell k++b.text) vT 0) with
  |false=>rfl
  |true=>rw[Nat.blt_eq] at hq;omega
 rw[hb,ht,h1,hlt,Bool.false_and,mX.2 (show k≠3 by omega),mX.2 (show k≠6 by omega),Bool.false_and,Bool.false_and];cases spell k==[]<;>cases b.text==[]<;>cases k==2<;>cases k==1<;>cases b.kind==1<;>cases(!(decide (30<=k) && decide (k<=68)))<;>rfl
def beg(k:Int):Prop:=k≠58/\k≠41
def afL{k:Int}(h:opn k){b:Tk}(hb:beg b.kind)(h5:k=51\/k=52->b.kind≠5):adj (tok k) [] b:=by
 have hkk:k=32\/k=34\/k=68\/k=51\/k=52\/k=30:=h;have hk:(tok k).kind=k:=rfl;refine⟨λ_=>aE5 h b,λe=>absurd (hk ▸ e) ak,λe=>absurd (hk ▸ e) ak,λe=> ?_,λe=> ?_⟩
 ·rw[hk]
  by_cases hs:k=51\/k=52
  ·exact absurd e (h5 hs)
  ·have:k=32\/k=34\/k=68\/k=30:=ak;rcases this with h|h|h|h<;>subst h<;>rfl
 ·rcases e with e|e
  ·exact absurd e hb.1
  ·exact absurd e hb.2
def afM{a b:Tk}{g:aC}(hg:g≠[])(h7:a.kind≠7)(h2:a.kind≠2)(h5:b.kind=5->qX a.kind=false)(hd:b.kind=58\/b.kind=41->qX a.kind=true):adj a g b:=
 ⟨λe=>absurd e hg,λe=>absurd e h7,λe=>absurd e h2,h5,hd⟩
structure Pe(d:Tn)(T:List Tk)(b:Tk)(R:List Gt):Prop where
 txt:Qa d=some (spl (([],b)::R))
 tks:b::R.map (·.2)=T
 ok:iR b.kind b.text=true
 all:okS b R
 last:qX (lastT b R).kind=true
 beg:beg b.kind
def Pe.lok{d:Tn}{T:List Tk}{b:Tk}{R:List Gt}(h:Pe d T b R):iR (lastT b R).kind (lastT b R).text=true:=apj b R h.all h.ok
def Pe.l72{d:Tn}{T:List Tk}{b:Tk}{R:List Gt}(h:Pe d T b R):(lastT b R).kind≠7/\(lastT b R).kind≠2:=by have:=YF h.last;omega
def ahY:∀c:UInt8,c∈([32]:aC)->c=32:=λc h=>by simpa using h
def ab3:∀c:UInt8,c∈([]:aC)->c=32:=λc h=>by simp at h
def qJ{t:Tn}{ts:List Tn}{a b:aC}(h:Qa t=some a)(k:Jr ts=some b):Jr (t::ts)=some (a++b):=by rw[Jr,h,k]
def auB:Jr []=some []:=rfl
def Qb(s:aC):Qa (GN s)=some s:=rfl
def YG(l:List Tn):Qa (D9 l)=Jr l:=rfl
def awi(d:Tn):Qa (adC d)=Jr [d]:=rfl
def aJx(d:Tn):Qa (ar1 d)=Jr [d]:=rfl
def awj:Qa Wj=some [32]:=rfl
def PD{d:Tn}{s:aC}(h:Qa d=some s):Jr [d]=some s:=by rw[qJ h auB,List.append_nil]
def aJy{d:Tn}{T:List Tk}{b:Tk}{R:List Gt}(h:Pe d T b R):Pe (D9 [GN [40],d,GN [41]]) (tok 32::(T++[tok 33])) (tok 32) (([],b)::(R++[([],tok 33)])) where
 txt:=by rw[YG,qJ (Qb [40]) (qJ h.txt (qJ (Qb [41]) auB))];have e1:(tok 32).text=[40]:=rfl;have e2:(tok 33).text=[41]:=rfl;simp[spl,Dv,e1,e2]
 tks:=by rw[<-h.tks];simp
 ok:=Vp ak
 all:=by rw[okS];refine⟨ab3,h.ok,afL (.inl rfl) h.beg (λe=>by omega), ?_⟩;rw[Pz];refine⟨h.all, ?_⟩;rw[okS];exact⟨ab3,Vp ak,NQ h.lok (.inl h.last) (.inl rfl),trivial⟩
 last:=by rw[lastT,BK];rfl
 beg:=⟨by decide,by decide⟩
def PcL:List Tn->List (List Tk)->Prop
 |[],[]=>True
 |d::ds,t::ts=>(∃b R,Pe d t b R)/\PcL ds ts
 |_,_=>False
def aAG:∀(D:List Tn) (T:List (List Tk)),PcL D T->∃Q,Jr (Qw false D)=some (spl Q)/\Q.map (·.2)=uX false T/\∀a:Tk,iR a.kind a.text=true->qX a.kind=true->okS a Q/\qX (lastT a Q).kind=true
 |[],[],_=>⟨[],rfl,rfl,λa _ he=>⟨trivial,he⟩⟩
 |[],_::_,h=>h.elim
 |_::_,[],h=>h.elim
 |d::D,t::T,h=>by
  rw[PcL] at h;obtain⟨⟨b,R,hp⟩,h⟩:=h;obtain⟨Q,h1,h2,h3⟩:=aAG D T h;refine⟨([],tok 36)::([32],b)::(R++Q), ?_, ?_,λa ha he=> ?_⟩
  ·rw[Qw,aQ];show Jr (GN [44]::Wj::d::Qw false D)=_;rw[qJ (Qb [44]) (qJ awj (qJ hp.txt h1))];have e1:(tok 36).text=[44]:=rfl;simp[spl,Dv,e1]
  ·rw[uX,aQ,<-h2,<-hp.tks];simp
  ·have hl:=h3 (lastT b R) hp.lok hp.last;refine⟨?_, ?_⟩
   ·rw[okS,okS,Pz];refine⟨ab3,Vp ak,NQ ha (.inl he) (by unfold closes;omega),ahY,hp.ok, ?_,hp.all,hl.1⟩;exact afM (by simp) (by show(36:Int)≠7;decide) (by show(36:Int)≠2;decide) (λ_=>rfl) (λe=>absurd e (by have:=hp.beg;unfold Go.Proofs.YtephpnbbbimjbaaGreatDoor.beg at this;simp only;omega))
   ·rw[lastT,lastT,BK];exact hl.2
def awk(D:List Tn)(T:List (List Tk))(h:PcL D T){o c:Int}(ho:o=32\/o=34)(hc:c=33\/c=35):∃Q,Qa (XJ D)=some (spl Q)/\Q.map (·.2)=uX true T/\okS (tok o) (Q++[([],tok c)]):=by
 have hco:iR (tok c).kind (tok c).text=true:=Vp ak;have hcl:closes c:=by unfold closes;omega
 cases D with
 |nil=>
  cases T with
  |cons=>exact h.elim
  |nil=>refine⟨[],rfl,rfl, ?_⟩;rw[List.nil_append,okS];exact⟨ab3,hco,NQ (Vp ak) (.inr ho) hcl,trivial⟩
 |cons d D=>
  cases T with
  |nil=>exact h.elim
  |cons t T=>
   rw[PcL] at h;obtain⟨⟨b,R,hp⟩,h⟩:=h;obtain⟨Q,h1,h2,h3⟩:=aAG D T h;have hl:=h3 (lastT b R) hp.lok hp.last;refine⟨([],b)::(R++Q), ?_, ?_, ?_⟩
   ·rw[XJ,Qw,aG,aJx];refine PD ?_;rw[awi];refine PD ?_;rw[YG];show Jr (d::Qw false D)=_;rw[qJ hp.txt h1];simp[spl,Dv]
   ·rw[uX,aG,<-h2,<-hp.tks];simp
   ·rw[zca,okS,Pz,Pz];refine⟨ab3,hp.ok,afL (by unfold opn;omega) hp.beg (λe=>by omega),⟨hp.all,hl.1⟩, ?_⟩;rw[okS,BK];exact⟨ab3,hco,NQ (apj _ _ hl.1 hp.lok) (.inl hl.2) hcl,trivial⟩
def ak6(D:List Tn)(T:List (List Tk))(h:PcL D T){a:Tk}{o c:Int}(ha:iR a.kind a.text=true)(ho:(a.kind=6/\o=34/\c=35)\/((a.kind=7\/a.kind=8)/\o=32/\c=33)):
  ∃R,Pe (D9 [GN (a.text++spell o),XJ D,GN (spell c)]) (a::tok o::(uX true T++[tok c])) a R:=by
 obtain⟨Q,h1,h2,h3⟩:=awk D T h (o:=o) (c:=c) ak ak;have e1:(tok o).text=spell o:=rfl;have e2:(tok c).text=spell c:=rfl;refine⟨([],tok o)::(Q++[([],tok c)]),⟨?_, ?_,ha, ?_, ?_,⟨ak,ak⟩⟩⟩
 ·rw[YG,qJ (Qb _) (qJ h1 (qJ (Qb _) auB))];simp[spl,Dv,e1,e2]
 ·rw[<-h2];simp
 ·rw[okS];refine⟨ab3,Vp ak,⟨λ_=> ?_,λe=>⟨rfl,show o=32 by omega⟩,λe=>absurd e ak,λe=>absurd (show o=5 from e) ak,λe=>absurd (show o=58\/o=41 from e) ak⟩,h3⟩;have hw:Vf (rY (spell o))=false:=by rcases ho with⟨_,h,_⟩|⟨_,h,_⟩<;>subst h<;>rfl
  have h46:(rY (spell o)==46)=false:=by rcases ho with⟨_,h,_⟩|⟨_,h,_⟩<;>subst h<;>rfl
  have h6:(a.kind==6 && o==32)=false:=by rw[Bool.and_eq_false_iff,mX,mX];omega
  have hb:(tok o).kind=o:=rfl;rw[NM,hb,e1,hw,h46,h6,Bool.and_false,Bool.or_self,Bool.and_false,vG (show¬30<=a.kind by omega),Bool.false_and,Bool.not_false,aG];cases a.text==[]<;>cases spell o==[]<;>cases a.kind==2<;>cases a.kind==1<;>cases o==1<;>rfl
 ·rw[lastT,BK];show qX c=true;rcases ho with⟨_,_,h⟩|⟨_,_,h⟩<;>subst h<;>rfl
def Pe.more{d:Tn}{T:List Tk}{b:Tk}{R:List Gt}(h:Pe d T b R){Q:List Gt}{U:List Tk}{ds:List Tn}(hq:Q.map (·.2)=U)(hs:Jr ds=some (spl Q))(ho:okS (lastT b R) Q)(hl:qX (lastT (lastT b R) Q).kind=true):Pe (D9 (d::ds)) (T++U) b (R++Q) where
 txt:=by rw[YG,qJ h.txt hs];simp[spl,Dv]
 tks:=by rw[<-h.tks,<-hq];simp
 ok:=h.ok
 all:=by rw[Pz];exact⟨h.all,ho⟩
 last:=by rw[BK];exact hl
 beg:=h.beg
end Go.Proofs.YtephpnbbbimjbaaGreatDoor
