import Derived.Test.YtmeggnejljdlfaaGreatDoorPForms2
import Derived.Lib.IndexLaws
set_option linter.defProp false
set_option linter.unusedVariables false
set_option linter.unusedSimpArgs false
set_option linter.unusedSectionVars false
open Go.IntKind (i64)
namespace Go.Proofs.YtmeggnejljdlfaaGreatDoor
open Go Go.Vm
noncomputable section
variable {R:Type}
def M.xW(kU:zao)(s:zaE⊕zaF)(kn:zaE⊕zaF->Option R)(ke:zaE⊕zaF->Option R):Option R:=match s with
 | .inl (l,v25,v26,v27,x',kR,mY,rP,sD,P7,Si,U9)=>bif decide (v27<v26) then((idx v25 v27).bind λf=>(bM .i64 f 0).bind λc=>(kU l c).bind λb=>kn (.inr (l,v25,v26,i64.wrap (v27+1),x',kR,mY,rP,sD,P7,Si,U9,[[D.int .i64 b.1,D.int .i64 b.2.1,D.str b.2.2.1,D.sl true 5 b.2.2.2.1,D.int .i64 b.2.2.2.2]]))) else(ke (.inl (l,v25,v26,v27,x',kR,mY,rP,sD,P7,Si,U9)))
 | .inr (l,v25,v26,v27,x',kR,mY,rP,sD,P7,Si,U9,x'8)=>bif decide (v27<v26) then((idx v25 v27).bind λd=>(bM .i64 d 0).bind λe=>(kU l e).bind λa=>jH x'8 [[D.int .i64 a.1,D.int .i64 a.2.1,D.str a.2.2.1,D.sl true 5 a.2.2.2.1,D.int .i64 a.2.2.2.2]] 64 λg=>kn (.inr (l,v25,v26,i64.wrap (v27+1),x',kR,mY,rP,sD,P7,Si,U9,g))) else ke (.inr (l,v25,v26,v27,x',kR,mY,rP,sD,P7,Si,U9,x'8))
def M.Bh kU s:=M.xW kU s (λs=>some (Sum.inl s)) λt=>some (Sum.inr t)
def M.TU kU s:=dU (M.Bh kU) s
def F.TU{kU:zao}(YU:S.xP.ok X0 λx=>kU x.1.1 x.1.2.1):LE X0 88:=le 4 (pOr (Gj [bH 0 (pL false 4),bH 4 (pP 300000 0),bH 6 (pP 300001 0),bH 25 (pL false 1),bH 26 pI,bH 27 pI] [bH 300000 zbe,bH 300001 zbe]) (Gj [bH 0 (pL false 4),bH 4 (pP 300000 0),bH 6 (pP 300001 0),bH 25 (pL false 1),bH 26 pI,bH 27 pI] [bH 300000 zbe,bH 300001 (cB 58 [pI,pI,pS,pO 300002 0,pI]),bH 300002 zbb])) (σ:=zaE⊕zaF) (λx=>(match x with| .inl x=> .inl ((x.1.1,x.1.va.1,x.1.va.2.1,x.1.va.2.2.1,x.2.1.1,x.2.1.2.1,x.2.1.2.2.1,x.2.1.va.2.1,x.2.2.1.1,x.2.2.1.2.1,x.2.2.1.2.2.1,x.2.2.1.va.2.1))| .inr x=> .inr ((x.1.1,x.1.va.1,x.1.va.2.1,x.1.va.2.2.1,x.2.1.1,x.2.1.2.1,x.2.1.2.2.1,x.2.1.va.2.1,x.2.2.1.1,x.2.2.1.2.1,x.2.2.1.2.2.1,x.2.2.1.va.2.1,x.va.1)))) (λx s=>(match s with| .inl s=> .inl (((s.1,(),(),s.2.1,s.2.2.1,s.va.1,()),((s.va.2.1,s.va.2.2.1,s.va.va.1,(),s.va.va.2.1,()),(s.wa.1,s.wa.2.1,s.wa.2.2.1,(),s.wa.va,()),())))| .inr s=> .inr (((s.1,(),(),s.2.1,s.2.2.1,s.va.1,()),((s.va.2.1,s.va.2.2.1,s.va.va.1,(),s.va.va.2.1,()),(s.wa.1,s.wa.2.1,s.wa.2.2.1,(),s.wa.va.1,()),s.wa.va.2,()))))) (λx=> .sum (.leaf zaE (λt=>(Ex.exit 0,⟨[(0,F9 4 t.1),(4,V.ptr 300000 0),(6,V.ptr 300001 0),(25,F9 1 t.2.1),(26,iQ t.2.2.1),(27,iQ t.va.1),(28,uX false)],[(300000,Cell.box 58 [iQ t.va.2.1,iQ t.va.2.2.1,yG t.va.va.1,V.nil 5,iQ t.va.va.2.1]),(300001,Cell.box 58 [iQ t.wa.1,iQ t.wa.2.1,yG t.wa.2.2.1,V.nil 5,iQ t.wa.va])]⟩))) (.leaf zaF (λt=>(Ex.exit 0,⟨[(0,F9 4 t.1),(4,V.ptr 300000 0),(6,V.ptr 300001 0),(25,F9 1 t.2.1),(26,iQ t.2.2.1),(27,iQ t.va.1),(28,uX false)],[(300000,Cell.box 58 [iQ t.va.2.1,iQ t.va.2.2.1,yG t.va.va.1,V.nil 5,iQ t.va.va.2.1]),(300001,Cell.box 58 [iQ t.wa.1,iQ t.wa.2.1,yG t.wa.2.2.1,V.own 300002 0,iQ t.wa.va.1]),(300002,Cell.arr false false 0 5 t.wa.va.2)]⟩)))) (λx=>M.xW kU) [fe YU] [] (by rintro _ _ (⟨_,_,_,_,_,_,_,_,_,_,_,_⟩|⟨_,_,_,_,_,_,_,_,_,_,_,_,_⟩) _ _<;>simp only[jH,M.xW,nb]<;>rfl) (hE:=by intro _ _ s _;rcases s with s|s<;>kernel_rfl)
def M.QK(kU:zao)(l:au)(i:Int)(k:Int×Int×aA×au×Int->Option R):=(idx l i).bind λc=>(bM .i64 c 0).bind λg=>(bM .i64 c 1).bind λe=>(cStr c 2).bind λn=>(NP 1 c 3).bind λd=>(cut l 0 i).bind λm=>(M.zf m).bind λf=>(M.TU kU (.inl (l,d,(↑d.length:Int),0,0,0,[],0,g,e,n,f))).bind λj=>rO j (λb=>k (b.2.2.2.2.2.2.2.2.1,b.2.2.2.2.2.2.2.2.2.1,b.2.2.2.2.2.2.2.2.2.2.1,[],b.2.2.2.2.2.2.2.2.2.2.2)) λh=>letE h λa=>k (a.2.2.2.2.2.2.2.2.1,a.2.2.2.2.2.2.2.2.2.1,a.2.2.2.2.2.2.2.2.2.2.1,a.2.2.2.2.2.2.2.2.2.2.2.2,a.2.2.2.2.2.2.2.2.2.2.2.1)
def M.o9:Nat->au->Int->Option zaw
 |0=>λ_ _=>none
 |n+1=>λl i=>M.QK (M.o9 n) l i some
def M.xP l i:=lim λn=>M.o9 n l i
def C.ald{kU:zao}(YU:S.xP.ok X0 λx=>kU x.1.1 x.1.2.1):S.xP.ok X0 λx=>M.QK kU x.1.1 x.1.2.1 some:=fnS (λx=>M.QK kU x.1.1 x.1.2.1) [fe C.zf] [F.TU YU] (by intros;simp only[M.QK,nb]<;>rfl)
def C.o9:∀n,S.xP.ok X0 λx=>M.o9 n x.1.1 x.1.2.1
 |0=>dQ.zero
 |n+1=>C.ald (C.o9 n)
def C.xP:S.xP.ok X0 λx=>M.xP x.1.1 x.1.2.1:=dQ.lim C.o9
def M.ale{n:Nat}{l:au}{i:Int}{r:Int×Int×aA×au×Int}(h:M.o9 n l i=some r):M.xP l i=some r:=dQ.zL C.o9 (by intro a b h;simp[S.xP,rk,sg] at h;first|exact h|simp[Prod.ext_iff,h]) (x:=((l,i,()),())) h
abbrev M.Vw(l:au)(k:Int×Int×aA×au×Int->Option R):=(M.xP l (i64.wrap ((↑l.length:Int) - 1))).bind λa=>k (a.1,a.2.1,a.2.2.1,a.2.2.2.1,a.2.2.2.2)
def M.Ko l:=M.Vw l some
def C.Ko:=fTa S.Ko (λx=>M.Vw x.1.1) [fe C.xP]
def C.strings_Repeat:S.strings_Repeat.ok X0 λx=>M.strings_Repeat x.1.1 x.1.2.1:=dQ.Zx (p:=Prim.strings_Repeat)
abbrev M.Hl(indent:Int)(c:au)(c1:Int)(c2:au)(k:au×Int×au->Option R):=cond (((c.length+1) * 1).ble 140737488355328) (cond ((c.length+1).ble 140737488355328) ((M.strings_Repeat [32] indent).bind λa=>cond ((((c++[[D.int IntKind.u8 10]]).length+(List.map byteRow a).length) * 1).ble 140737488355328) (cond (((c++[[D.int IntKind.u8 10]]).length+(List.map byteRow a).length).ble 140737488355328) (cond (ay (c++[[D.int IntKind.u8 10]]++List.map byteRow a)) (k (c++[[D.int IntKind.u8 10]]++List.map byteRow a,indent,c2)) none) none) none) none) none
def M.mW indent c c1 c2:=M.Hl indent c c1 c2 some
def C.mW:=fTa S.mW (λx=>M.Hl x.1.2.1 x.2.1.1 x.2.1.2.1 x.2.1.2.2.1) [fe C.strings_Repeat]
def M.uN(indent:Int)(flat:Bool)(v x' kR:Int)(mY:aA)(rP:au)(sD:Int)(P7:au)(s:Int×au)(kn:Int×au->Option R)(ke:Int×au->Option R):Option R:=match s with
 |(i,Si)=>bif decide (i>=0) then((idx rP i).bind λa=>(bM .i64 a 0).bind λb=>(bM .i64 a 1).bind λd=>(cStr a 2).bind λe=>(NP 5 a 3).bind λc=>(bM .i64 a 4).bind λf=>jH Si [[D.int .i64 b,D.int .i64 d,D.str e,D.sl false 5 c,D.int .i64 f,D.int .i64 indent,D.bool flat]] 80 λg=>kn (i64.wrap (i - 1),g)) else ke (i,Si)
def M.AO indent flat v x' kR mY rP sD P7 s:=M.uN indent flat v x' kR mY rP sD P7 s (λs=>some (Sum.inl s)) λt=>some (Sum.inr t)
def M.EF indent flat v x' kR mY rP sD P7 s:=dU (M.AO indent flat v x' kR mY rP sD P7) s
def F.EF:LE X0 87:=le 2 (Gj [bH 0 (pP 100000 0),bH 2 pI,bH 3 pB,bH 5 (pP 300000 0),bH 8 pI] [bH 100000 (cB 77 [pO 300001 0,pI,pO 300002 0]),bH 300000 (cB 58 zbc),bH 300001 zaZ,bH 300002 (cA false false 0 7)]) (λx=>(x.1.va.2.1,x.va.2.1)) (λx s=>(((),x.1.2.1,x.1.2.2.1,(),s.1,()),(((),x.2.1.2.1,(),()),(x.2.2.1.1,x.2.2.1.2.1,x.2.2.1.2.2.1,x.2.2.1.va.1,x.2.2.1.va.2.1,()),x.va.1,s.2,()))) (λx=> .leaf (Int×au) (λt=>(Ex.exit 0,⟨[(0,V.ptr 100000 0),(2,iQ x.1.2.1),(3,uX x.1.2.2.1),(5,V.ptr 300000 0),(8,iQ t.1),(14,uX false)],[(100000,Cell.box 77 [V.own 300001 0,iQ x.2.1.2.1,V.own 300002 0]),(300000,Cell.box 58 [iQ x.2.2.1.1,iQ x.2.2.1.2.1,yG x.2.2.1.2.2.1,F9 5 x.2.2.1.va.1,iQ x.2.2.1.va.2.1]),(300001,Cell.arr false true 0 1 x.va.1),(300002,Cell.arr false false 0 7 t.2)]⟩))) (λx=>M.uN x.1.2.1 x.1.2.2.1 x.2.1.2.1 x.2.2.1.1 x.2.2.1.2.1 x.2.2.1.2.2.1 x.2.2.1.va.1 x.2.2.1.va.2.1 x.va.1) [] [] (by rintro _ _ ⟨_,_⟩ _ _<;>unfold M.uN<;>exact zbn)
abbrev M.Ho(d d1:Int)(d2:aA)(d3:au)(d4 indent:Int)(flat:Bool)(c:au)(c1:Int)(c2:au)(k:au×Int×au->Option R):=(M.EF indent flat c1 d d1 d2 d3 d4 c (i64.wrap ((↑d3.length:Int) - 1),c2)).bind λa=>cond (ay c) (k (c,c1,a.2)) none
def M.jl d d1 d2 d3 d4 indent flat c c1 c2:=M.Ho d d1 d2 d3 d4 indent flat c c1 c2 some
def C.jl:=fTa S.jl (λx=>M.Ho x.1.2.1.1 x.1.2.1.2.1 x.1.2.1.2.2.1 x.1.2.1.va.1 x.1.2.1.va.2.1 x.1.2.2.1 x.1.va.1 x.2.1.1 x.2.1.2.1 x.2.1.2.2.1) [] [F.EF]
def M.uw(jh:zap)(v21:au)(v22:Int)(s:Int×au)(kn:Int×au->Option R)(ke:(Unit)⊕(Int×au)->Option R):Option R:=match s with
 |(v23,x')=>bif decide (v23<v22) then((idx v21 v23).bind λa=>(bM .i64 a 0).bind λd=>(bM .i64 a 1).bind λf=>(cStr a 2).bind λc=>(NP 5 a 3).bind λg=>(bM .i64 a 4).bind λe=>(jh d f c g e).bind λb=>bif !b.2 then(ke (.inl ())) else bif((x'.length+(List.map byteRow b.1).length) * 1).ble 140737488355328 then(bif(x'.length+(List.map byteRow b.1).length).ble 140737488355328 then(kn (i64.wrap (v23+1),x'++List.map byteRow b.1)) else none) else none) else ke (.inr (v23,x'))
def M.uy jh v21 v22 s:=M.uw jh v21 v22 s (λs=>some (Sum.inl s)) λt=>some (Sum.inr t)
def M.Jt jh v21 v22 s:=dU (M.uy jh v21 v22) s
def F.Jt{jh:zap}(U3:S.oQ.ok X0 λx=>bJ jh x.1.1):LE X0 52:=le 10 (Gj [bH 4 (pO 300000 0),bH 21 (pL false 5),bH 22 pI,bH 23 pI] [bH 300000 zaZ]) (λx=>(x.1.va.1,x.2.1)) (λx s=>(((),x.1.2.1,x.1.2.2.1,s.1,()),(s.2,()))) (λx=> .sum (.leaf (Unit) (λt=>(Ex.ret,⟨[(2,V.d (D.str [])),(3,uX false)],[]⟩))) (.leaf (Int×au) (λt=>(Ex.exit 1,⟨[(4,V.own 300000 0),(21,F9 5 x.1.2.1),(22,iQ x.1.2.2.1),(23,iQ t.1),(24,uX false)],[(300000,Cell.arr false true 0 1 t.2)]⟩)))) (λx=>M.uw jh x.1.2.1 x.1.2.2.1) [fe U3] [] (by rintro _ _ ⟨_,_⟩ _ _<;>simp only[M.uw,nb]<;>rfl)
def M.Ir(jh:zap)(d d1:Int)(d2:aA)(d3:au)(d4:Int)(k:aA×Bool->Option R):=cond (d==1) (k (d2,true)) (cond (d==2) (k ([32],true)) (cond (d==3) (k ([],false)) ((M.Jt jh d3 ((↑d3.length:Int)) (0,[])).bind λa=>rO a (λf=>k ([],false)) λe=>letE e λb=>(bytesOf b.2).bind λc=>k (c,true))))
def M.lK:Nat->Int->Int->aA->au->Int->Option (aA×Bool)
 |0=>λ_ _ _ _ _=>none
 |n+1=>λd d1 d2 d3 d4=>M.Ir (M.lK n) d d1 d2 d3 d4 some
def M.oQ d d1 d2 d3 d4:=lim λn=>M.lK n d d1 d2 d3 d4
def C.aeH{jh:zap}(U3:S.oQ.ok X0 λx=>bJ jh x.1.1):S.oQ.ok X0 λx=>bJ (M.Ir jh) x.1.1 some:=fnS (λx=>M.Ir jh x.1.1.1 x.1.1.2.1 x.1.1.2.2.1 x.1.1.va.1 x.1.1.va.2.1) [] [F.Jt U3] (by intros;simp only[M.Ir,nb]<;>rfl)
def C.lK:∀n,S.oQ.ok X0 λx=>M.lK n x.1.1.1 x.1.1.2.1 x.1.1.2.2.1 x.1.1.va.1 x.1.1.va.2.1
 |0=>dQ.zero
 |n+1=>C.aeH (C.lK n)
def C.oQ:S.oQ.ok X0 λx=>bJ M.oQ x.1.1:=dQ.lim C.lK
def M.aeI{n:Nat}{d d1:Int}{d2:aA}{d3:au}{d4:Int}{r:aA×Bool}(h:M.lK n d d1 d2 d3 d4=some r):M.oQ d d1 d2 d3 d4=some r:=dQ.zL C.lK (by intro a b h;simp[S.oQ,rr,sg] at h;first|exact h|simp[Prod.ext_iff,h]) (x:=(((d,d1,d2,d3,d4,()),()),())) h
def M.qE(w:Row)(count i kR mY:Int)(rP:aA)(sD:au)(P7:Int)(s:Int×au)(kn:Int×au->Option R)(ke:Int×au->Option R):Option R:=match s with
 |(k',x')=>bif decide (k'>=0) then((idx sD k').bind λa=>(bM .i64 a 0).bind λb=>(bM .i64 a 1).bind λd=>(cStr a 2).bind λe=>(NP 5 a 3).bind λc=>(bM .i64 a 4).bind λf=>jH x' [[D.int .i64 b,D.int .i64 d,D.str e,D.sl false 5 c,D.int .i64 f]] 64 λg=>kn (i64.wrap (k' - 1),g)) else ke (k',x')
def M.wz w count i kR mY rP sD P7 s:=M.qE w count i kR mY rP sD P7 s (λs=>some (Sum.inl s)) λt=>some (Sum.inr t)
def M.nN w count i kR mY rP sD P7 s:=dU (M.wz w count i kR mY rP sD P7) s
def F.nN:LE X0 53:=le 16 (Gj [bH 0 (pR 0),bH 3 pI,bH 4 (pO 300000 0),bH 5 pI,bH 6 (pP 300001 0),bH 7 pI] [bH 300000 zbb,bH 300001 (cB 58 zbc)]) (λx=>(x.1.va.2.2.1,x.2.1)) (λx s=>((x.1.1,x.1.2.1,(),x.1.va.1,(),s.1,()),(s.2,(x.2.2.1.1,x.2.2.1.2.1,x.2.2.1.2.2.1,x.2.2.1.va.1,x.2.2.1.va.2.1,()),()))) (λx=> .leaf (Int×au) (λt=>(Ex.exit 5,⟨[(0,V.zx x.1.1 0),(3,iQ x.1.2.1),(4,V.own 300000 0),(5,iQ x.1.va.1),(6,V.ptr 300001 0),(7,iQ t.1),(62,uX false)],[(300000,Cell.arr false false 0 5 t.2),(300001,Cell.box 58 [iQ x.2.2.1.1,iQ x.2.2.1.2.1,yG x.2.2.1.2.2.1,F9 5 x.2.2.1.va.1,iQ x.2.2.1.va.2.1])]⟩))) (λx=>M.qE x.1.1 x.1.2.1 x.1.va.1 x.2.2.1.1 x.2.2.1.2.1 x.2.2.1.2.2.1 x.2.2.1.va.1 x.2.2.1.va.2.1) [] [] (by rintro _ _ ⟨_,_⟩ _ _<;>simp only[jH,M.qE,nb]<;>rfl)
def M.iK(s:(Row×Int×Int×au)⊕(Row×Int×Int×Int×Bool×au×Int×Int×aA×au×Int))(kn:(Row×Int×Int×au)⊕(Row×Int×Int×Int×Bool×au×Int×Int×aA×au×Int)->Option R)(ke:(Int)⊕(Row×Int×Int×au)->Option R):Option R:=match s with
 | .inl (w,count,i,x')=>bif decide ((↑x'.length:Int)>0) then((idx x' (i64.wrap ((↑x'.length:Int) - 1))).bind λt=>(x'[(i64.wrap ((↑x'.length:Int) - 1)).toNat]?).bind λf=>(bM .i64 f 0).bind λb=>(bM .i64 f 1).bind λh=>(cStr f 2).bind λc=>(cRo 5 f 3).bind λm=>(bM .i64 f 4).bind λj=>bif decide (0<=i64.wrap ((↑x'.length:Int) - 1)) && decide (i64.wrap ((↑x'.length:Int) - 1)<=(↑x'.length:Int)) then(bif b==1 then((M.nN w (i64.wrap (count+(↑c.length:Int))) i b h c m j (i64.wrap ((↑m.length:Int) - 1),List.take (i64.wrap ((↑x'.length:Int) - 1)).toNat x')).bind λq=>kn (.inr (w,i64.wrap (count+(↑c.length:Int)),i,q.1,false,q.2,b,h,c,m,j))) else bif b==2 then(ke (.inl count)) else bif b==3 then(ke (.inl count)) else (M.nN w count i b h c m j (i64.wrap ((↑m.length:Int) - 1),List.take (i64.wrap ((↑x'.length:Int) - 1)).toNat x')).bind λn=>kn (.inr (w,count,i,n.1,false,n.2,b,h,c,m,j))) else none) else(ke (.inr (w,count,i,x')))
 | .inr (w,count,i,k',v62,x',kR,mY,rP,sD,P7)=>bif decide ((↑x'.length:Int)>0) then((idx x' (i64.wrap ((↑x'.length:Int) - 1))).bind λr=>(x'[(i64.wrap ((↑x'.length:Int) - 1)).toNat]?).bind λe=>(bM .i64 e 0).bind λa=>(bM .i64 e 1).bind λg=>(cStr e 2).bind λd=>(cRo 5 e 3).bind λl=>(bM .i64 e 4).bind λk=>bif decide (0<=i64.wrap ((↑x'.length:Int) - 1)) && decide (i64.wrap ((↑x'.length:Int) - 1)<=(↑x'.length:Int)) then(bif a==1 then((M.nN w (i64.wrap (count+(↑d.length:Int))) i a g d l k (i64.wrap ((↑l.length:Int) - 1),List.take (i64.wrap ((↑x'.length:Int) - 1)).toNat x')).bind λo=>kn (.inr (w,i64.wrap (count+(↑d.length:Int)),i,o.1,false,o.2,a,g,d,l,k))) else bif a==2 then(ke (.inl count)) else bif a==3 then(ke (.inl count)) else (M.nN w count i a g d l k (i64.wrap ((↑l.length:Int) - 1),List.take (i64.wrap ((↑x'.length:Int) - 1)).toNat x')).bind λp=>kn (.inr (w,count,i,p.1,false,p.2,a,g,d,l,k))) else none) else ke (.inr (w,count,i,x'))
def M.iL s:=M.iK s (λs=>some (Sum.inl s)) λt=>some (Sum.inr t)
def M.uO s:=dU (M.iL) s
def F.uO:LE X0 53:=le 6 (pOr (Gj [bH 0 (pR 0),bH 3 pI,bH 4 (pO 300000 0),bH 5 pI] [bH 300000 zbb]) (Gj [bH 0 (pR 0),bH 3 pI,bH 4 (pO 300000 0),bH 5 pI,bH 6 (pP 300001 0),bH 7 pI,bH 62 pB] [bH 300000 zbb,bH 300001 (cB 58 zbc)])) (σ:=(Row×Int×Int×au)⊕(Row×Int×Int×Int×Bool×au×Int×Int×aA×au×Int)) (λx=>(match x with| .inl x=> .inl ((x.1.1,x.1.2.1,x.1.va.1,x.2.1))| .inr x=> .inr ((x.1.1,x.1.2.1,x.1.va.1,x.1.va.2.2.1,x.1.va.va.1,x.2.1,x.2.2.1.1,x.2.2.1.2.1,x.2.2.1.2.2.1,x.2.2.1.va.1,x.2.2.1.va.2.1)))) (λx s=>(match s with| .inl s=> .inl (((s.1,s.2.1,(),s.2.2.1,()),(s.va,())))| .inr s=> .inr (((s.1,s.2.1,(),s.2.2.1,(),s.va.1,s.va.2.1,()),(s.va.2.2.1,(s.va.va.1,s.va.va.2.1,s.wa.1,s.wa.2.1,s.wa.2.2,()),()))))) (λx=> .sum (.leaf (Int) (λt=>(Ex.ret,⟨[(2,iQ t)],[]⟩))) (.leaf (Row×Int×Int×au) (λt=>(Ex.exit 2,⟨[(0,V.zx t.1 0),(3,iQ t.2.1),(4,V.own 300000 0),(5,iQ t.2.2.1),(32,uX false)],[(300000,Cell.arr false false 0 5 t.va)]⟩)))) (λx=>M.iK) [] [F.nN] (by rintro _ _ (⟨_,_,_,_⟩|⟨_,_,_,_,_,_,_,_,_,_,_⟩) _ _<;>unfold M.iK<;>exact zbn) (hE:=by intro _ _ s _;rcases s with s|s<;>kernel_rfl)
def M.rD(s:Row×Int×Int×au)(kn:Row×Int×Int×au->Option R)(ke:(Int)⊕(Row×Int×Int×au)->Option R):Option R:=match s with
 |(w,count,i,x')=>bif decide (i>=0) then((NP 7 w 2).bind λg=>(idx g i).bind λa=>(bM .i64 a 0).bind λl=>(bM .i64 a 1).bind λk=>(cStr a 2).bind λh=>(NP 5 a 3).bind λd=>(bM .i64 a 4).bind λc=>jH x' [[D.int .i64 l,D.int .i64 k,D.str h,D.sl false 5 d,D.int .i64 c]] 64 λm=>(M.uO (.inl (w,count,i,m))).bind λj=>rO j (λe=>ke (.inl e)) λf=>letE f λb=>kn (b.1,b.2.1,i64.wrap (b.2.2.1 - 1),b.2.2.2)) else ke (.inr (w,count,i,x'))
def M.rE s:=M.rD s (λs=>some (Sum.inl s)) λt=>some (Sum.inr t)
def M.AP s:=dU (M.rE) s
def F.AP:LE X0 53:=le 3 (Gj [bH 0 (pR 0),bH 3 pI,bH 4 (pO 300000 0),bH 5 pI] [bH 300000 zbb]) (λx=>(x.1.1,x.1.2.1,x.1.va.1,x.2.1)) (λx s=>((s.1,s.2.1,(),s.2.2.1,()),(s.va,()))) (λx=> .sum (.leaf (Int) (λt=>(Ex.ret,⟨[(2,iQ t)],[]⟩))) (.leaf (Row×Int×Int×au) (λt=>(Ex.exit 0,⟨[(0,V.zx t.1 0),(3,iQ t.2.1),(4,V.own 300000 0),(5,iQ t.2.2.1),(16,uX false)],[(300000,Cell.arr false false 0 5 t.va)]⟩)))) (λx=>M.rD) [] [F.uO] (by rintro _ _ ⟨_,_,_,_⟩ _ _<;>simp only[jH,M.rD,nb]<;>rfl)
abbrev M.CV(w:Row)(k:Int->Option R):=(NP 7 w 2).bind λe=>(M.AP (w,0,i64.wrap ((↑e.length:Int) - 1),[])).bind λa=>rO a (λd=>k d) λb=>letE b λc=>k c.2.1
def M.oM w:=M.CV w some
def C.oM:=fTa S.oM (λx=>M.CV x.1.1) [] [F.AP]
abbrev M.L6(d d1:Int)(d2:aA)(d3:au)(d4:Int)(c:au)(c1:Int)(c2:au)(c3:Int)(k:Bool×au×Int×au×Int->Option R):=(M.oQ d d1 d2 d3 d4).bind λa=>cond a.2 ((M.oM [D.sl false 1 c,D.int .i64 c1,D.sl false 7 (aG c2)]).bind λb=>cond (ay c) (k (decide (i64.wrap ((↑a.1.length:Int)+b)<=i64.wrap (c3 - c1)),c,c1,c2,c3)) none) (cond (ay c) (k (false,c,c1,c2,c3)) none)
def M.sO d d1 d2 d3 d4 c c1 c2 c3:=M.L6 d d1 d2 d3 d4 c c1 c2 c3 some
def C.sO:=fTa S.sO (λx=>M.L6 x.1.1.1 x.1.1.2.1 x.1.1.2.2.1 x.1.1.va.1 x.1.1.va.2.1 x.2.1.1 x.2.1.2.1 x.2.1.2.2.1 x.2.2.1.1) [fe C.oQ,fe C.oM]
def M.CW(s:Int×Int×au×au)(kn:Int×Int×au×au->Option R)(ke:Int×Int×au×au->Option R):Option R:=match s with
 |(v,v1,x',kR)=>bif decide ((↑kR.length:Int)>0) then((idx kR (i64.wrap ((↑kR.length:Int) - 1))).bind λp=>(kR[(i64.wrap ((↑kR.length:Int) - 1)).toNat]?).bind λn=>(bM .i64 n 0).bind λa=>(bM .i64 n 1).bind λc=>(cStr n 2).bind λb=>(cRo 5 n 3).bind λf=>(bM .i64 n 4).bind λg=>(bM .i64 n 5).bind λe=>(Sj n 6).bind λh=>bif decide (0<=i64.wrap ((↑kR.length:Int) - 1)) && decide (i64.wrap ((↑kR.length:Int) - 1)<=(↑kR.length:Int)) then(bif a==1 then(bif((x'.length+(List.map byteRow b).length) * 1).ble 140737488355328 then(bif(x'.length+(List.map byteRow b).length).ble 140737488355328 then(kn (i64.wrap (v+(↑b.length:Int)),v1,x'++List.map byteRow b,List.take (i64.wrap ((↑kR.length:Int) - 1)).toNat kR)) else none) else none) else bif a==2 then(bif h then(bif((x'.length+1) * 1).ble 140737488355328 then(bif(x'.length+1).ble 140737488355328 then(kn (i64.wrap (v+1),v1,x'++[[D.int IntKind.u8 32]],List.take (i64.wrap ((↑kR.length:Int) - 1)).toNat kR)) else none) else none) else bif ay x' then((M.mW e x' v (List.take (i64.wrap ((↑kR.length:Int) - 1)).toNat kR)).bind λi=>kn (i.2.1,v1,i.1,i.2.2)) else none) else bif a==3 then(bif ay x' then((M.mW e x' v (List.take (i64.wrap ((↑kR.length:Int) - 1)).toNat kR)).bind λl=>kn (l.2.1,v1,l.1,l.2.2)) else none) else bif a==4 then(bif ay x' then((M.jl a c b f g (i64.wrap (e+c)) h x' v (List.take (i64.wrap ((↑kR.length:Int) - 1)).toNat kR)).bind λo=>kn (o.2.1,v1,o.1,o.2.2)) else none) else bif a==5 then(bif h then(bif ay x' then((M.jl a c b f g e true x' v (List.take (i64.wrap ((↑kR.length:Int) - 1)).toNat kR)).bind λk=>kn (k.2.1,v1,k.1,k.2.2)) else none) else bif ay x' then((M.sO a c b f g x' v (List.take (i64.wrap ((↑kR.length:Int) - 1)).toNat kR) v1).bind λd=>bif ay d.2.1 then((M.jl a c b f g e d.1 d.2.1 d.2.2.1 d.2.2.2.1).bind λj=>kn (j.2.1,d.2.2.2.2,j.1,j.2.2)) else none) else none) else bif ay x' then((M.jl a c b f g e h x' v (List.take (i64.wrap ((↑kR.length:Int) - 1)).toNat kR)).bind λm=>kn (m.2.1,v1,m.1,m.2.2)) else none) else none) else ke (v,v1,x',kR)
def M.rF s:=M.CW s (λs=>some (Sum.inl s)) λt=>some (Sum.inr t)
def M.Hq s:=dU (M.rF) s
def F.Hq:LE X0 49:=le 2 (Gj [bH 0 (pP 100000 0),bH 2 (av6 51 [] [pKp (pP 100000 0),pP 100001 0])] [bH 100000 (cB 77 [pO 300000 0,pI,pO 300001 0]),bH 100001 (cB 3 [pI]),bH 300000 zaZ,bH 300001 (cA false false 0 7)]) (λx=>(x.2.1.2.1,x.2.2.1.1,x.va.1,x.va.2.1)) (λx s=>(((),((),((),(),())),()),(((),s.1,(),()),(s.2.1,()),s.2.2.1,s.va,()))) (λx=> .leaf (Int×Int×au×au) (λt=>(Ex.exit 0,⟨[(0,V.ptr 100000 0),(2,V.clo 51 [] [(V.ptr 100000 0).NR,V.ptr 100001 0]),(18,uX false)],[(100000,Cell.box 77 [V.own 300000 0,iQ t.1,V.own 300001 0]),(100001,Cell.box 3 [iQ t.2.1]),(300000,Cell.arr false true 0 1 t.2.2.1),(300001,Cell.arr false false 0 7 t.va)]⟩))) (λx=>M.CW) [fe C.mW,fe C.jl,fe C.sO] [] (by rintro _ _ ⟨_,_,_,_⟩ _ _<;>simp only[M.CW,nb]<;>rfl)
abbrev M.Ju(d d1:Int)(d2:aA)(d3:au)(d4:Int)(c:au)(c1:Int)(c2:au)(c3:Int)(k:au×Int×au×Int->Option R):=(M.Hq (c1,c3,c,[[D.int .i64 d,D.int .i64 d1,D.str d2,D.sl false 5 d3,D.int .i64 d4,D.int .i64 0,D.bool false]])).bind λa=>cond (ay a.2.2.1) (k (a.2.2.1,a.1,a.2.2.2,a.2.1)) none
def M.xQ d d1 d2 d3 d4 c c1 c2 c3:=M.Ju d d1 d2 d3 d4 c c1 c2 c3 some
def C.xQ:=fTa S.xQ (λx=>M.Ju x.1.2.1.1 x.1.2.1.2.1 x.1.2.1.2.2.1 x.1.2.1.va.1 x.1.2.1.va.2.1 x.2.1.1 x.2.1.2.1 x.2.1.2.2.1 x.2.2.1.1) [] [F.Hq]
abbrev M.NY(l:au)(w:Int)(k:aA×Bool->Option R):=(M.D5 l).bind λc=>cond (!c) (k ([],false)) ((M.bK w 0 10000).bind λb=>cond (!b) (k ([],false)) ((M.Ko l).bind λa=>(M.xQ a.1 a.2.1 a.2.2.1 (aG a.2.2.2.1) a.2.2.2.2 [] 0 [] w).bind λe=>(bytesOf e.1).bind λd=>k (d,true)))
def M.zh l w:=M.NY l w some
def C.zh:=fTa S.zh (λx=>M.NY x.1.1 x.1.2.1) [fe C.D5,fe C.bK,fe C.Ko,fe C.xQ]
abbrev M.Fv(d:au)(w:Int)(k:aA×Bool->Option R):=(M.zh d w).bind λa=>cond (!a.2) (k ([],false)) (cond (decide ((↑a.1.length:Int)>3000)) (k ([],false)) (k (a.1,true)))
def M.qB d w:=M.Fv d w some
def C.qB:=fTa S.qB (λx=>M.Fv x.1.1 x.1.2.1) [fe C.zh]
abbrev M.QL(l:au)(w:Int)(k:aA×Bool->Option R):=(M.qL l).bind λb=>(M.qB (aG b) w).bind λa=>k (a.1,a.2)
def M.zQ l w:=M.QL l w some
def C.zQ:=fTa S.zQ (λx=>M.QL x.1.1 x.1.2.1) [fe C.qL,fe C.qB]
abbrev M.CX(x' low high:Int)(k:Bool->Option R):=cond (decide (x'>=low)) (k (decide (x'<=high))) (k false)
def M.dF x' low high:=M.CX x' low high some
def C.dF:=fTa S.dF (λx=>M.CX x.1.1 x.1.2.1 x.1.2.2.1)
def M.Af(l:au)(i:Int)(x':au)(s:Int×Int)(kn:Int×Int->Option R)(ke:(Unit)⊕(Int×Int)->Option R):Option R:=match s with
 |(at',k')=>bif decide (k'>=0) then((idx l i).bind λa=>(NP 1 a 4).bind λe=>(idx e k').bind λc=>(bM .i64 c 0).bind λd=>bif d !=i64.wrap (at' - 1) then(ke (.inl ())) else bif at'==0 then(ke (.inl ())) else (idx x' (i64.wrap (at' - 1))).bind λg=>(x'[(i64.wrap (at' - 1)).toNat]?).bind λb=>(bM .i64 b 0).bind λf=>kn (f,i64.wrap (k' - 1))) else ke (.inr (at',k'))
def M.Hr l i x' s:=M.Af l i x' s (λs=>some (Sum.inl s)) λt=>some (Sum.inr t)
def M.vg l i x' s:=dU (M.Hr l i x') s
def F.vg:LE X0 145:=le 7 (Gj [bH 0 (pL false 5),bH 4 (pO 300000 0),bH 5 pI,bH 6 pI,bH 7 pI] [bH 300000 zaZ]) (λx=>(x.1.va.1,x.1.va.2.1)) (λx s=>((x.1.1,(),x.1.2.2.1,s.1,s.2,()),(x.2.1,()))) (λx=> .sum (.leaf (Unit) (λt=>(Ex.ret,⟨[(2,V.own 300000 0),(3,uX false)],[(300000,Cell.arr false true 0 1 [])]⟩))) (.leaf (Int×Int) (λt=>(Ex.exit 2,⟨[(0,F9 5 x.1.1),(4,V.own 300000 0),(5,iQ x.1.2.2.1),(6,iQ t.1),(7,iQ t.2),(24,uX false)],[(300000,Cell.arr false true 0 1 x.2.1)]⟩)))) (λx=>M.Af x.1.1 x.1.2.2.1 x.2.1) [] [] (by rintro _ _ ⟨_,_⟩ _ _<;>simp only[M.Af,nb]<;>rfl)
def M.Ag(l:au)(s:Int×au)(kn:Int×au->Option R)(ke:(Unit)⊕(Int×au)->Option R):Option R:=match s with
 |(i,x')=>bif decide (i<(↑l.length:Int)) then((idx l i).bind λd=>(NP 1 d 4).bind λc=>(M.vg l i x' (i,i64.wrap ((↑c.length:Int) - 1))).bind λb=>rO b (λg=>ke (.inl ())) λa=>letE a λe=>jH x' [[D.int .i64 e.1]] 8 λf=>kn (i64.wrap (i+1),f)) else ke (.inr (i,x'))
def M.Ht l s:=M.Ag l s (λs=>some (Sum.inl s)) λt=>some (Sum.inr t)
def M.vk l s:=dU (M.Ht l) s
def F.vk:LE X0 145:=le 3 (Gj [bH 0 (pL false 5),bH 4 (pO 300000 0),bH 5 pI] [bH 300000 zaZ]) (λx=>(x.1.2.2.1,x.2.1)) (λx s=>((x.1.1,(),s.1,()),(s.2,()))) (λx=> .sum (.leaf (Unit) (λt=>(Ex.ret,⟨[(2,V.own 300000 0),(3,uX false)],[(300000,Cell.arr false true 0 1 [])]⟩))) (.leaf (Int×au) (λt=>(Ex.exit 0,⟨[(0,F9 5 x.1.1),(4,V.own 300000 0),(5,iQ t.1),(12,uX false)],[(300000,Cell.arr false true 0 1 t.2)]⟩)))) (λx=>M.Ag x.1.1) [] [F.vg] (by rintro _ _ ⟨_,_⟩ _ _<;>simp only[jH,M.Ag,nb]<;>rfl)
abbrev M.OI(l:au)(k:au×Bool->Option R):=(M.vk l (0,[])).bind λb=>rO b (λd=>k ([],false)) λc=>letE c λa=>cond (ay a.2) (k (a.2,true)) none
def M.D6 l:=M.OI l some
def C.D6:=fTa S.D6 (λx=>M.OI x.1.1) [] [F.vk]
abbrev M.QM(l:au)(k:Bool->Option R):=(M.dF ((↑l.length:Int)) 1 400).bind λc=>cond (!c) (k false) ((M.D6 l).bind λa=>cond a.2 ((idx a.1 (i64.wrap ((↑l.length:Int) - 1))).bind λe=>(a.1[(i64.wrap ((↑l.length:Int) - 1)).toNat]?).bind λd=>(bM .i64 d 0).bind λb=>k (b==0)) (k false))
def M.vT l:=M.QM l some
def C.vT:=fTa S.vT (λx=>M.QM x.1.1) [fe C.dF,fe C.D6]
def M.CY(l:au)(i:Int)(x':au)(s:Int×Int)(kn:Int×Int->Option R)(ke:Int×Int->Option R):Option R:=match s with
 |(n',k')=>(idx l i).bind λe=>(NP 1 e 4).bind λh=>bif decide (k'<(↑h.length:Int)) then((idx l i).bind λc=>(NP 1 c 4).bind λf=>(idx f k').bind λd=>(bM .i64 d 0).bind λa=>(idx x' a).bind λj=>x'[a.toNat]?.bind λg=>(bM .i64 g 0).bind λb=>kn (bif decide (n'<i64.wrap (1+b)) then i64.wrap (1+b) else n',i64.wrap (k'+1))) else ke (n',k')
def M.Jv l i x' s:=M.CY l i x' s (λs=>some (Sum.inl s)) λt=>some (Sum.inr t)
def M.Iu l i x' s:=dU (M.Jv l i x') s
def F.Iu:LE X0 105:=le 9 (Gj [bH 0 (pL false 5),bH 3 (pO 300000 0),bH 4 pI,bH 5 pI,bH 6 pI] [bH 300000 zaZ]) (λx=>(x.1.va.1,x.1.va.2.1)) (λx s=>((x.1.1,(),x.1.2.2.1,s.1,s.2,()),(x.2.1,()))) (λx=> .leaf (Int×Int) (λt=>(Ex.exit 2,⟨[(0,F9 5 x.1.1),(3,V.own 300000 0),(4,iQ x.1.2.2.1),(5,iQ t.1),(6,iQ t.2),(24,uX false)],[(300000,Cell.arr false true 0 1 x.2.1)]⟩))) (λx=>M.CY x.1.1 x.1.2.2.1 x.2.1) [] [] (by rintro _ _ ⟨_,_⟩ _ _<;>simp only[M.CY,nb]<;>rfl)
def M.CZ(l:au)(s:Int×au)(kn:Int×au->Option R)(ke:Int×au->Option R):Option R:=match s with
 |(i,x')=>bif decide (i<(↑l.length:Int)) then((M.Iu l i x' (1,0)).bind λa=>jH x' [[D.int .i64 a.1]] 8 λb=>kn (i64.wrap (i+1),b)) else ke (i,x')
def M.Jw l s:=M.CZ l s (λs=>some (Sum.inl s)) λt=>some (Sum.inr t)
def M.OJ l s:=dU (M.Jw l) s
def F.OJ:LE X0 105:=le 5 (Gj [bH 0 (pL false 5),bH 3 (pO 300000 0),bH 4 pI] [bH 300000 zaZ]) (λx=>(x.1.2.2.1,x.2.1)) (λx s=>((x.1.1,(),s.1,()),(s.2,()))) (λx=> .leaf (Int×au) (λt=>(Ex.exit 0,⟨[(0,F9 5 x.1.1),(3,V.own 300000 0),(4,iQ t.1),(14,uX false)],[(300000,Cell.arr false true 0 1 t.2)]⟩))) (λx=>M.CZ x.1.1) [] [F.Iu] (by rintro _ _ ⟨_,_⟩ _ _<;>simp only[jH,M.CZ,nb]<;>rfl)
abbrev M.QN(l:au)(k:Int->Option R):=(M.vT l).bind λc=>cond (!c) (k 0) ((M.OJ l (0,[])).bind λa=>(idx a.2 (i64.wrap ((↑l.length:Int) - 1))).bind λe=>(a.2[(i64.wrap ((↑l.length:Int) - 1)).toNat]?).bind λb=>(bM .i64 b 0).bind λd=>k d)
def M.BP l:=M.QN l some
def C.BP:=fTa S.BP (λx=>M.QN x.1.1) [fe C.vT] [F.OJ]
abbrev M.bZ(n' gq:Int)(iO iM:aA)(jv:au)(k:Int×Int->Option R):=cond (n'==5) (k (1,6)) (cond (n'==13) (k (1,6)) (cond (n'==7) (k (0,6)) (cond (n'==8) (k (0,6)) (cond (n'==27) (k (0,6)) (cond (n'==6) (k (1,1)) (cond (n'==9) (k (1,1)) (cond (n'==10) (k (1,1)) (cond (n'==11) (k (1,1)) (cond (n'==20) (k (1,1)) (cond (n'==32) (k (1,1)) (cond (n'==40) (k (1,1)) (cond (n'==41) (k (1,1)) (cond (n'==12) (k (2,2)) (cond (n'==15) (k (2,2)) (cond (n'==29) (k (2,2)) (cond (n'==30) (k (2,2)) (cond (n'==14) (k (3,3)) (cond (n'==21) (cond (!iM==[]) (k (i64.wrap (gq+1),7)) (k (gq,6))) (cond (n'==23) (k (0,1)) (cond (n'==24) (k (0,1)) (cond (n'==28) (k (2,3)) (cond (n'==31) (k (4,4)) (cond (n'==33) (k (0,(↑jv.length:Int))) (cond (n'==45) (k (0,(↑jv.length:Int))) (cond (n'==42) (k (i64.wrap (1+i64.wrap (gq.tdiv 3)),i64.wrap (1+i64.wrap (gq.tdiv 3)))) (cond (n'==43) (k (i64.wrap (2+i64.wrap (gq.tdiv 3)),i64.wrap (2+i64.wrap (gq.tdiv 3)))) (cond (n'==44) (k (1,7)) (k (0,0)))))))))))))))))))))))))))))
def M.dD n' gq iO iM jv:=M.bZ n' gq iO iM jv some
def C.dD:=fTa S.dD (λx=>M.bZ x.1.1.1 x.1.1.2.1 x.1.1.2.2.1 x.1.1.va.1 x.1.1.va.2.1)
abbrev M.QO(op':Int)(k:Bool->Option R):=cond (op'==60) (k true) (cond (op'==57) (k true) (cond (op'==58) (k true) (cond (op'==59) (k true) (cond (op'==55) (k true) (cond (op'==56) (k true) (cond (op'==99) (k true) (cond (op'==63) (k true) (cond (op'==48) (k true) (cond (op'==47) (k true) (cond (op'==50) (k true) (cond (op'==62) (k true) (cond (op'==49) (k true) (cond (op'==67) (k true) (cond (op'==46) (k true) (cond (op'==45) (k true) (cond (op'==44) (k true) (k false)))))))))))))))))
def M.yK op':=M.QO op' some
def C.yK:=fTa S.yK (λx=>M.QO x.1.1)
abbrev M.Jy(op':Int)(k:Bool->Option R):=cond (op'==54) (k true) ((M.dF op' 38 43).bind λa=>k a)
def M.qM op':=M.Jy op' some
def C.qM:=fTa S.qM (λx=>M.Jy x.1.1) [fe C.dF]
abbrev M.dX(n' gq:Int)(iO iM:aA)(jv:au)(k:Bool->Option R):=cond (n'==9) (cond (gq==51) (k true) (k (gq==52))) (cond (n'==10) (cond (gq==51) (k true) (k (gq==52))) (cond (n'==11) (cond (gq==55) (k true) (cond (gq==56) (k true) (k (gq==61)))) (cond (n'==12) ((M.yK gq).bind λb=>k b) (cond (n'==15) ((M.qM gq).bind λa=>k a) (cond (n'==21) ((M.dF gq 0 1).bind λd=>k d) (cond (n'==42) ((M.dF gq 1 3).bind λc=>k c) (cond (n'==43) (cond (gq==1) (k true) (k (gq==3))) (k (gq==0)))))))))
def M.eX n' gq iO iM jv:=M.dX n' gq iO iM jv some
def C.eX:=fTa S.eX (λx=>M.dX x.1.1.1 x.1.1.2.1 x.1.1.2.2.1 x.1.1.va.1 x.1.1.va.2.1) [fe C.yK,fe C.qM,fe C.dF]
abbrev M.OL(b:Int)(k:Bool->Option R):=(M.dF b 97 122).bind λa=>cond a (k true) ((M.dF b 65 90).bind λc=>cond c (k true) (k (b==95)))
def M.rX b:=M.OL b some
def C.rX:=fTa S.rX (λx=>M.OL x.1.1) [fe C.dF]
abbrev M.QS(b:Int)(k:Bool->Option R):=(M.dF b 48 57).bind λa=>k a
def M.vU b:=M.QS b some
def C.vU:=fTa S.vU (λx=>M.QS x.1.1) [fe C.dF]
abbrev M.Jz(b:Int)(k:Bool->Option R):=(M.rX b).bind λa=>cond a (k true) ((M.vU b).bind λc=>k c)
def M.lH b:=M.Jz b some
def C.lH:=fTa S.lH (λx=>M.Jz x.1.1) [fe C.rX,fe C.vU]
def M.yw(s':aA)(s:Int)(kn:Int->Option R)(ke:(Unit)⊕(Int)->Option R):Option R:=match s with
 |i=>bif decide (i<(↑s'.length:Int)) then((idx s' i).bind λb=>(M.lH (i64.wrap (↑b.toNat:Int))).bind λa=>bif !a then(ke (.inl ())) else kn (i64.wrap (i+1))) else ke (.inr i)
def M.EH s' s:=M.yw s' s (λs=>some (Sum.inl s)) λt=>some (Sum.inr t)
def M.JA s' s:=dU (M.EH s') s
def F.JA:LE X0 212:=le 2 (Gj [bH 0 pS,bH 3 pI] []) (λx=>x.1.2.1) (λx s=>((x.1.1,s,()),())) (λx=> .sum (.leaf (Unit) (λt=>(Ex.ret,⟨[(2,uX false)],[]⟩))) (.leaf (Int) (λt=>(Ex.exit 0,⟨[(0,yG x.1.1),(3,iQ t),(7,uX false)],[]⟩)))) (λx=>M.yw x.1.1) [fe C.lH] [] (by rintro _ _ _ _ _<;>simp only[M.yw,nb]<;>rfl)
abbrev M.L8(s':aA)(k:Bool->Option R):=(M.JA s' 0).bind λe=>rO e (λf=>k false) λb=>letE b λg=>(M.dF ((↑s'.length:Int)) 1 12).bind λc=>cond c ((idx s' 0).bind λa=>(M.rX (i64.wrap (↑a.toNat:Int))).bind λd=>k d) (k false)
def M.wQ s':=M.L8 s' some
def C.wQ:=fTa S.wQ (λx=>M.L8 x.1.1) [fe C.dF,fe C.rX] [F.JA]
abbrev M.Wq(k:au->Option R):=k ([[D.str [66,69,71,73,78]],[D.str [69,78,68]],[D.str [102,117,110,99,116,105,111,110]],[D.str [105,102]],[D.str [101,108,115,101]],[D.str [119,104,105,108,101]],[D.str [102,111,114]],[D.str [100,111]],[D.str [98,114,101,97,107]],[D.str [99,111,110,116,105,110,117,101]],[D.str [110,101,120,116]],[D.str [101,120,105,116]],[D.str [114,101,116,117,114,110]],[D.str [100,101,108,101,116,101]],[D.str [105,110]],[D.str [112,114,105,110,116]],[D.str [112,114,105,110,116,102]]])
def M.yL:Option (au):=M.Wq some
def C.yL:=fTa S.yL (λx=>M.Wq)
def M.Fz(l:au)(s':aA)(s:Int)(kn:Int->Option R)(ke:(Int)⊕(Int)->Option R):Option R:=match s with
 |i=>bif decide (i<(↑l.length:Int)) then((idx l i).bind λa=>(cStr a 0).bind λb=>bif b==s' then(ke (.inl i)) else kn (i64.wrap (i+1))) else ke (.inr i)
def M.L9 l s' s:=M.Fz l s' s (λs=>some (Sum.inl s)) λt=>some (Sum.inr t)
def M.QT l s' s:=dU (M.L9 l s') s
def F.QT:LE X0 217:=le 2 (Gj [bH 0 (pL false 1),bH 1 pS,bH 5 pI] []) (λx=>x.1.2.2.1) (λx s=>((x.1.1,x.1.2.1,s,()),())) (λx=> .sum (.leaf (Int) (λt=>(Ex.ret,⟨[(4,iQ t)],[]⟩))) (.leaf (Int) (λt=>(Ex.exit 0,⟨[(0,F9 1 x.1.1),(1,yG x.1.2.1),(5,iQ t),(9,uX false)],[]⟩)))) (λx=>M.Fz x.1.1 x.1.2.1) [] [] (by rintro _ _ _ _ _<;>simp only[M.Fz,nb]<;>rfl)
abbrev M.TV(l:au)(s':aA)(k:Int->Option R):=(M.QT l s' 0).bind λb=>rO b (λc=>k c) λa=>letE a λd=>k (-1)
def M.zi l s':=M.TV l s' some
def C.zi:=fTa S.zi (λx=>M.TV x.1.1 x.1.2.1) [] [F.QT]
abbrev M.Mc(s':aA)(k:Int->Option R):=M.yL.bind λb=>(M.zi b s').bind λa=>cond (decide (a<0)) (k 0) (k (i64.wrap (10+a)))
def M.wR s':=M.Mc s' some
def C.wR:=fTa S.wR (λx=>M.Mc x.1.1) [fe C.yL,fe C.zi]
abbrev M.QU(k:au->Option R):=k ([[D.str [97,116,97,110,50]],[D.str [99,108,111,115,101]],[D.str [99,111,115]],[D.str [101,120,112]],[D.str [103,115,117,98]],[D.str [105,110,100,101,120]],[D.str [105,110,116]],[D.str [108,101,110,103,116,104]],[D.str [108,111,103]],[D.str [109,97,116,99,104]],[D.str [114,97,110,100]],[D.str [115,105,110]],[D.str [115,112,108,105,116]],[D.str [115,112,114,105,110,116,102]],[D.str [115,113,114,116]],[D.str [115,114,97,110,100]],[D.str [115,117,98]],[D.str [115,117,98,115,116,114]],[D.str [115,121,115,116,101,109]],[D.str [116,111,108,111,119,101,114]],[D.str [116,111,117,112,112,101,114]]])
def M.xR:Option (au):=M.QU some
def C.xR:=fTa S.xR (λx=>M.QU)
abbrev M.Md(s':aA)(k:Bool->Option R):=M.xR.bind λb=>(M.zi b s').bind λa=>k (decide (a>=0))
def M.mX s':=M.Md s' some
def C.mX:=fTa S.mX (λx=>M.Md x.1.1) [fe C.xR,fe C.zi]
abbrev M.TW(s':aA)(k:Bool->Option R):=(M.wQ s').bind λa=>cond a ((M.wR s').bind λc=>cond (c==0) ((M.mX s').bind λb=>k !b) (k false)) (k false)
def M.kF s':=M.TW s' some
def C.kF:=fTa S.kF (λx=>M.TW x.1.1) [fe C.wQ,fe C.wR,fe C.mX]
def M.C9(s':aA)(s:Int)(kn:Int->Option R)(ke:(Unit)⊕(Int)->Option R):Option R:=match s with
 |i=>bif decide (i<(↑s'.length:Int)) then((idx s' i).bind λa=>bif(↑a.toNat:Int)==10 then(ke (.inl ())) else kn (i64.wrap (i+1))) else ke (.inr i)
def M.Dc s' s:=M.C9 s' s (λs=>some (Sum.inl s)) λt=>some (Sum.inr t)
def M.OM s' s:=dU (M.Dc s') s
def F.OM:LE X0 144:=le 2 (Gj [bH 0 pS,bH 3 pI] []) (λx=>x.1.2.1) (λx s=>((x.1.1,s,()),())) (λx=> .sum (.leaf (Unit) (λt=>(Ex.ret,⟨[(2,uX false)],[]⟩))) (.leaf (Int) (λt=>(Ex.exit 0,⟨[(0,yG x.1.1),(3,iQ t),(7,uX false)],[]⟩)))) (λx=>M.C9 x.1.1) [] [] (by rintro _ _ _ _ _<;>simp only[M.C9,nb]<;>rfl)
abbrev M.QV(s':aA)(k:Bool->Option R):=(M.OM s' 0).bind λa=>rO a (λd=>k false) λb=>letE b λc=>k true
def M.vV s':=M.QV s' some
def C.vV:=fTa S.vV (λx=>M.QV x.1.1) [] [F.OM]
abbrev M.TY(s':aA)(at':Int)(k:Int->Option R):=cond (decide (at'<0)) (k (-1)) (cond (decide (at'>=(↑s'.length:Int))) (k (-1)) ((idx s' at').bind λa=>k (i64.wrap (↑a.toNat:Int))))
def M.jT s' at':=M.TY s' at' some
def C.jT:=fTa S.jT (λx=>M.TY x.1.1 x.1.2.1)
def M.Hu(s':aA)(s:Int)(kn:Int->Option R)(ke:Int->Option R):Option R:=match s with
 |at'=>(M.jT s' at').bind λb=>(M.vU b).bind λa=>bif a then(kn (i64.wrap (at'+1))) else ke at'
def M.Ws s' s:=M.Hu s' s (λs=>some (Sum.inl s)) λt=>some (Sum.inr t)
def M.Me s' s:=dU (M.Ws s') s
def F.Me:LE X0 239:=le 1 (Gj [bH 0 pS,bH 1 pI] []) (λx=>x.1.2.1) (λx s=>((x.1.1,s,()),())) (λx=> .leaf (Int) (λt=>(Ex.exit 0,⟨[(0,yG x.1.1),(1,iQ t),(8,uX false)],[]⟩))) (λx=>M.Hu x.1.1) [fe C.jT,fe C.vU] [] (by rintro _ _ _ _ _<;>simp only[M.Hu,nb]<;>rfl)
abbrev M.OO(s':aA)(at':Int)(k:Int->Option R):=(M.Me s' at').bind λa=>k a
def M.eY s' at':=M.OO s' at' some
def C.eY:=fTa S.eY (λx=>M.OO x.1.1 x.1.2.1) [] [F.Me]
abbrev M.xg(s':aA)(Es:Int)(k:Int->Option R):=(M.jT s' (i64.wrap (Es+1))).bind λf=>cond (f==43) ((M.eY s' (i64.wrap (i64.wrap (Es+1)+1))).bind λd=>cond (decide (d>i64.wrap (i64.wrap (Es+1)+1))) ((M.eY s' (i64.wrap (i64.wrap (Es+1)+1))).bind λg=>k g) (k Es)) ((M.jT s' (i64.wrap (Es+1))).bind λe=>cond (e==45) ((M.eY s' (i64.wrap (i64.wrap (Es+1)+1))).bind λh=>cond (decide (h>i64.wrap (i64.wrap (Es+1)+1))) ((M.eY s' (i64.wrap (i64.wrap (Es+1)+1))).bind λa=>k a) (k Es)) ((M.eY s' (i64.wrap (Es+1))).bind λb=>cond (decide (b>i64.wrap (Es+1))) ((M.eY s' (i64.wrap (Es+1))).bind λc=>k c) (k Es)))
def M.Ua(s':aA)(at':Int)(k:Int->Option R):=cond (decide (at'<0)) (k (-1)) ((M.eY s' at').bind λa=>(M.jT s' a).bind λe=>cond (e==46) ((M.eY s' (i64.wrap (a+1))).bind λb=>cond (a==at') (cond (b==i64.wrap (a+1)) (k (-1)) (cond (b==at') (k (-1)) ((M.jT s' b).bind λf=>cond (f==101) (M.xg s' b k) ((M.jT s' b).bind λg=>cond (g==69) (M.xg s' b k) (k b))))) (cond (b==at') (k (-1)) ((M.jT s' b).bind λc=>cond (c==101) (M.xg s' b k) ((M.jT s' b).bind λi=>cond (i==69) (M.xg s' b k) (k b))))) (cond (a==at') (k (-1)) ((M.jT s' a).bind λh=>cond (h==101) (M.xg s' a k) ((M.jT s' a).bind λd=>cond (d==69) (M.xg s' a k) (k a)))))
def M.Gy s' at':=M.Ua s' at' some
def C.Gy:S.Gy.ok X0 λx=>M.Gy x.1.1 x.1.2.1:=fnS (λx=>M.Ua x.1.1 x.1.2.1) [fe C.eY,fe C.jT] [] (by intros;unfold M.Ua M.xg;exact zbn)
def M.vC(s':aA)(sign s:Int)(kn:Int->Option R)(ke:(Int)⊕(Int)->Option R):Option R:=match s with
 |i=>bif decide (i<(↑s'.length:Int)) then((idx s' i).bind λa=>bif i64.wrap (↑a.toNat:Int)==sign then(ke (.inl (i64.wrap (i+1)))) else bif i64.wrap (↑a.toNat:Int)==10 then(ke (.inl (-1))) else bif i64.wrap (↑a.toNat:Int)==92 then((M.jT s' (i64.wrap (i+1))).bind λb=>bif b==10 then(ke (.inl (-1))) else kn (i64.wrap (i64.wrap (i+1)+1))) else kn (i64.wrap (i+1))) else ke (.inr i)
def M.Ah s' sign s:=M.vC s' sign s (λs=>some (Sum.inl s)) λt=>some (Sum.inr t)
def M.vF s' sign s:=dU (M.Ah s' sign) s
def F.vF:LE X0 241:=le 4 (Gj [bH 0 pS,bH 2 pI,bH 7 pI] []) (λx=>x.1.2.2.1) (λx s=>((x.1.1,x.1.2.1,s,()),())) (λx=> .sum (.leaf (Int) (λt=>(Ex.ret,⟨[(6,iQ t)],[]⟩))) (.leaf (Int) (λt=>(Ex.exit 0,⟨[(0,yG x.1.1),(2,iQ x.1.2.1),(7,iQ t),(18,uX false)],[]⟩)))) (λx=>M.vC x.1.1 x.1.2.1) [fe C.jT] [] (by rintro _ _ _ _ _<;>simp only[M.vC,nb]<;>rfl)
abbrev M.OQ(s':aA)(at' sign:Int)(k:Int->Option R):=(M.jT s' at').bind λa=>cond (a !=sign) (k (-1)) ((M.vF s' sign (i64.wrap (at'+1))).bind λb=>rO b (λd=>k d) λc=>letE c λe=>k (-1))
def M.rY s' at' sign:=M.OQ s' at' sign some
def C.rY:=fTa S.rY (λx=>M.OQ x.1.1 x.1.2.1 x.1.2.2.1) [fe C.jT] [F.vF]
abbrev M.Ub(s':aA)(at':Int)(k:Int->Option R):=(M.rY s' at' 34).bind λa=>k a
def M.Gz s' at':=M.Ub s' at' some
def C.Gz:=fTa S.Gz (λx=>M.Ub x.1.1 x.1.2.1) [fe C.rY]
abbrev M.Uc(s':aA)(at':Int)(k:Int->Option R):=(M.rY s' at' 47).bind λa=>cond (a==i64.wrap (at'+2)) (k (-1)) (k a)
def M.GH s' at':=M.Uc s' at' some
def C.GH:=fTa S.GH (λx=>M.Uc x.1.1 x.1.2.1) [fe C.rY]
abbrev M.Wu(k:au->Option R):=k ([[D.str [123]],[D.str [125]],[D.str [40]],[D.str [41]],[D.str [91]],[D.str [93]],[D.str [44]],[D.str [59]],[D.str [43,61]],[D.str [45,61]],[D.str [42,61]],[D.str [47,61]],[D.str [37,61]],[D.str [94,61]],[D.str [124,124]],[D.str [38,38]],[D.str [33,126]],[D.str [61,61]],[D.str [60,61]],[D.str [62,61]],[D.str [33,61]],[D.str [43,43]],[D.str [45,45]],[D.str [62,62]],[D.str [61]],[D.str [43]],[D.str [45]],[D.str [42]],[D.str [47]],[D.str [37]],[D.str [94]],[D.str [33]],[D.str [62]],[D.str [60]],[D.str [124]],[D.str [63]],[D.str [58]],[D.str [126]],[D.str [36]]])
def M.yM:Option (au):=M.Wu some
def C.yM:=fTa S.yM (λx=>M.Wu)
abbrev M.QW(kind:Int)(k:aA->Option R):=cond (kind==1) (k [10]) ((M.dF kind 10 26).bind λd=>cond d (M.yL.bind λa=>(idx a (i64.wrap (kind - 10))).bind λj=>(a[(i64.wrap (kind - 10)).toNat]?).bind λg=>(cStr g 0).bind λh=>k h) ((M.dF kind 30 68).bind λe=>cond e (M.yM.bind λb=>(idx b (i64.wrap (kind - 30))).bind λi=>(b[(i64.wrap (kind - 30)).toNat]?).bind λc=>(cStr c 0).bind λf=>k f) (k [])))
def M.kW kind:=M.QW kind some
def C.kW:=fTa S.kW (λx=>M.QW x.1.1) [fe C.dF,fe C.yL,fe C.yM]
abbrev M.QX(t':Int)(gW:aA)(iG:Int)(k:Bool->Option R):=cond (t'==2) (cond (decide ((↑gW.length:Int)>0)) ((idx gW 0).bind λb=>cond ((↑b.toNat:Int)==35) ((M.vV gW).bind λf=>k f) (k false)) (k false)) (cond (t'==3) (cond (decide ((↑gW.length:Int)>0)) ((M.Gy gW 0).bind λh=>k (h==(↑gW.length:Int))) (k false)) (cond (t'==4) ((M.Gz gW 0).bind λg=>k (g==(↑gW.length:Int))) (cond (t'==5) ((M.GH gW 0).bind λe=>k (e==(↑gW.length:Int))) (cond (t'==6) ((M.kF gW).bind λc=>k c) (cond (t'==7) ((M.kF gW).bind λi=>k i) (cond (t'==8) ((M.mX gW).bind λa=>k a) (cond (!gW==[]) ((M.kW t').bind λd=>k (d==gW)) (k false))))))))
def M.nM t' gW iG:=M.QX t' gW iG some
def C.nM:=fTa S.nM (λx=>M.QX x.1.1.1 x.1.1.2.1 x.1.1.2.2.1) [fe C.vV,fe C.Gy,fe C.Gz,fe C.GH,fe C.kF,fe C.mX,fe C.kW]
abbrev M.dh(n' gq:Int)(iO iM:aA)(jv:au)(k:Bool->Option R):=cond (n'==1) ((M.kF iO).bind λj=>cond j (k (iM==[])) (k false)) (cond (n'==5) ((M.kF iO).bind λl=>cond l (k (iM==[])) (k false)) (cond (n'==7) ((M.kF iO).bind λe=>cond e (k (iM==[])) (k false)) (cond (n'==13) ((M.kF iO).bind λn=>cond n (k (iM==[])) (k false)) (cond (n'==27) ((M.kF iO).bind λc=>cond c (k (iM==[])) (k false)) (cond (n'==44) ((M.kF iO).bind λi=>cond i (k (iM==[])) (k false)) (cond (n'==2) ((M.nM 3 iO 0).bind λm=>cond m (k (iM==[])) (k false)) (cond (n'==3) ((M.nM 4 iO 0).bind λa=>cond a (k (iM==[])) (k false)) (cond (n'==4) ((M.nM 5 iO 0).bind λh=>cond h (k (iM==[])) (k false)) (cond (n'==34) ((M.nM 2 iO 0).bind λd=>cond d (k (iM==[])) (k false)) (cond (n'==8) ((M.mX iO).bind λb=>cond b (k (iM==[])) (k false)) (cond (n'==32) ((M.kF iO).bind λf=>cond f ((M.kF iM).bind λg=>k g) (k false)) (cond (n'==21) (cond (iO==[]) (cond (iM==[]) (k true) (cond (iM==[62]) (k true) (cond (iM==[62,62]) (k true) (k (iM==[124]))))) (k false)) (cond (iO==[]) (k (iM==[])) (k false))))))))))))))
def M.cu n' gq iO iM jv:=M.dh n' gq iO iM jv some
def C.cu:=fTa S.cu (λx=>M.dh x.1.1.1 x.1.1.2.1 x.1.1.2.2.1 x.1.1.va.1 x.1.1.va.2.1) [fe C.kF,fe C.nM,fe C.mX]
abbrev M.aY(n' gq:Int)(iO iM:aA)(jv:au)(k:Bool->Option R):=(M.dD n' gq iO iM jv).bind λa=>(M.dF n' 1 16).bind λf=>cond f ((M.eX n' gq iO iM jv).bind λd=>cond d ((M.cu n' gq iO iM jv).bind λc=>cond c ((M.dF ((↑jv.length:Int)) a.1 a.2).bind λn=>k n) (k false)) (k false)) ((M.dF n' 20 34).bind λj=>cond j ((M.eX n' gq iO iM jv).bind λg=>cond g ((M.cu n' gq iO iM jv).bind λl=>cond l ((M.dF ((↑jv.length:Int)) a.1 a.2).bind λe=>k e) (k false)) (k false)) ((M.dF n' 40 45).bind λb=>cond b ((M.eX n' gq iO iM jv).bind λm=>cond m ((M.cu n' gq iO iM jv).bind λh=>cond h ((M.dF ((↑jv.length:Int)) a.1 a.2).bind λi=>k i) (k false)) (k false)) (k false)))
def M.aH n' gq iO iM jv:=M.aY n' gq iO iM jv some
def C.aH:=fTa S.aH (λx=>M.aY x.1.1.1 x.1.1.2.1 x.1.1.2.2.1 x.1.1.va.1 x.1.1.va.2.1) [fe C.dD,fe C.dF,fe C.eX,fe C.cu]
abbrev M.OT(kind:Int)(k:Bool->Option R):=cond (kind==1) (k true) (cond (kind==5) (k true) (k (kind==6)))
def M.rZ kind:=M.OT kind some
def C.rZ:=fTa S.rZ (λx=>M.OT x.1.1)
abbrev M.Ud(kind:Int)(k:Bool->Option R):=(M.dF kind 1 15).bind λa=>k a
def M.mg kind:=M.Ud kind some
def C.mg:=fTa S.mg (λx=>M.Ud x.1.1) [fe C.dF]
abbrev M.Ue(kind:Int)(k:Bool->Option R):=(M.dF kind 20 34).bind λa=>k a
def M.GI kind:=M.Ue kind some
def C.GI:=fTa S.GI (λx=>M.Ue x.1.1) [fe C.dF]
abbrev M.aJ(gq k':Int)(jv:au)(kind:Int)(k:Bool->Option R):=cond (gq==3) (cond (k'==i64.wrap ((↑jv.length:Int) - 1)) (cond (kind==33) (k true) (cond (!k'==i64.wrap ((↑jv.length:Int) - 1)) ((M.mg kind).bind λb=>k b) (k false))) (cond (!k'==i64.wrap ((↑jv.length:Int) - 1)) ((M.mg kind).bind λa=>k a) (k false))) (k false)
def M.aP(n' gq:Int)(iO iM:aA)(jv:au)(k' kind:Int)(k:Bool->Option R):=cond (n'==9) ((M.rZ kind).bind λm=>k m) (cond (n'==10) ((M.rZ kind).bind λi=>k i) (cond (n'==15) ((M.mg kind).bind λj=>cond j (cond (decide (k'>0)) (k true) ((M.rZ kind).bind λd=>k d)) (k false)) (cond (n'==28) (cond (k'==0) ((M.mg kind).bind λo=>cond o (k true) (cond (decide (k'>0)) (k (kind==33)) (k false))) (cond (decide (k'>0)) (k (kind==33)) (k false))) (cond (n'==29) (cond (k'==0) ((M.mg kind).bind λh=>cond h (k true) (cond (k'==1) (k (kind==33)) (k false))) (cond (k'==1) (k (kind==33)) (k false))) (cond (n'==30) (cond (k'==0) (cond (kind==33) (k true) (cond (k'==1) ((M.mg kind).bind λc=>k c) (k false))) (cond (k'==1) ((M.mg kind).bind λe=>k e) (k false))) (cond (n'==31) (cond (decide (k'<3)) ((M.mg kind).bind λn=>cond n (k true) (cond (kind==16) (k true) (cond (k'==3) (k (kind==33)) (k false)))) (cond (k'==3) (k (kind==33)) (k false))) (cond (n'==32) (k (kind==33)) (cond (n'==40) (k (kind==33)) (cond (n'==41) (k (kind==33)) (cond (n'==33) ((M.GI kind).bind λb=>k b) (cond (n'==42) (cond (gq==1) ((M.mg kind).bind λg=>cond g (k true) (cond (gq==2) (cond (kind==33) (k true) (M.aJ gq k' jv kind k)) (M.aJ gq k' jv kind k))) (cond (gq==2) (cond (kind==33) (k true) (M.aJ gq k' jv kind k)) (M.aJ gq k' jv kind k))) (cond (n'==43) (cond (decide (k'<2)) ((M.mg kind).bind λl=>cond l (k true) (cond (k'==2) (k (kind==33)) (k false))) (cond (k'==2) (k (kind==33)) (k false))) (cond (n'==44) (cond (k'==i64.wrap ((↑jv.length:Int) - 1)) (cond (kind==33) (k true) (cond (!k'==i64.wrap ((↑jv.length:Int) - 1)) (k (kind==1)) (k false))) (cond (!k'==i64.wrap ((↑jv.length:Int) - 1)) (k (kind==1)) (k false))) (cond (n'==45) ((M.dF kind 40 44).bind λa=>cond a (k true) (k (kind==34))) ((M.mg kind).bind λf=>k f)))))))))))))))
def M.aQ n' gq iO iM jv k' kind:=M.aP n' gq iO iM jv k' kind some
def C.aQ:S.aQ.ok X0 λx=>bJ M.aQ x.1.1 x.1.2.1 x.1.2.2.1:=fnS (λx=>M.aP x.1.1.1 x.1.1.2.1 x.1.1.2.2.1 x.1.1.va.1 x.1.1.va.2.1 x.1.2.1 x.1.2.2.1) [fe C.rZ,fe C.mg,fe C.GI,fe C.dF] [] (by intros;unfold M.aP M.aJ;exact zbn)
def M.FB(l:au)(i s:Int)(kn:Int->Option R)(ke:(Unit)⊕(Int)->Option R):Option R:=match s with
 |k'=>(idx l i).bind λd=>(NP 1 d 4).bind λa=>bif decide (k'<(↑a.length:Int)) then((idx l i).bind λc=>nC 1 c λaSi aSj aSk aSl az5=>((idx l i).bind λe=>(NP 1 e 4).bind λh=>(idx h k').bind λf=>(bM .i64 f 0).bind λb=>(idx l b).bind λk=>(bM .i64 k 0).bind λg=>(M.aQ aSi aSj aSk aSl az5 k' g).bind λj=>bif !j then(ke (.inl ())) else kn (i64.wrap (k'+1)))) else ke (.inr k')
def M.SN l i s:=M.FB l i s (λs=>some (Sum.inl s)) λt=>some (Sum.inr t)
def M.KC l i s:=dU (M.SN l i) s
def F.KC:LE X0 68:=le 9 (Gj [bH 0 (pL false 5),bH 3 pI,bH 4 pI] []) (λx=>x.1.2.2.1) (λx s=>((x.1.1,x.1.2.1,s,()),())) (λx=> .sum (.leaf (Unit) (λt=>(Ex.ret,⟨[(2,uX false)],[]⟩))) (.leaf (Int) (λt=>(Ex.exit 2,⟨[(0,F9 5 x.1.1),(3,iQ x.1.2.1),(4,iQ t),(32,uX false)],[]⟩)))) (λx=>M.FB x.1.1 x.1.2.1) [fe C.aQ] [] (by rintro _ _ _ _ _<;>simp only[nC,M.FB,nb]<;>rfl)
def M.FC(l:au)(s:Int)(kn:Int->Option R)(ke:(Unit)⊕(Int)->Option R):Option R:=match s with
 |i=>bif decide (i<(↑l.length:Int)) then((idx l i).bind λa=>nC 1 a λaSp aSq aSr aSs az7=>((M.aH aSp aSq aSr aSs az7).bind λd=>bif !d then(ke (.inl ())) else (M.KC l i 0).bind λc=>rO c (λe=>ke (.inl ())) λb=>letE b λf=>kn (i64.wrap (i+1)))) else ke (.inr i)
def M.SQ l s:=M.FC l s (λs=>some (Sum.inl s)) λt=>some (Sum.inr t)
def M.KD l s:=dU (M.SQ l) s
def F.KD:LE X0 68:=le 4 (Gj [bH 0 (pL false 5),bH 3 pI] []) (λx=>x.1.2.1) (λx s=>((x.1.1,s,()),())) (λx=> .sum (.leaf (Unit) (λt=>(Ex.ret,⟨[(2,uX false)],[]⟩))) (.leaf (Int) (λt=>(Ex.exit 0,⟨[(0,F9 5 x.1.1),(3,iQ t),(16,uX false)],[]⟩)))) (λx=>M.FC x.1.1) [fe C.aH] [F.KC] (by rintro _ _ _ _ _<;>simp only[nC,M.FC,nb]<;>rfl)
abbrev M.Uf(l:au)(k:Bool->Option R):=(M.vT l).bind λc=>cond (!c) (k false) ((M.BP l).bind λd=>cond (decide (d>40)) (k false) ((M.KD l 0).bind λa=>rO a (λe=>k false) λb=>letE b λf=>k true))
def M.GK l:=M.Uf l some
def C.GK:=fTa S.GK (λx=>M.Uf x.1.1) [fe C.vT,fe C.BP] [F.KD]
abbrev M.MB(l:au)(k:Bool->Option R):=(M.GK l).bind λa=>cond a ((idx l (i64.wrap ((↑l.length:Int) - 1))).bind λb=>(bM .i64 b 0).bind λc=>k (c==45)) (k false)
def M.zS l:=M.MB l some
def C.zS:=fTa S.zS (λx=>M.MB x.1.1) [fe C.GK]
abbrev M.QY(s':aA)(k:au->Option R):=k ([[D.int .i64 1,D.int .i64 0,D.str s',D.sl true 1 []]])
def M.aI s':=M.QY s' some
def C.aI:=fTa S.aI (λx=>M.QY x.1.1)
def M.Df(jK:zaa)(kids x':au)(kR:Bool)(s:Int×au)(kn:Int×au->Option R)(ke:Int×au->Option R):Option R:=match s with
 |(k',mY)=>bif decide (k'<(↑kids.length:Int)) then((idx kids k').bind λb=>(bM .i64 b 0).bind λc=>(jK x' kR c).bind λa=>jH mY [[D.sl true 4 a]] 24 λd=>kn (i64.wrap (k'+1),d)) else ke (k',mY)
def M.JB jK kids x' kR s:=M.Df jK kids x' kR s (λs=>some (Sum.inl s)) λt=>some (Sum.inr t)
def M.OU jK kids x' kR s:=dU (M.JB jK kids x' kR) s
def F.OU{jK:zaa}(Wv:S.oz.ok X0 λx=>jK x.1.1.1 x.1.1.2.1 x.1.2.1):LE X0 109:=le 3 (Gj [bH 1 (pL false 1),bH 2 (pP 300000 0),bH 5 (pO 300001 0),bH 6 pI] [bH 300000 zbh,bH 300001 zbf]) (λx=>(x.1.va.1,x.2.2.1)) (λx s=>((x.1.1,(),(),s.1,()),((x.2.1.1,x.2.1.2.1,()),s.2,()))) (λx=> .leaf (Int×au) (λt=>(Ex.exit 0,⟨[(1,F9 1 x.1.1),(2,V.ptr 300000 0),(5,V.own 300001 0),(6,iQ t.1),(11,uX false)],[(300000,Cell.box 64 [F9 5 x.2.1.1,uX x.2.1.2.1]),(300001,Cell.arr false false 0 1 t.2)]⟩))) (λx=>M.Df jK x.1.1 x.2.1.1 x.2.1.2.1) [fe Wv] [] (by rintro _ _ ⟨_,_⟩ _ _<;>unfold M.Df<;>exact zbn)
def M.FD(jK:zaa)(w:au)(w1:Bool)(kids:au)(k:au->Option R):=(M.OU jK kids w w1 (0,[])).bind λa=>k a.2
def C.agF{jK:zaa}(Wv:S.oz.ok X0 λx=>jK x.1.1.1 x.1.1.2.1 x.1.2.1):S.GX.ok X0 λx=>M.FD jK x.1.1.1 x.1.1.2.1 x.1.2.1 some:=fnS (λx=>M.FD jK x.1.1.1 x.1.1.2.1 x.1.2.1) [] [F.OU Wv] (by intros;unfold M.FD;exact zbn)
abbrev M.QZ(k:au->Option R):=k ([[D.int .i64 3,D.int .i64 0,D.str [],D.sl true 1 []]])
def M.qN:Option (au):=M.QZ some
def C.qN:=fTa S.qN (λx=>M.QZ)
def M.Ai(l:au)(by' i:Int)(x':au)(kR mY:Int)(rP:aA)(s:Int×au)(kn:Int×au->Option R)(ke:Int×au->Option R):Option R:=match s with
 |(k',sD)=>(idx l i).bind λc=>(NP 1 c 3).bind λe=>bif decide (k'<(↑e.length:Int)) then((idx l i).bind λb=>(NP 1 b 3).bind λf=>(idx f k').bind λd=>(bM .i64 d 0).bind λa=>jH sD [[D.int .i64 (i64.wrap (a+by'))]] 8 λg=>kn (i64.wrap (k'+1),g)) else ke (k',sD)
def M.Hw l by' i x' kR mY rP s:=M.Ai l by' i x' kR mY rP s (λs=>some (Sum.inl s)) λt=>some (Sum.inr t)
def M.MC l by' i x' kR mY rP s:=dU (M.Hw l by' i x' kR mY rP) s
def F.MC:LE X0 74:=le 8 (Gj [bH 0 (pL false 4),bH 1 pI,bH 5 (pO 300000 0),bH 6 pI,bH 7 (pP 300001 0),bH 8 pI] [bH 300000 zbi,bH 300001 (cB 93 [pI,pI,pS,pO 300002 0]),bH 300002 zaZ]) (λx=>(x.1.va.2.2.1,x.va.1)) (λx s=>((x.1.1,x.1.2.1,(),x.1.va.1,(),s.1,()),(x.2.1,(x.2.2.1.1,x.2.2.1.2.1,x.2.2.1.2.2.1,(),()),s.2,()))) (λx=> .leaf (Int×au) (λt=>(Ex.exit 2,⟨[(0,F9 4 x.1.1),(1,iQ x.1.2.1),(5,V.own 300000 0),(6,iQ x.1.va.1),(7,V.ptr 300001 0),(8,iQ t.1),(29,uX false)],[(300000,Cell.arr false false 0 4 x.2.1),(300001,Cell.box 93 [iQ x.2.2.1.1,iQ x.2.2.1.2.1,yG x.2.2.1.2.2.1,V.own 300002 0]),(300002,Cell.arr false true 0 1 t.2)]⟩))) (λx=>M.Ai x.1.1 x.1.2.1 x.1.va.1 x.2.1 x.2.2.1.1 x.2.2.1.2.1 x.2.2.1.2.2.1) [] [] (by rintro _ _ ⟨_,_⟩ _ _<;>simp only[jH,M.Ai,nb]<;>rfl)
def M.Aj(l:au)(by':Int)(s:Int×au)(kn:Int×au->Option R)(ke:Int×au->Option R):Option R:=match s with
 |(i,x')=>bif decide (i<(↑l.length:Int)) then((idx l i).bind λa=>(bM .i64 a 0).bind λe=>(bM .i64 a 1).bind λb=>(cStr a 2).bind λd=>(NP 1 a 3).bind λg=>(M.MC l by' i x' e b d (0,[])).bind λc=>bif ay c.2 then(jH x' [[D.int .i64 e,D.int .i64 b,D.str d,D.sl true 1 c.2]] 56 λf=>kn (i64.wrap (i+1),f)) else none) else ke (i,x')
def M.Hy l by' s:=M.Aj l by' s (λs=>some (Sum.inl s)) λt=>some (Sum.inr t)
def M.MF l by' s:=dU (M.Hy l by') s
def F.MF:LE X0 74:=le 3 (Gj [bH 0 (pL false 4),bH 1 pI,bH 5 (pO 300000 0),bH 6 pI] [bH 300000 zbi]) (λx=>(x.1.va.1,x.2.1)) (λx s=>((x.1.1,x.1.2.1,(),s.1,()),(s.2,()))) (λx=> .leaf (Int×au) (λt=>(Ex.exit 0,⟨[(0,F9 4 x.1.1),(1,iQ x.1.2.1),(5,V.own 300000 0),(6,iQ t.1),(13,uX false)],[(300000,Cell.arr false false 0 4 t.2)]⟩))) (λx=>M.Aj x.1.1 x.1.2.1) [] [F.MC] (by rintro _ _ ⟨_,_⟩ _ _<;>simp only[jH,M.Aj,nb]<;>rfl)
abbrev M.OV(l:au)(by':Int)(k:au->Option R):=(M.MF l by' (0,[])).bind λa=>k a.2
def M.su l by':=M.OV l by' some
def C.su:=fTa S.su (λx=>M.OV x.1.1 x.1.2.1) [] [F.MF]
def M.xF(s:zaG⊕zaH)(kn:zaG⊕zaH->Option R)(ke:zaG⊕zaH->Option R):Option R:=match s with
 | .inl (parts,k',x',kR,mY,rP)=>bif decide (k'<(↑parts.length:Int)) then((idx parts k').bind λe=>(NP 4 e 0).bind λf=>(M.su f ((↑x'.length:Int))).bind λb=>jH x' b 56 λza=>kn (.inr (parts,i64.wrap (k'+1),za,kR,mY,rP,[[D.int .i64 (i64.wrap ((↑za.length:Int) - 1))]]))) else(ke (.inl (parts,k',x',kR,mY,rP)))
 | .inr (parts,k',x',kR,mY,rP,sD)=>bif decide (k'<(↑parts.length:Int)) then((idx parts k').bind λc=>(NP 4 c 0).bind λa=>(M.su a ((↑x'.length:Int))).bind λd=>jH x' d 56 λza=>jH sD [[D.int .i64 (i64.wrap ((↑za.length:Int) - 1))]] 8 λg=>kn (.inr (parts,i64.wrap (k'+1),za,kR,mY,rP,g))) else ke (.inr (parts,k',x',kR,mY,rP,sD))
def M.Dh s:=M.xF s (λs=>some (Sum.inl s)) λt=>some (Sum.inr t)
def M.OW s:=dU (M.Dh) s
def F.OW:LE X0 38:=le 4 (pOr (Gj [bH 2 (pL false 1),bH 7 (pO 300000 0),bH 8 (pP 300001 0),bH 9 pI] [bH 300000 zbi,bH 300001 (cB 93 [pI,pI,pS,aco 1])]) (Gj [bH 2 (pL false 1),bH 7 (pO 300000 0),bH 8 (pP 300001 0),bH 9 pI] [bH 300000 zbi,bH 300001 (cB 93 [pI,pI,pS,pO 300002 0]),bH 300002 zaZ])) (σ:=zaG⊕zaH) (λx=>(match x with| .inl x=> .inl ((x.1.1,x.1.va.1,x.2.1,x.2.2.1.1,x.2.2.1.2.1,x.2.2.1.2.2.1))| .inr x=> .inr ((x.1.1,x.1.va.1,x.2.1,x.2.2.1.1,x.2.2.1.2.1,x.2.2.1.2.2.1,x.va.1)))) (λx s=>(match s with| .inl s=> .inl (((s.1,(),(),s.2.1,()),(s.2.2.1,(s.va.1,s.va.2.1,s.va.2.2,(),()),())))| .inr s=> .inr (((s.1,(),(),s.2.1,()),(s.2.2.1,(s.va.1,s.va.2.1,s.va.2.2.1,(),()),s.va.va,()))))) (λx=> .sum (.leaf zaG (λt=>(Ex.exit 0,⟨[(2,F9 1 t.1),(7,V.own 300000 0),(8,V.ptr 300001 0),(9,iQ t.2.1),(17,uX false)],[(300000,Cell.arr false false 0 4 t.2.2.1),(300001,Cell.box 93 [iQ t.va.1,iQ t.va.2.1,yG t.va.2.2,V.nil 1])]⟩))) (.leaf zaH (λt=>(Ex.exit 0,⟨[(2,F9 1 t.1),(7,V.own 300000 0),(8,V.ptr 300001 0),(9,iQ t.2.1),(17,uX false)],[(300000,Cell.arr false false 0 4 t.2.2.1),(300001,Cell.box 93 [iQ t.va.1,iQ t.va.2.1,yG t.va.2.2.1,V.own 300002 0]),(300002,Cell.arr false true 0 1 t.va.va)]⟩)))) (λx=>M.xF) [fe C.su] [] (by rintro _ _ (⟨_,_,_,_,_,_⟩|⟨_,_,_,_,_,_,_⟩) _ _<;>simp only[jH,M.xF,nb]<;>rfl) (hE:=by intro _ _ s _;rcases s with s|s<;>kernel_rfl)
abbrev M.Q5(kind n':Int)(parts:au)(k:au->Option R):=(M.OW (.inl (parts,0,[],kind,n',[]))).bind λd=>rO d (λb=>jH b.2.2.1 [[D.int .i64 b.2.2.2.1,D.int .i64 b.2.2.2.2.1,D.str b.2.2.2.2.2,D.sl true 1 []]] 56 λza=>k za) λc=>letE c λa=>cond (ay a.2.2.2.2.2.2) (jH a.2.2.1 [[D.int .i64 a.2.2.2.1,D.int .i64 a.2.2.2.2.1,D.str a.2.2.2.2.2.1,D.sl true 1 a.2.2.2.2.2.2]] 56 λza=>k za) none
def M.aN kind n' parts:=M.Q5 kind n' parts some
def C.aN:=fTa S.aN (λx=>M.Q5 x.1.1 x.1.2.1 x.1.2.2.1) [] [F.OW]
def M.Ak(parts:au)(s:Int×au)(kn:Int×au->Option R)(ke:Int×au->Option R):Option R:=match s with
 |(k',x')=>bif decide (k'<(↑parts.length:Int)) then(M.qN.bind λc=>(idx parts k').bind λb=>(NP 4 b 0).bind λa=>jH x' [[D.sl true 4 c],[D.sl false 4 a]] 24 λd=>kn (i64.wrap (k'+1),d)) else ke (k',x')
def M.Hz parts s:=M.Ak parts s (λs=>some (Sum.inl s)) λt=>some (Sum.inr t)
def M.MG parts s:=dU (M.Hz parts) s
def F.MG:LE X0 108:=le 3 (Gj [bH 0 (pL false 1),bH 3 (pO 300000 0),bH 4 pI] [bH 300000 zbf]) (λx=>(x.1.2.2.1,x.2.1)) (λx s=>((x.1.1,(),s.1,()),(s.2,()))) (λx=> .leaf (Int×au) (λt=>(Ex.exit 0,⟨[(0,F9 1 x.1.1),(3,V.own 300000 0),(4,iQ t.1),(9,uX false)],[(300000,Cell.arr false false 0 1 t.2)]⟩))) (λx=>M.Ak x.1.1) [fe C.qN] [] (by rintro _ _ ⟨_,_⟩ _ _<;>simp only[jH,M.Ak,nb]<;>rfl)
abbrev M.OX(parts:au)(k:au->Option R):=(M.MG parts (0,[])).bind λb=>(M.aN 6 0 (aG b.2)).bind λa=>cond ([[D.sl true 4 a]].all bn) (k a) none
def M.zk parts:=M.OX parts some
def C.zk:=fTa S.zk (λx=>M.OX x.1.1) [fe C.aN] [F.MG]
def M.Bj(FH:zah)(w:au)(w1:Bool)(i:Int)(k:au->Option R):=(M.aI [123]).bind λd=>(idx w i).bind λf=>(NP 1 f 4).bind λh=>(FH w w1 h).bind λe=>(M.zk (aG e)).bind λb=>cond ([[D.sl true 4 b]].all bn) ((M.aN 4 4 (aG [[D.sl true 4 b]])).bind λa=>cond ([[D.sl true 4 a]].all bn) (M.qN.bind λj=>(M.aI [125]).bind λg=>(M.aN 6 0 (aG [[D.sl true 4 d],[D.sl true 4 a],[D.sl true 4 j],[D.sl true 4 g]])).bind λc=>cond ([[D.sl true 4 c]].all bn) (k c) none) none) none
def C.aeJ{FH:zah}(ajh:S.GX.ok X0 λx=>FH x.1.1.1 x.1.1.2.1 x.1.2.1):S.nD.ok X0 λx=>M.Bj FH x.1.1.1 x.1.1.2.1 x.1.2.1 some:=fnS (λx=>M.Bj FH x.1.1.1 x.1.1.2.1 x.1.2.1) [fe C.aI,fe ajh,fe C.zk,fe C.aN,fe C.qN] [] (by intros;unfold M.Bj;exact zbn)
abbrev M.acH(k:Int×Bool×Bool×Bool×Bool->Option R):=k (1,false,false,false,false)
def M.jW:Option zaL:=M.acH some
def C.jW:=fTa S.jW (λx=>M.acH)
abbrev M.Vx(p:Int)(p1 p2 p3 p4:Bool)(k:Bool->Option R):=(M.dF p 1 15).bind λa=>cond a (cond (!p1) (k true) (k (p==14))) (k false)
def M.D7 p p1 p2 p3 p4:=M.Vx p p1 p2 p3 p4 some
def C.D7:=fTa S.D7 (λx=>M.Vx x.1.1.1 x.1.1.2.1 x.1.1.2.2.1 x.1.1.va.1 x.1.1.va.2.1) [fe C.dF]
abbrev M.Q7(op':Int)(k:Int->Option R):=cond (op'==44) (k 3) (cond (op'==45) (k 4) (cond (op'==67) (k 6) (cond (op'==46) (k 6) (cond (op'==63) (k 7) (cond (op'==48) (k 7) (cond (op'==47) (k 7) (cond (op'==50) (k 7) (cond (op'==62) (k 7) (cond (op'==49) (k 7) (cond (op'==99) (k 8) (cond (op'==55) (k 9) (cond (op'==56) (k 9) (cond (op'==57) (k 10) (cond (op'==58) (k 10) (cond (op'==59) (k 10) (cond (op'==60) (k 12) (k 0)))))))))))))))))
def M.vW op':=M.Q7 op' some
def C.vW:=fTa S.vW (λx=>M.Q7 x.1.1)
abbrev M.Q8(n' gq:Int)(iO iM:aA)(jv:au)(k:Int->Option R):=cond (n'==15) (k 1) (cond (n'==14) (k 2) (cond (n'==13) (k 5) (cond (n'==12) ((M.vW gq).bind λa=>k a) (cond (n'==11) (k 11) (cond (n'==9) (k 13) (cond (n'==10) (k 13) (cond (n'==6) (k 14) (cond (n'==1) (k 15) (cond (n'==2) (k 15) (cond (n'==3) (k 15) (cond (n'==4) (k 15) (cond (n'==5) (k 15) (cond (n'==7) (k 15) (cond (n'==8) (k 15) (k 0)))))))))))))))
def M.mG n' gq iO iM jv:=M.Q8 n' gq iO iM jv some
def C.mG:=fTa S.mG (λx=>M.Q8 x.1.1.1 x.1.1.2.1 x.1.1.2.2.1 x.1.1.va.1 x.1.1.va.2.1) [fe C.vW]
abbrev M.Di(p4:Bool)(n':Int)(k:Bool->Option R)(p1:Bool)(gq:Int)(iO iM:aA)(jv:au)(p:Int):=cond p4 (cond (n'==11) (k false) (cond (n'==9) (k false) (cond (n'==4) (k false) (cond p1 (cond (n'==9) (k true) ((M.mG n' gq iO iM jv).bind λa=>k (decide (a>=p)))) ((M.mG n' gq iO iM jv).bind λd=>k (decide (d>=p))))))) (cond p1 (cond (n'==9) (k true) ((M.mG n' gq iO iM jv).bind λc=>k (decide (c>=p)))) ((M.mG n' gq iO iM jv).bind λb=>k (decide (b>=p))))
def M.Xn(n' gq:Int)(iO iM:aA)(jv:au)(p:Int)(p1 p2 p3 p4:Bool)(k:Bool->Option R):=(M.D7 p p1 p2 p3 p4).bind λb=>cond (!b) (k false) ((M.mG n' gq iO iM jv).bind λa=>cond (a==0) (k false) (cond p2 (cond (n'==13) (k false) (cond p3 (cond (n'==12) (cond (gq==62) (k false) (M.Di p4 n' k p1 gq iO iM jv p)) (M.Di p4 n' k p1 gq iO iM jv p)) (M.Di p4 n' k p1 gq iO iM jv p))) (cond p3 (cond (n'==12) (cond (gq==62) (k false) (M.Di p4 n' k p1 gq iO iM jv p)) (M.Di p4 n' k p1 gq iO iM jv p)) (M.Di p4 n' k p1 gq iO iM jv p))))
def M.IQ n' gq iO iM jv p p1 p2 p3 p4:=M.Xn n' gq iO iM jv p p1 p2 p3 p4 some
def C.IQ:S.IQ.ok X0 λx=>bJ (bJ M.IQ x.1.1) x.1.2.1:=fnS (λx=>M.Xn x.1.1.1 x.1.1.2.1 x.1.1.2.2.1 x.1.1.va.1 x.1.1.va.2.1 x.1.2.1.1 x.1.2.1.2.1 x.1.2.1.2.2.1 x.1.2.1.va.1 x.1.2.1.va.2.1) [fe C.D7,fe C.mG] [] (by intros;unfold M.Xn M.Di;exact zbn)
abbrev M.bY(n' gq:Int)(iO iM:aA)(jv:au)(k:Int×aA×Int->Option R):=cond (n'==1) (k (6,iO,0)) (cond (n'==2) (k (3,iO,0)) (cond (n'==3) (k (4,iO,0)) (cond (n'==4) (k (5,iO,0)) (k (0,[],0)))))
def M.dw n' gq iO iM jv:=M.bY n' gq iO iM jv some
def C.dw:=fTa S.dw (λx=>M.bY x.1.1.1 x.1.1.2.1 x.1.1.2.2.1 x.1.1.va.1 x.1.1.va.2.1)
abbrev M.Q9(k:au->Option R):=k ([[D.int .i64 2,D.int .i64 0,D.str [],D.sl true 1 []]])
def M.vX:Option (au):=M.Q9 some
def C.vX:=fTa S.vX (λx=>M.Q9)
def M.Dj(bI:zab)(kids x':au)(kR:Bool)(mY:Int)(rP sD P7 Si:Bool)(s:Int×au)(kn:Int×au->Option R)(ke:Int×au->Option R):Option R:=match s with
 |(k',U9)=>bif decide (k'<(↑kids.length:Int)) then(bif decide (k'>0) then((M.aI [44]).bind λg=>M.vX.bind λd=>jH U9 [[D.sl true 4 g],[D.sl true 4 d]] 24 λza=>(idx kids k').bind λa=>(bM .i64 a 0).bind λh=>(bI x' kR h mY rP sD P7 Si).bind λb=>jH za [[D.sl true 4 b]] 24 λi=>kn (i64.wrap (k'+1),i)) else (idx kids k').bind λc=>(bM .i64 c 0).bind λf=>(bI x' kR f mY rP sD P7 Si).bind λe=>jH U9 [[D.sl true 4 e]] 24 λza=>kn (i64.wrap (k'+1),za)) else ke (k',U9)
def M.JC bI kids x' kR mY rP sD P7 Si s:=M.Dj bI kids x' kR mY rP sD P7 Si s (λs=>some (Sum.inl s)) λt=>some (Sum.inr t)
def M.OY bI kids x' kR mY rP sD P7 Si s:=dU (M.JC bI kids x' kR mY rP sD P7 Si) s
def F.OY{bI:zab}(HY:S.iq.ok X0 λx=>bJ (bI x.1.1.1 x.1.1.2.1 x.1.2.1) x.1.2.2.1):LE X0 114:=le 3 (Gj [bH 1 (pL false 1),bH 3 (pP 300000 0),bH 5 (pP 300001 0),bH 7 (pO 300002 0),bH 8 pI] [bH 300000 zbh,bH 300001 (cB 124 zba),bH 300002 zbf]) (λx=>(x.1.va.2.1,x.va.1)) (λx s=>((x.1.1,(),(),(),s.1,()),((x.2.1.1,x.2.1.2.1,()),(x.2.2.1.1,x.2.2.1.2.1,x.2.2.1.2.2.1,x.2.2.1.va.1,x.2.2.1.va.2.1,()),s.2,()))) (λx=> .leaf (Int×au) (λt=>(Ex.exit 0,⟨[(1,F9 1 x.1.1),(3,V.ptr 300000 0),(5,V.ptr 300001 0),(7,V.own 300002 0),(8,iQ t.1),(13,uX false)],[(300000,Cell.box 64 [F9 5 x.2.1.1,uX x.2.1.2.1]),(300001,Cell.box 124 [iQ x.2.2.1.1,uX x.2.2.1.2.1,uX x.2.2.1.2.2.1,uX x.2.2.1.va.1,uX x.2.2.1.va.2.1]),(300002,Cell.arr false false 0 1 t.2)]⟩))) (λx=>M.Dj bI x.1.1 x.2.1.1 x.2.1.2.1 x.2.2.1.1 x.2.2.1.2.1 x.2.2.1.2.2.1 x.2.2.1.va.1 x.2.2.1.va.2.1) [fe C.aI,fe C.vX,fe HY] [] (by rintro _ _ ⟨_,_⟩ _ _<;>unfold M.Dj<;>exact zbn)
def M.FI(bI:zab)(w:au)(w1:Bool)(kids:au)(p:Int)(p1 p2 p3 p4:Bool)(k:au->Option R):=(M.OY bI kids w w1 p p1 p2 p3 p4 (0,[])).bind λd=>(M.aN 6 0 (aG d.2)).bind λc=>cond ([[D.sl true 4 c]].all bn) ((M.aN 4 4 (aG [[D.sl true 4 c]])).bind λa=>cond ([[D.sl true 4 a]].all bn) ((M.aN 5 0 (aG [[D.sl true 4 a]])).bind λb=>cond ([[D.sl true 4 b]].all bn) (k b) none) none) none
def C.agG{bI:zab}(HY:S.iq.ok X0 λx=>bJ (bI x.1.1.1 x.1.1.2.1 x.1.2.1) x.1.2.2.1):S.kX.ok X0 λx=>bJ (M.FI bI x.1.1.1 x.1.1.2.1 x.1.2.1) x.1.2.2.1 some:=fnS (λx=>M.FI bI x.1.1.1 x.1.1.2.1 x.1.2.1 x.1.2.2.1.1 x.1.2.2.1.2.1 x.1.2.2.1.2.2.1 x.1.2.2.1.va.1 x.1.2.2.1.va.2.1) [fe C.aN] [F.OY HY] (by intros;unfold M.FI;exact zbn)
def M.Bl(ni:zam)(w:au)(w1:Bool)(n' gq:Int)(iO iM:aA)(jv:au)(open' end':aA)(k:au->Option R):=cond ((iO.length+open'.length).ble 9223372036854775807) ((M.aI (iO++open')).bind λe=>M.jW.bind λa=>(ni w w1 jv a.1 a.2.1 a.2.2.1 a.2.2.2.1 a.2.2.2.2).bind λc=>(M.aI end').bind λd=>(M.aN 6 0 (aG [[D.sl true 4 e],[D.sl true 4 c],[D.sl true 4 d]])).bind λb=>cond ([[D.sl true 4 b]].all bn) (k b) none) none
def C.aeK{ni:zam}(Wx:S.kX.ok X0 λx=>bJ (ni x.1.1.1 x.1.1.2.1 x.1.2.1) x.1.2.2.1):S.D8.ok X0 λx=>bJ (M.Bl ni x.1.1.1 x.1.1.2.1) x.1.2.1 x.1.2.2.1 x.1.va.1 some:=fnS (λx=>M.Bl ni x.1.1.1 x.1.1.2.1 x.1.2.1.1 x.1.2.1.2.1 x.1.2.1.2.2.1 x.1.2.1.va.1 x.1.2.1.va.2.1 x.1.2.2.1 x.1.va.1) [fe C.aI,fe C.jW,fe Wx,fe C.aN] [] (by intros;unfold M.Bl;exact zbn)
def M.zF(lM:zab)(w:au)(w1:Bool)(i:Int)(k:au->Option R):=(lM w w1 i 14 false false false false).bind λa=>k a
def C.adG{lM:zab}(Wy:S.BU.ok X0 λx=>bJ (lM x.1.1.1 x.1.1.2.1 x.1.2.1) x.1.2.2.1):S.zT.ok X0 λx=>M.zF lM x.1.1.1 x.1.1.2.1 x.1.2.1 some:=fnS (λx=>M.zF lM x.1.1.1 x.1.1.2.1 x.1.2.1) [fe Wy] [] (by intros;unfold M.zF;exact zbn)
abbrev M.Rf(op':Int)(k:Int×Int->Option R):=(M.vW op').bind λa=>cond (a==3) (k (3,4)) (cond (a==4) (k (4,5)) (cond (a==6) (k (7,7)) (cond (a==7) (k (8,8)) (cond (a==8) (k (8,9)) (cond (a==9) (k (9,10)) (cond (a==10) (k (10,11)) (k (13,11))))))))
def M.yN op':=M.Rf op' some
def C.yN:=fTa S.yN (λx=>M.Rf x.1.1) [fe C.vW]
abbrev M.Ug(n' gq:Int)(iO iM:aA)(jv:au)(k' p:Int)(p1 p2 p3 p4:Bool)(k:Int×Bool×Bool×Bool×Bool->Option R):=(M.D7 p p1 p2 p3 p4).bind λi=>cond (!i) (k (0,false,false,false,false)) ((M.dF k' 0 (i64.wrap ((↑jv.length:Int) - 1))).bind λh=>cond (!h) (k (0,false,false,false,false)) ((M.mG n' gq iO iM jv).bind λg=>cond (g==0) (k (0,false,false,false,false)) (cond p4 (cond (n'==15) (cond (decide (k'>0)) (k (1,false,p2,p3,k'==0)) (k (14,false,p2,p3,k'==0))) (cond (n'==14) (cond (k'==0) (k (3,false,p2,p3,k'==0)) (k (2,false,p2,p3,k'==0))) (cond (n'==13) (cond (decide ((↑jv.length:Int)>1)) (M.jW.bind λd=>k (d.1,d.2.1,d.2.2.1,d.2.2.2.1,d.2.2.2.2)) (k (5,false,p2,p3,k'==0))) (cond (n'==12) ((M.yN gq).bind λf=>cond (decide (k'>0)) (k (f.2,false,p2,p3,gq==99)) (k (f.1,false,p2,p3,k'==0))) (cond (n'==11) (k (11,false,p2,p3,false)) (cond (n'==9) (k (14,false,p2,p3,false)) (cond (n'==10) (k (14,false,p2,p3,false)) (cond (n'==6) (k (14,true,p2,p3,false)) (M.jW.bind λc=>k (c.1,c.2.1,c.2.2.1,c.2.2.2.1,c.2.2.2.2)))))))))) (cond (n'==15) (cond (decide (k'>0)) (k (1,false,p2,p3,false)) (k (14,false,p2,p3,false))) (cond (n'==14) (cond (k'==0) (k (3,false,p2,p3,false)) (k (2,false,p2,p3,false))) (cond (n'==13) (cond (decide ((↑jv.length:Int)>1)) (M.jW.bind λa=>k (a.1,a.2.1,a.2.2.1,a.2.2.2.1,a.2.2.2.2)) (k (5,false,p2,p3,false))) (cond (n'==12) ((M.yN gq).bind λe=>cond (decide (k'>0)) (k (e.2,false,p2,p3,gq==99)) (k (e.1,false,p2,p3,false))) (cond (n'==11) (k (11,false,p2,p3,false)) (cond (n'==9) (k (14,false,p2,p3,false)) (cond (n'==10) (k (14,false,p2,p3,false)) (cond (n'==6) (k (14,true,p2,p3,false)) (M.jW.bind λb=>k (b.1,b.2.1,b.2.2.1,b.2.2.2.1,b.2.2.2.2)))))))))))))
def M.gG n' gq iO iM jv k' p p1 p2 p3 p4:=M.Ug n' gq iO iM jv k' p p1 p2 p3 p4 some
def C.gG:=fTa S.gG (λx=>M.Ug x.1.1.1 x.1.1.2.1 x.1.1.2.2.1 x.1.1.va.1 x.1.1.va.2.1 x.1.2.1 x.1.2.2.1.1 x.1.2.2.1.2.1 x.1.2.2.1.2.2.1 x.1.2.2.1.va.1 x.1.2.2.1.va.2.1) [fe C.D7,fe C.dF,fe C.mG,fe C.jW,fe C.yN]
abbrev M.Uh(kind:Int)(k:Int×aA×Int->Option R):=(M.kW kind).bind λa=>k (kind,a,0)
def M.gI kind:=M.Uh kind some
def C.gI:=fTa S.gI (λx=>M.Uh x.1.1) [fe C.kW]
def M.Dk(cO:zab)(kids x':au)(kR:Bool)(s:Int×au)(kn:Int×au->Option R)(ke:Int×au->Option R):Option R:=match s with
 |(k',mY)=>bif decide (k'<(↑kids.length:Int)) then(bif decide (k'>0) then((M.gI 36).bind λc=>jH mY [[D.int .i64 c.1,D.str c.2.1,D.int .i64 c.2.2]] 32 λza=>(idx kids k').bind λf=>(bM .i64 f 0).bind λi=>M.jW.bind λa=>(cO x' kR i a.1 a.2.1 a.2.2.1 a.2.2.2.1 a.2.2.2.2).bind λe=>jH za e 32 λj=>kn (i64.wrap (k'+1),j)) else (idx kids k').bind λd=>(bM .i64 d 0).bind λh=>M.jW.bind λb=>(cO x' kR h b.1 b.2.1 b.2.2.1 b.2.2.2.1 b.2.2.2.2).bind λg=>jH mY g 32 λza=>kn (i64.wrap (k'+1),za)) else ke (k',mY)
def M.JD cO kids x' kR s:=M.Dk cO kids x' kR s (λs=>some (Sum.inl s)) λt=>some (Sum.inr t)
def M.OZ cO kids x' kR s:=dU (M.JD cO kids x' kR) s
def F.OZ{cO:zab}(H6:S.sQ.ok X0 λx=>bJ (cO x.1.1.1 x.1.1.2.1 x.1.2.1) x.1.2.2.1):LE X0 245:=le 3 (Gj [bH 1 (pL false 1),bH 2 (pP 300000 0),bH 5 (pO 300001 0),bH 6 pI] [bH 300000 zbh,bH 300001 zbl]) (λx=>(x.1.va.1,x.2.2.1)) (λx s=>((x.1.1,(),(),s.1,()),((x.2.1.1,x.2.1.2.1,()),s.2,()))) (λx=> .leaf (Int×au) (λt=>(Ex.exit 0,⟨[(1,F9 1 x.1.1),(2,V.ptr 300000 0),(5,V.own 300001 0),(6,iQ t.1),(11,uX false)],[(300000,Cell.box 64 [F9 5 x.2.1.1,uX x.2.1.2.1]),(300001,Cell.arr false true 0 3 t.2)]⟩))) (λx=>M.Dk cO x.1.1 x.2.1.1 x.2.1.2.1) [fe C.gI,fe C.jW,fe H6] [] (by rintro _ _ ⟨_,_⟩ _ _<;>unfold M.Dk<;>exact zbn)
def M.FK(cO:zab)(w:au)(w1:Bool)(kids:au)(k:au->Option R):=(M.OZ cO kids w w1 (0,[])).bind λa=>cond (ay a.2) (k a.2) none
def C.agH{cO:zab}(H6:S.sQ.ok X0 λx=>bJ (cO x.1.1.1 x.1.1.2.1 x.1.2.1) x.1.2.2.1):S.BQ.ok X0 λx=>M.FK cO x.1.1.1 x.1.1.2.1 x.1.2.1 some:=fnS (λx=>M.FK cO x.1.1.1 x.1.1.2.1 x.1.2.1) [] [F.OZ H6] (by intros;unfold M.FK;exact zbn)
def M.Bo(ny:zah)(w:au)(w1:Bool)(t':Int)(gW:aA)(iG:Int)(kids:au)(open':Int)(k:au->Option R):=(M.gI open').bind λa=>(ny w w1 kids).bind λc=>jH [[D.int .i64 t',D.str gW,D.int .i64 iG],[D.int .i64 a.1,D.str a.2.1,D.int .i64 a.2.2]] c 32 λe=>(M.gI (i64.wrap (open'+1))).bind λb=>jH e [[D.int .i64 b.1,D.str b.2.1,D.int .i64 b.2.2]] 32 λd=>cond (ay d) (k d) none
def C.aeL{ny:zah}(WA:S.BQ.ok X0 λx=>ny x.1.1.1 x.1.1.2.1 x.1.2.1):S.D9.ok X0 λx=>M.Bo ny x.1.1.1 x.1.1.2.1 x.1.2.1.1 x.1.2.1.2.1 x.1.2.1.2.2.1 x.1.2.2.1 x.1.va.1 some:=fnS (λx=>M.Bo ny x.1.1.1 x.1.1.2.1 x.1.2.1.1 x.1.2.1.2.1 x.1.2.1.2.2.1 x.1.2.2.1 x.1.va.1) [fe C.gI,fe WA] [] (by intros;simp only[M.Bo,jH];exact zbn)
def M.zG(fK:zab)(w:au)(w1:Bool)(i:Int)(k:au->Option R):=(fK w w1 i 14 false false false false).bind λa=>cond (ay a) (k a) none
def C.adH{fK:zab}(WB:S.BR.ok X0 λx=>bJ (fK x.1.1.1 x.1.1.2.1 x.1.2.1) x.1.2.2.1):S.zU.ok X0 λx=>M.zG fK x.1.1.1 x.1.1.2.1 x.1.2.1 some:=fnS (λx=>M.zG fK x.1.1.1 x.1.1.2.1 x.1.2.1) [fe WB] [] (by intros;unfold M.zG;exact zbn)
def M.uD(cO:zab)(w:au)(w1:Bool)(n' gq:Int)(iO iM:aA)(jv:au)(p:Int)(p1 p2 p3 p4:Bool)(k:au->Option R):=(idx jv 0).bind λl=>(bM .i64 l 0).bind λq=>(M.gG n' gq iO iM jv 0 p p1 p2 p3 p4).bind λd=>(cO w w1 q d.1 d.2.1 d.2.2.1 d.2.2.2.1 d.2.2.2.2).bind λi=>cond (n'==14) ((M.gI 65).bind λg=>jH i [[D.int .i64 g.1,D.str g.2.1,D.int .i64 g.2.2]] 32 λza=>(idx jv 1).bind λu=>(bM .i64 u 0).bind λx=>(M.gG n' gq iO iM jv 1 p p1 p2 p3 p4).bind λb=>(cO w w1 x b.1 b.2.1 b.2.2.1 b.2.2.2.1 b.2.2.2.2).bind λn=>jH za n 32 λzb=>(M.gI 66).bind λh=>jH zb [[D.int .i64 h.1,D.str h.2.1,D.int .i64 h.2.2]] 32 λza=>(idx jv 2).bind λz=>(bM .i64 z 0).bind λy=>(M.gG n' gq iO iM jv 2 p p1 p2 p3 p4).bind λa=>(cO w w1 y a.1 a.2.1 a.2.2.1 a.2.2.2.1 a.2.2.2.2).bind λr=>jH za r 32 λzb=>cond (ay zb) (k zb) none) (cond (gq !=99) ((M.gI gq).bind λf=>jH i [[D.int .i64 f.1,D.str f.2.1,D.int .i64 f.2.2]] 32 λza=>(idx jv 1).bind λt=>(bM .i64 t 0).bind λo=>(M.gG n' gq iO iM jv 1 p p1 p2 p3 p4).bind λe=>(cO w w1 o e.1 e.2.1 e.2.2.1 e.2.2.2.1 e.2.2.2.2).bind λv=>jH za v 32 λzb=>cond (ay zb) (k zb) none) ((idx jv 1).bind λj=>(bM .i64 j 0).bind λs=>(M.gG n' gq iO iM jv 1 p p1 p2 p3 p4).bind λc=>(cO w w1 s c.1 c.2.1 c.2.2.1 c.2.2.2.1 c.2.2.2.2).bind λm=>jH i m 32 λza=>cond (ay za) (k za) none))
def C.aeM{cO:zab}(H6:S.sQ.ok X0 λx=>bJ (cO x.1.1.1 x.1.1.2.1 x.1.2.1) x.1.2.2.1):S.Ea.ok X0 λx=>bJ (bJ (M.uD cO x.1.1.1 x.1.1.2.1) x.1.2.1) x.1.2.2.1 some:=fnS (λx=>M.uD cO x.1.1.1 x.1.1.2.1 x.1.2.1.1 x.1.2.1.2.1 x.1.2.1.2.2.1 x.1.2.1.va.1 x.1.2.1.va.2.1 x.1.2.2.1.1 x.1.2.2.1.2.1 x.1.2.2.1.2.2.1 x.1.2.2.1.va.1 x.1.2.2.1.va.2.1) [fe C.gG,fe H6,fe C.gI] [] (by intros;simp only[M.uD,jH];exact zbn)
abbrev M.gQ(Xo:Int×aA×Int)(amo:au)(k:au->Option R):=cond ((([[D.int .i64 Xo.1,D.str Xo.2.1,D.int .i64 Xo.2.2]].length+amo.length) * 32).ble 140737488355328) (cond (([[D.int .i64 Xo.1,D.str Xo.2.1,D.int .i64 Xo.2.2]].length+amo.length).ble 140737488355328) (cond (ay ([[D.int .i64 Xo.1,D.str Xo.2.1,D.int .i64 Xo.2.2]]++amo)) (k ([[D.int .i64 Xo.1,D.str Xo.2.1,D.int .i64 Xo.2.2]]++amo)) none) none) none
def M.iw(tq:zat)(qU:zaa)(cO:zab)(ny:zah)(Dl:zak)(w:au)(w1:Bool)(i p:Int)(p1 p2 p3 p4:Bool)(k:au->Option R):=(idx w i).bind λx=>nC 1 x λWC abz aam amq uP=>((M.dw WC abz aam amq uP).bind λe=>cond (e.1 !=0) (k ([[D.int .i64 e.1,D.str e.2.1,D.int .i64 e.2.2]])) (cond (WC==5) ((tq w w1 6 aam 0 uP 34).bind λo=>cond (ay o) (k o) none) (cond (WC==7) ((tq w w1 7 aam 0 uP 32).bind λq=>cond (ay q) (k q) none) (cond (WC==8) ((tq w w1 8 aam 0 uP 32).bind λr=>cond (ay r) (k r) none) (cond (WC==9) ((M.gI abz).bind λW=>(idx uP 0).bind λB=>(bM .i64 B 0).bind λO=>(qU w w1 O).bind λy=>M.gQ W y k) (cond (WC==10) ((idx uP 0).bind λP=>(bM .i64 P 0).bind λE=>(qU w w1 E).bind λI=>(M.gI abz).bind λg=>jH I [[D.int .i64 g.1,D.str g.2.1,D.int .i64 g.2.2]] 32 λza=>cond (ay za) (k za) none) (cond (WC==15) ((idx uP 0).bind λK=>(bM .i64 K 0).bind λJ=>(qU w w1 J).bind λF=>(M.gI abz).bind λf=>jH F [[D.int .i64 f.1,D.str f.2.1,D.int .i64 f.2.2]] 32 λza=>(idx uP 1).bind λV=>(bM .i64 V 0).bind λC=>(M.gG WC abz aam amq uP 1 p p1 p2 p3 p4).bind λa=>(cO w w1 C a.1 a.2.1 a.2.2.1 a.2.2.2.1 a.2.2.2.2).bind λt=>jH za t 32 λzb=>cond (ay zb) (k zb) none) (cond (WC==6) ((M.gI 68).bind λL=>(idx uP 0).bind λN=>(bM .i64 N 0).bind λA=>(M.gG WC abz aam amq uP 0 p p1 p2 p3 p4).bind λc=>(cO w w1 A c.1 c.2.1 c.2.2.1 c.2.2.2.1 c.2.2.2.2).bind λQ=>M.gQ L Q k) (cond (WC==11) ((M.gI abz).bind λs=>(idx uP 0).bind λG=>(bM .i64 G 0).bind λz=>(M.gG WC abz aam amq uP 0 p p1 p2 p3 p4).bind λd=>(cO w w1 z d.1 d.2.1 d.2.2.1 d.2.2.2.1 d.2.2.2.2).bind λT=>M.gQ s T k) (cond (WC==13) ((idx uP 0).bind λv=>(bM .i64 v 0).bind λH=>(M.gG WC abz aam amq uP 0 p p1 p2 p3 p4).bind λb=>(cO w w1 H b.1 b.2.1 b.2.2.1 b.2.2.2.1 b.2.2.2.2).bind λU=>cond (decide ((↑uP.length:Int)>1)) ((M.gI 32).bind λj=>(ny w w1 uP).bind λu=>jH [[D.int .i64 j.1,D.str j.2.1,D.int .i64 j.2.2]] u 32 λza=>(M.gI 33).bind λm=>jH za [[D.int .i64 m.1,D.str m.2.1,D.int .i64 m.2.2]] 32 λzb=>(M.gI 24).bind λh=>jH zb [[D.int .i64 h.1,D.str h.2.1,D.int .i64 h.2.2],[D.int .i64 6,D.str aam,D.int .i64 0]] 32 λza=>cond (ay za) (k za) none) ((M.gI 24).bind λl=>jH U [[D.int .i64 l.1,D.str l.2.1,D.int .i64 l.2.2],[D.int .i64 6,D.str aam,D.int .i64 0]] 32 λza=>cond (ay za) (k za) none)) ((Dl w w1 WC abz aam amq uP p p1 p2 p3 p4).bind λn=>cond (ay n) (k n) none)))))))))))
def C.agI{tq:zat}{qU:zaa}{cO:zab}{ny:zah}{Dl:zak}(agJ:S.D9.ok X0 λx=>tq x.1.1.1 x.1.1.2.1 x.1.2.1.1 x.1.2.1.2.1 x.1.2.1.2.2.1 x.1.2.2.1 x.1.va.1)(aeN:S.zU.ok X0 λx=>qU x.1.1.1 x.1.1.2.1 x.1.2.1)(H6:S.sQ.ok X0 λx=>bJ (cO x.1.1.1 x.1.1.2.1 x.1.2.1) x.1.2.2.1)(WA:S.BQ.ok X0 λx=>ny x.1.1.1 x.1.1.2.1 x.1.2.1)(agK:S.Ea.ok X0 λx=>bJ (bJ (Dl x.1.1.1 x.1.1.2.1) x.1.2.1) x.1.2.2.1):S.BR.ok X0 λx=>bJ (M.iw tq qU cO ny Dl x.1.1.1 x.1.1.2.1 x.1.2.1) x.1.2.2.1 some:=fnS (λx=>M.iw tq qU cO ny Dl x.1.1.1 x.1.1.2.1 x.1.2.1 x.1.2.2.1.1 x.1.2.2.1.2.1 x.1.2.2.1.2.2.1 x.1.2.2.1.va.1 x.1.2.2.1.va.2.1) [fe C.dw,fe agJ,fe C.gI,fe aeN,fe C.gG,fe H6,fe WA,fe agK] [] (by intros;unfold M.iw M.gQ;exact zbn)
abbrev M.NZ(fK:zab)(w:au)(w1:Bool)(i:Int)(k:au->Option R):=(M.gI 32).bind λa=>M.jW.bind λd=>(fK w w1 i d.1 d.2.1 d.2.2.1 d.2.2.2.1 d.2.2.2.2).bind λb=>cond ((([[D.int .i64 a.1,D.str a.2.1,D.int .i64 a.2.2]].length+b.length) * 32).ble 140737488355328) (cond (([[D.int .i64 a.1,D.str a.2.1,D.int .i64 a.2.2]].length+b.length).ble 140737488355328) ((M.gI 33).bind λc=>cond (((([[D.int .i64 a.1,D.str a.2.1,D.int .i64 a.2.2]]++b).length+[[D.int .i64 c.1,D.str c.2.1,D.int .i64 c.2.2]].length) * 32).ble 140737488355328) (cond ((([[D.int .i64 a.1,D.str a.2.1,D.int .i64 a.2.2]]++b).length+[[D.int .i64 c.1,D.str c.2.1,D.int .i64 c.2.2]].length).ble 140737488355328) (cond (ay ([[D.int .i64 a.1,D.str a.2.1,D.int .i64 a.2.2]]++b++[[D.int .i64 c.1,D.str c.2.1,D.int .i64 c.2.2]])) (k ([[D.int .i64 a.1,D.str a.2.1,D.int .i64 a.2.2]]++b++[[D.int .i64 c.1,D.str c.2.1,D.int .i64 c.2.2]])) none) none) none) none) none
abbrev M.Ui(w1:Bool)(w:au)(i:Int)(fK:zab)(p:Int)(p1 p2 p3 p4:Bool)(k:au->Option R):=cond w1 ((idx w i).bind λa=>(bM .i64 a 0).bind λj=>(bM .i64 a 1).bind λe=>(cStr a 2).bind λf=>(cStr a 3).bind λh=>(NP 1 a 4).bind λc=>(M.mG j e f h c).bind λd=>cond (d==15) ((idx w i).bind λg=>(bM .i64 g 0).bind λl=>cond (l !=4) ((fK w w1 i p p1 p2 p3 p4).bind λb=>cond (ay b) (k b) none) (M.NZ fK w w1 i k)) (M.NZ fK w w1 i k)) (M.NZ fK w w1 i k)
def M.MH(fK:zab)(w:au)(w1:Bool)(i p:Int)(p1 p2 p3 p4:Bool)(k:au->Option R):=(idx w i).bind λc=>nC 1 c λaTP aTQ aTR aTS aAs=>((M.IQ aTP aTQ aTR aTS aAs p p1 p2 p3 p4).bind λb=>cond b (cond (!w1) ((fK w w1 i p p1 p2 p3 p4).bind λa=>cond (ay a) (k a) none) (M.Ui w1 w i fK p p1 p2 p3 p4 k)) (M.Ui w1 w i fK p p1 p2 p3 p4 k))
def C.alf{fK:zab}(WB:S.BR.ok X0 λx=>bJ (fK x.1.1.1 x.1.1.2.1 x.1.2.1) x.1.2.2.1):S.sQ.ok X0 λx=>bJ (M.MH fK x.1.1.1 x.1.1.2.1 x.1.2.1) x.1.2.2.1 some:=fnS (λx=>M.MH fK x.1.1.1 x.1.1.2.1 x.1.2.1 x.1.2.2.1.1 x.1.2.2.1.2.1 x.1.2.2.1.2.2.1 x.1.2.2.1.va.1 x.1.2.2.1.va.2.1) [fe C.IQ,fe WB,fe C.mG,fe C.gI,fe C.jW] [] (by intros;unfold M.MH M.Ui M.NZ;exact zbn)
def M.nO:Nat->(zab)×(zah)×(zat)×(zaa)×(zak)×(zab):=Nat.rec (λ_ _ _ _ _ _ _ _=>none,λ_ _ _=>none,λ_ _ _ _ _ _ _=>none,λ_ _ _=>none,λ_ _ _ _ _ _ _ _ _ _ _ _=>none,λ_ _ _ _ _ _ _ _=>none) λ_ qz=>(λw w1 i p p1 p2 p3 p4=>M.MH qz.2.2.2.2.2 w w1 i p p1 p2 p3 p4 some,λw w1 kids=>M.FK qz.1 w w1 kids some,λw w1 t' gW iG kids open'=>M.Bo qz.2.1 w w1 t' gW iG kids open' some,λw w1 i=>M.zG qz.2.2.2.2.2 w w1 i some,λw w1 n' gq iO iM jv p p1 p2 p3 p4=>M.uD qz.1 w w1 n' gq iO iM jv p p1 p2 p3 p4 some,λw w1 i p p1 p2 p3 p4=>M.iw qz.2.2.1 qz.2.2.2.1 qz.1 qz.2.1 qz.2.2.2.2.1 w w1 i p p1 p2 p3 p4 some)
def M.wB n:=(M.nO n).1
def M.FM n:=(M.nO n).2.1
def M.Iw n:=(M.nO n).2.2.1
def M.FN n:=(M.nO n).2.2.2.1
def M.Iy n:=(M.nO n).2.2.2.2.1
def M.FP n:=(M.nO n).2.2.2.2.2
def M.aoc(n:Nat):M.wB (n+1)=λw w1 i p p1 p2 p3 p4=>M.MH (M.FP n) w w1 i p p1 p2 p3 p4 some:=rfl
def M.ajj(n:Nat):M.FM (n+1)=λw w1 kids=>M.FK (M.wB n) w w1 kids some:=rfl
def M.agL(n:Nat):M.Iw (n+1)=λw w1 t' gW iG kids open'=>M.Bo (M.FM n) w w1 t' gW iG kids open' some:=rfl
def M.aeO(n:Nat):M.FN (n+1)=λw w1 i=>M.zG (M.FP n) w w1 i some:=rfl
def M.agM(n:Nat):M.Iy (n+1)=λw w1 n' gq iO iM jv p p1 p2 p3 p4=>M.uD (M.wB n) w w1 n' gq iO iM jv p p1 p2 p3 p4 some:=rfl
def M.ajk(n:Nat):M.FP (n+1)=λw w1 i p p1 p2 p3 p4=>M.iw (M.Iw n) (M.FN n) (M.wB n) (M.FM n) (M.Iy n) w w1 i p p1 p2 p3 p4 some:=rfl
def M.sQ w w1 i p p1 p2 p3 p4:=lim λn=>M.wB n w w1 i p p1 p2 p3 p4
def M.BQ w w1 kids:=lim λn=>M.FM n w w1 kids
def M.D9 w w1 t' gW iG kids open':=lim λn=>M.Iw n w w1 t' gW iG kids open'
def M.zU w w1 i:=lim λn=>M.FN n w w1 i
def M.Ea w w1 n' gq iO iM jv p p1 p2 p3 p4:=lim λn=>M.Iy n w w1 n' gq iO iM jv p p1 p2 p3 p4
def M.BR w w1 i p p1 p2 p3 p4:=lim λn=>M.FP n w w1 i p p1 p2 p3 p4
def C.nO:∀n,(S.sQ.ok X0 λx=>bJ (M.wB n x.1.1.1 x.1.1.2.1 x.1.2.1) x.1.2.2.1)/\(S.BQ.ok X0 λx=>M.FM n x.1.1.1 x.1.1.2.1 x.1.2.1)/\(S.D9.ok X0 λx=>M.Iw n x.1.1.1 x.1.1.2.1 x.1.2.1.1 x.1.2.1.2.1 x.1.2.1.2.2.1 x.1.2.2.1 x.1.va.1)/\(S.zU.ok X0 λx=>M.FN n x.1.1.1 x.1.1.2.1 x.1.2.1)/\(S.Ea.ok X0 λx=>bJ (bJ (M.Iy n x.1.1.1 x.1.1.2.1) x.1.2.1) x.1.2.2.1)/\(S.BR.ok X0 λx=>bJ (M.FP n x.1.1.1 x.1.1.2.1 x.1.2.1) x.1.2.2.1)
 |0=>⟨dQ.zero,dQ.zero,dQ.zero,dQ.zero,dQ.zero,dQ.zero⟩
 |n+1=>have h:=C.nO n;⟨C.alf h.2.2.2.2.2,C.agH h.1,C.aeL h.2.1,C.adH h.2.2.2.2.2,C.aeM h.1,C.agI h.2.2.1 h.2.2.2.1 h.1 h.2.1 h.2.2.2.2.1⟩
def C.sQ:S.sQ.ok X0 λx=>bJ (M.sQ x.1.1.1 x.1.1.2.1 x.1.2.1) x.1.2.2.1:=dQ.lim λn=>(C.nO n).1
def M.alg{n:Nat}{w:au}{w1:Bool}{i p:Int}{p1 p2 p3 p4:Bool}{r:au}(h:M.wB n w w1 i p p1 p2 p3 p4=some r):M.sQ w w1 i p p1 p2 p3 p4=some r:=dQ.zL (λn=>(C.nO n).1) (by intro a b h;simp[S.sQ,rv,sg] at h;first|exact h|simp[Prod.ext_iff,h]) (x:=(((w,w1,()),i,(p,p1,p2,p3,p4,()),()),())) h
def C.BQ:S.BQ.ok X0 λx=>M.BQ x.1.1.1 x.1.1.2.1 x.1.2.1:=dQ.lim λn=>(C.nO n).2.1
def C.D9:S.D9.ok X0 λx=>M.D9 x.1.1.1 x.1.1.2.1 x.1.2.1.1 x.1.2.1.2.1 x.1.2.1.2.2.1 x.1.2.2.1 x.1.va.1:=dQ.lim λn=>(C.nO n).2.2.1
def C.zU:S.zU.ok X0 λx=>M.zU x.1.1.1 x.1.1.2.1 x.1.2.1:=dQ.lim λn=>(C.nO n).2.2.2.1
def C.Ea:S.Ea.ok X0 λx=>bJ (bJ (M.Ea x.1.1.1 x.1.1.2.1) x.1.2.1) x.1.2.2.1:=dQ.lim λn=>(C.nO n).2.2.2.2.1
def C.BR:S.BR.ok X0 λx=>bJ (M.BR x.1.1.1 x.1.1.2.1 x.1.2.1) x.1.2.2.1:=dQ.lim λn=>(C.nO n).2.2.2.2.2
def M.KE(s':aA)(at':Int)(x':au)(s:Int×Int×Int)(kn:Int×Int×Int->Option R)(ke:Int×Int×Int->Option R):Option R:=match s with
 |(kind,size,i)=>bif decide (i<(↑x'.length:Int)) then((idx x' i).bind λg=>x'[i.toNat]?.bind λb=>(cStr b 0).bind λa=>bif decide (at'>=0) then(bif decide (at'<=(↑s'.length:Int)) then(bif decide ((↑a.length:Int)<=i64.wrap ((↑s'.length:Int) - at')) then((cut s' at' (i64.wrap (at'+(↑a.length:Int)))).bind λd=>(idx x' i).bind λf=>x'[i.toNat]?.bind λe=>(cStr e 0).bind λc=>bif d==c then(bif decide ((↑a.length:Int)>size) then(kn (i64.wrap (30+i),(↑a.length:Int),i64.wrap (i+1))) else kn (kind,size,i64.wrap (i+1))) else kn (kind,size,i64.wrap (i+1))) else kn (kind,size,i64.wrap (i+1))) else kn (kind,size,i64.wrap (i+1))) else kn (kind,size,i64.wrap (i+1))) else ke (kind,size,i)
def M.WE s' at' x' s:=M.KE s' at' x' s (λs=>some (Sum.inl s)) λt=>some (Sum.inr t)
def M.Vy s' at' x' s:=dU (M.WE s' at' x') s
def F.Vy:LE X0 224:=le 5 (Gj [bH 0 pS,bH 1 pI,bH 6 pI,bH 7 pI,bH 8 (pO 300000 0),bH 9 pI] [bH 300000 zaZ]) (λx=>(x.1.2.2.1,x.1.va.1,x.1.va.2.2.1)) (λx s=>((x.1.1,x.1.2.1,s.1,s.2.1,(),s.2.2,()),(x.2.1,()))) (λx=> .leaf (Int×Int×Int) (λt=>(Ex.exit 0,⟨[(0,yG x.1.1),(1,iQ x.1.2.1),(6,iQ t.1),(7,iQ t.2.1),(8,V.own 300000 0),(9,iQ t.2.2),(15,uX false)],[(300000,Cell.arr false true 0 1 x.2.1)]⟩))) (λx=>M.KE x.1.1 x.1.2.1 x.2.1) [] [] (by rintro _ _ ⟨_,_,_⟩ _ _<;>simp only[M.KE,nb]<;>rfl)
abbrev M.Xp(s':aA)(at':Int)(k:Int×Int->Option R):=M.yM.bind λb=>(M.Vy s' at' b (0,0,0)).bind λa=>k (a.1,a.2.1)
def M.Lj s' at':=M.Xp s' at' some
def C.Lj:=fTa S.Lj (λx=>M.Xp x.1.1 x.1.2.1) [fe C.yM] [F.Vy]
abbrev M.zH(a b:Int)(k:Bool->Option R)(a1 b1:aA):=cond (a==6) (cond (b==32) (k true) (cond ((a1.length+b1.length).ble 9223372036854775807) ((M.Lj (a1++b1) 0).bind λe=>(M.dF a 30 68).bind λc=>cond c (k (decide (e.2>(↑a1.length:Int)))) (k false)) none)) (cond ((a1.length+b1.length).ble 9223372036854775807) ((M.Lj (a1++b1) 0).bind λf=>(M.dF a 30 68).bind λd=>cond d (k (decide (f.2>(↑a1.length:Int)))) (k false)) none)
def M.O1(a:Int)(a1:aA)(a2 b:Int)(b1:aA)(b2:Int)(k:Bool->Option R):=cond (a1==[]) (k false) (cond (b1==[]) (k false) (cond (a==2) (k false) (cond (a==1) (k false) (cond (b==1) (k false) ((idx b1 0).bind λc=>(idx a1 (i64.wrap ((↑a1.length:Int) - 1))).bind λh=>(M.lH (i64.wrap (↑h.toNat:Int))).bind λe=>cond e ((M.lH (i64.wrap (↑c.toNat:Int))).bind λg=>cond g (k true) (cond (a==3) ((M.lH (i64.wrap (↑c.toNat:Int))).bind λf=>cond f (k true) (cond (i64.wrap (↑c.toNat:Int)==46) (k true) (M.zH a b k a1 b1))) (M.zH a b k a1 b1))) (cond (a==3) ((M.lH (i64.wrap (↑c.toNat:Int))).bind λd=>cond d (k true) (cond (i64.wrap (↑c.toNat:Int)==46) (k true) (M.zH a b k a1 b1))) (M.zH a b k a1 b1)))))))
def M.vY a a1 a2 b b1 b2:=M.O1 a a1 a2 b b1 b2 some
def C.vY:S.vY.ok X0 λx=>M.vY x.1.1.1 x.1.1.2.1 x.1.1.2.2.1 x.1.2.1.1 x.1.2.1.2.1 x.1.2.1.2.2.1:=fnS (λx=>M.O1 x.1.1.1 x.1.1.2.1 x.1.1.2.2.1 x.1.2.1.1 x.1.2.1.2.1 x.1.2.1.2.2.1) [fe C.lH,fe C.Lj,fe C.dF] [] (by intros;unfold M.O1 M.zH;exact zbn)
abbrev M.Am(gq:Int)(ams amu:au)(k:au->Option R):=(M.kW gq).bind λd=>cond ((1+d.length).ble 9223372036854775807) ((M.aI ([32]++d)).bind λf=>M.vX.bind λe=>(M.aN 6 0 (aG [[D.sl true 4 ams],[D.sl true 4 f],[D.sl true 4 e],[D.sl true 4 amu]])).bind λa=>cond ([[D.sl true 4 a]].all bn) ((M.aN 4 4 (aG [[D.sl true 4 a]])).bind λc=>cond ([[D.sl true 4 c]].all bn) ((M.aN 5 0 (aG [[D.sl true 4 c]])).bind λb=>cond ([[D.sl true 4 b]].all bn) (k b) none) none) none) none
def M.wC(bI:zab)(w:au)(w1:Bool)(n' gq:Int)(iO iM:aA)(jv:au)(p:Int)(p1 p2 p3 p4:Bool)(k:au->Option R):=(idx jv 0).bind λj=>(bM .i64 j 0).bind λi=>(M.gG n' gq iO iM jv 0 p p1 p2 p3 p4).bind λb=>(bI w w1 i b.1 b.2.1 b.2.2.1 b.2.2.2.1 b.2.2.2.2).bind λc=>(idx jv 1).bind λh=>(bM .i64 h 0).bind λn=>(M.gG n' gq iO iM jv 1 p p1 p2 p3 p4).bind λa=>(bI w w1 n a.1 a.2.1 a.2.2.1 a.2.2.2.1 a.2.2.2.2).bind λd=>cond (gq==99) ((M.aI [32]).bind λm=>(M.aN 6 0 (aG [[D.sl true 4 c],[D.sl true 4 m],[D.sl true 4 d]])).bind λf=>cond ([[D.sl true 4 f]].all bn) (k f) none) (cond (gq==45) (M.Am gq c d k) (cond (gq==44) (M.Am gq c d k) ((M.kW gq).bind λe=>cond ((1+e.length).ble 9223372036854775807) (cond ((([32]++e).length+1).ble 9223372036854775807) ((M.aI ([32]++e++[32])).bind λl=>(M.aN 6 0 (aG [[D.sl true 4 c],[D.sl true 4 l],[D.sl true 4 d]])).bind λg=>cond ([[D.sl true 4 g]].all bn) (k g) none) none) none)))
def C.ajl{bI:zab}(HY:S.iq.ok X0 λx=>bJ (bI x.1.1.1 x.1.1.2.1 x.1.2.1) x.1.2.2.1):S.Kq.ok X0 λx=>bJ (bJ (M.wC bI x.1.1.1 x.1.1.2.1) x.1.2.1) x.1.2.2.1 some:=fnS (λx=>M.wC bI x.1.1.1 x.1.1.2.1 x.1.2.1.1 x.1.2.1.2.1 x.1.2.1.2.2.1 x.1.2.1.va.1 x.1.2.1.va.2.1 x.1.2.2.1.1 x.1.2.2.1.2.1 x.1.2.2.1.2.2.1 x.1.2.2.1.va.1 x.1.2.2.1.va.2.1) [fe C.gG,fe HY,fe C.aI,fe C.aN,fe C.kW,fe C.vX] [] (by intros;unfold M.wC M.Am;exact zbn)
abbrev M.gU(lY:au)(GL N7:Int)(PX Va:aA)(p:Int)(p1 p2 p3 p4:Bool)(bI:zab)(w:au)(w1:Bool)(aAu:au)(k:au->Option R):=(idx lY 0).bind λe=>(bM .i64 e 0).bind λd=>(M.gG GL N7 PX Va lY 0 p p1 p2 p3 p4).bind λa=>(bI w w1 d a.1 a.2.1 a.2.2.1 a.2.2.2.1 a.2.2.2.2).bind λc=>(M.aN 6 0 (aG [[D.sl true 4 aAu],[D.sl true 4 c]])).bind λb=>cond ([[D.sl true 4 b]].all bn) (k b) none
def M.iy(tu:zau)(qV:zaa)(bI:zab)(ni:zam)(Iz:zak)(w:au)(w1:Bool)(i p:Int)(p1 p2 p3 p4:Bool)(k:au->Option R):=(idx w i).bind λaFb=>nC 1 aFb λGL N7 PX Va lY=>((M.dw GL N7 PX Va lY).bind λo=>cond (o.1 !=0) ((M.aI o.2.1).bind λA=>k A) (cond (GL==5) ((tu w w1 GL N7 PX Va lY [91] [93]).bind λaUf=>k aUf) (cond (GL==7) ((tu w w1 GL N7 PX Va lY [40] [41]).bind λaUg=>k aUg) (cond (GL==8) ((tu w w1 GL N7 PX Va lY [40] [41]).bind λQ=>k Q) (cond (GL==9) ((M.kW N7).bind λU=>(M.aI U).bind λaUj=>(idx lY 0).bind λF=>(bM .i64 F 0).bind λZ=>(qV w w1 Z).bind λaUl=>(M.aN 6 0 (aG [[D.sl true 4 aUj],[D.sl true 4 aUl]])).bind λn=>cond ([[D.sl true 4 n]].all bn) (k n) none) (cond (GL==10) ((idx lY 0).bind λaFd=>(bM .i64 aFd 0).bind λH=>(qV w w1 H).bind λaUn=>(M.kW N7).bind λaUo=>(M.aI aUo).bind λaUp=>(M.aN 6 0 (aG [[D.sl true 4 aUn],[D.sl true 4 aUp]])).bind λu=>cond ([[D.sl true 4 u]].all bn) (k u) none) (cond (GL==6) ((M.aI [36]).bind λaAu=>M.gU lY GL N7 PX Va p p1 p2 p3 p4 bI w w1 aAu k) (cond (GL==15) ((idx lY 0).bind λE=>(bM .i64 E 0).bind λaUq=>(qV w w1 aUq).bind λV=>(M.kW N7).bind λl=>cond ((1+l.length).ble 9223372036854775807) (cond ((([32]++l).length+1).ble 9223372036854775807) ((M.aI ([32]++l++[32])).bind λaUs=>(idx lY 1).bind λO=>(bM .i64 O 0).bind λaUt=>(M.gG GL N7 PX Va lY 1 p p1 p2 p3 p4).bind λd=>(bI w w1 aUt d.1 d.2.1 d.2.2.1 d.2.2.2.1 d.2.2.2.2).bind λJ=>(M.aN 6 0 (aG [[D.sl true 4 V],[D.sl true 4 aUs],[D.sl true 4 J]])).bind λs=>cond ([[D.sl true 4 s]].all bn) (k s) none) none) none) (cond (GL==11) ((M.kW N7).bind λh=>(M.gI N7).bind λj=>(idx lY 0).bind λy=>(bM .i64 y 0).bind λaUv=>(M.gG GL N7 PX Va lY 0 p p1 p2 p3 p4).bind λa=>(M.sQ w w1 aUv a.1 a.2.1 a.2.2.1 a.2.2.2.1 a.2.2.2.2).bind λr=>(idx r 0).bind λaYM=>r[0]?.bind λm=>(bM .i64 m 0).bind λx=>(cStr m 1).bind λP=>(bM .i64 m 2).bind λaUy=>(M.vY j.1 j.2.1 j.2.2 x P aUy).bind λaUz=>cond aUz (cond ((h.length+1).ble 9223372036854775807) ((M.aI (h++[32])).bind λC=>M.gU lY GL N7 PX Va p p1 p2 p3 p4 bI w w1 C k) none) ((M.aI h).bind λT=>M.gU lY GL N7 PX Va p p1 p2 p3 p4 bI w w1 T k)) (cond (GL==14) ((idx lY 0).bind λaFh=>(bM .i64 aFh 0).bind λL=>(M.gG GL N7 PX Va lY 0 p p1 p2 p3 p4).bind λc=>(bI w w1 L c.1 c.2.1 c.2.2.1 c.2.2.2.1 c.2.2.2.2).bind λaUD=>(M.aI [32,63,32]).bind λz=>(idx lY 1).bind λY=>(bM .i64 Y 0).bind λaUF=>(M.gG GL N7 PX Va lY 1 p p1 p2 p3 p4).bind λg=>(bI w w1 aUF g.1 g.2.1 g.2.2.1 g.2.2.2.1 g.2.2.2.2).bind λaUG=>(M.aI [32,58,32]).bind λG=>(idx lY 2).bind λB=>(bM .i64 B 0).bind λaUI=>(M.gG GL N7 PX Va lY 2 p p1 p2 p3 p4).bind λe=>(bI w w1 aUI e.1 e.2.1 e.2.2.1 e.2.2.2.1 e.2.2.2.2).bind λN=>(M.aN 6 0 (aG [[D.sl true 4 aUD],[D.sl true 4 z],[D.sl true 4 aUG],[D.sl true 4 G],[D.sl true 4 N]])).bind λq=>cond ([[D.sl true 4 q]].all bn) (k q) none) (cond (GL==13) (cond ((↑lY.length:Int)==1) ((idx lY 0).bind λW=>(bM .i64 W 0).bind λI=>(M.gG GL N7 PX Va lY 0 p p1 p2 p3 p4).bind λf=>(bI w w1 I f.1 f.2.1 f.2.2.1 f.2.2.2.1 f.2.2.2.2).bind λaUL=>cond ((4+PX.length).ble 9223372036854775807) ((M.aI ([32,105,110,32]++PX)).bind λaUM=>(M.aN 6 0 (aG [[D.sl true 4 aUL],[D.sl true 4 aUM]])).bind λt=>cond ([[D.sl true 4 t]].all bn) (k t) none) none) ((M.aI [40]).bind λK=>M.jW.bind λb=>(ni w w1 lY b.1 b.2.1 b.2.2.1 b.2.2.2.1 b.2.2.2.2).bind λX=>cond ((5+PX.length).ble 9223372036854775807) ((M.aI ([41,32,105,110,32]++PX)).bind λaUP=>(M.aN 6 0 (aG [[D.sl true 4 K],[D.sl true 4 X],[D.sl true 4 aUP]])).bind λv=>cond ([[D.sl true 4 v]].all bn) (k v) none) none)) ((Iz w w1 GL N7 PX Va lY p p1 p2 p3 p4).bind λaUQ=>k aUQ))))))))))))
def C.agN{tu:zau}{qV:zaa}{bI:zab}{ni:zam}{Iz:zak}(agO:S.D8.ok X0 λx=>bJ (tu x.1.1.1 x.1.1.2.1) x.1.2.1 x.1.2.2.1 x.1.va.1)(aeP:S.zT.ok X0 λx=>qV x.1.1.1 x.1.1.2.1 x.1.2.1)(HY:S.iq.ok X0 λx=>bJ (bI x.1.1.1 x.1.1.2.1 x.1.2.1) x.1.2.2.1)(Wx:S.kX.ok X0 λx=>bJ (ni x.1.1.1 x.1.1.2.1 x.1.2.1) x.1.2.2.1)(alh:S.Kq.ok X0 λx=>bJ (bJ (Iz x.1.1.1 x.1.1.2.1) x.1.2.1) x.1.2.2.1):S.BU.ok X0 λx=>bJ (M.iy tu qV bI ni Iz x.1.1.1 x.1.1.2.1 x.1.2.1) x.1.2.2.1 some:=fnS (λx=>M.iy tu qV bI ni Iz x.1.1.1 x.1.1.2.1 x.1.2.1 x.1.2.2.1.1 x.1.2.2.1.2.1 x.1.2.2.1.2.2.1 x.1.2.2.1.va.1 x.1.2.2.1.va.2.1) [fe C.dw,fe C.aI,fe agO,fe C.kW,fe aeP,fe C.aN,fe C.gG,fe HY,fe C.gI,fe C.sQ,fe C.vY,fe C.jW,fe Wx,fe alh] [] (by intros;unfold M.iy M.gU;exact zbn)
def M.MI(lM:zab)(w:au)(w1:Bool)(i p:Int)(p1 p2 p3 p4:Bool)(k:au->Option R):=(idx w i).bind λd=>nC 1 d λaUR aUS aUT aUU aAy=>((M.IQ aUR aUS aUT aUU aAy p p1 p2 p3 p4).bind λf=>cond f ((lM w w1 i p p1 p2 p3 p4).bind λg=>k g) ((M.aI [40]).bind λc=>M.jW.bind λa=>(lM w w1 i a.1 a.2.1 a.2.2.1 a.2.2.2.1 a.2.2.2.2).bind λh=>(M.aI [41]).bind λe=>(M.aN 6 0 (aG [[D.sl true 4 c],[D.sl true 4 h],[D.sl true 4 e]])).bind λb=>cond ([[D.sl true 4 b]].all bn) (k b) none))
def C.ali{lM:zab}(Wy:S.BU.ok X0 λx=>bJ (lM x.1.1.1 x.1.1.2.1 x.1.2.1) x.1.2.2.1):S.iq.ok X0 λx=>bJ (M.MI lM x.1.1.1 x.1.1.2.1 x.1.2.1) x.1.2.2.1 some:=fnS (λx=>M.MI lM x.1.1.1 x.1.1.2.1 x.1.2.1 x.1.2.2.1.1 x.1.2.2.1.2.1 x.1.2.2.1.2.2.1 x.1.2.2.1.va.1 x.1.2.2.1.va.2.1) [fe C.IQ,fe Wy,fe C.aI,fe C.jW,fe C.aN] [] (by intros;simp only[M.MI,nC];exact zbn)
def M.mJ:Nat->(zab)×(zam)×(zau)×(zaa)×(zak)×(zab):=Nat.rec (λ_ _ _ _ _ _ _ _=>none,λ_ _ _ _ _ _ _ _=>none,λ_ _ _ _ _ _ _ _ _=>none,λ_ _ _=>none,λ_ _ _ _ _ _ _ _ _ _ _ _=>none,λ_ _ _ _ _ _ _ _=>none) λ_ qz=>(λw w1 i p p1 p2 p3 p4=>M.MI qz.2.2.2.2.2 w w1 i p p1 p2 p3 p4 some,λw w1 kids p p1 p2 p3 p4=>M.FI qz.1 w w1 kids p p1 p2 p3 p4 some,λw w1 n' gq iO iM jv open' end'=>M.Bl qz.2.1 w w1 n' gq iO iM jv open' end' some,λw w1 i=>M.zF qz.2.2.2.2.2 w w1 i some,λw w1 n' gq iO iM jv p p1 p2 p3 p4=>M.wC qz.1 w w1 n' gq iO iM jv p p1 p2 p3 p4 some,λw w1 i p p1 p2 p3 p4=>M.iy qz.2.2.1 qz.2.2.2.1 qz.1 qz.2.1 qz.2.2.2.2.1 w w1 i p p1 p2 p3 p4 some)
def M.tC n:=(M.mJ n).1
def M.Ap n:=(M.mJ n).2.1
def M.IB n:=(M.mJ n).2.2.1
def M.FQ n:=(M.mJ n).2.2.2.1
def M.N8 n:=(M.mJ n).2.2.2.2.1
def M.FT n:=(M.mJ n).2.2.2.2.2
def M.aoe(n:Nat):M.tC (n+1)=λw w1 i p p1 p2 p3 p4=>M.MI (M.FT n) w w1 i p p1 p2 p3 p4 some:=rfl
def M.ajm(n:Nat):M.Ap (n+1)=λw w1 kids p p1 p2 p3 p4=>M.FI (M.tC n) w w1 kids p p1 p2 p3 p4 some:=rfl
def M.agP(n:Nat):M.IB (n+1)=λw w1 n' gq iO iM jv open' end'=>M.Bl (M.Ap n) w w1 n' gq iO iM jv open' end' some:=rfl
def M.aeQ(n:Nat):M.FQ (n+1)=λw w1 i=>M.zF (M.FT n) w w1 i some:=rfl
def M.alj(n:Nat):M.N8 (n+1)=λw w1 n' gq iO iM jv p p1 p2 p3 p4=>M.wC (M.tC n) w w1 n' gq iO iM jv p p1 p2 p3 p4 some:=rfl
def M.ajn(n:Nat):M.FT (n+1)=λw w1 i p p1 p2 p3 p4=>M.iy (M.IB n) (M.FQ n) (M.tC n) (M.Ap n) (M.N8 n) w w1 i p p1 p2 p3 p4 some:=rfl
def M.iq w w1 i p p1 p2 p3 p4:=lim λn=>M.tC n w w1 i p p1 p2 p3 p4
def M.kX w w1 kids p p1 p2 p3 p4:=lim λn=>M.Ap n w w1 kids p p1 p2 p3 p4
def M.D8 w w1 n' gq iO iM jv open' end':=lim λn=>M.IB n w w1 n' gq iO iM jv open' end'
def M.zT w w1 i:=lim λn=>M.FQ n w w1 i
def M.Kq w w1 n' gq iO iM jv p p1 p2 p3 p4:=lim λn=>M.N8 n w w1 n' gq iO iM jv p p1 p2 p3 p4
def M.BU w w1 i p p1 p2 p3 p4:=lim λn=>M.FT n w w1 i p p1 p2 p3 p4
def C.mJ:∀n,(S.iq.ok X0 λx=>bJ (M.tC n x.1.1.1 x.1.1.2.1 x.1.2.1) x.1.2.2.1)/\(S.kX.ok X0 λx=>bJ (M.Ap n x.1.1.1 x.1.1.2.1 x.1.2.1) x.1.2.2.1)/\(S.D8.ok X0 λx=>bJ (M.IB n x.1.1.1 x.1.1.2.1) x.1.2.1 x.1.2.2.1 x.1.va.1)/\(S.zT.ok X0 λx=>M.FQ n x.1.1.1 x.1.1.2.1 x.1.2.1)/\(S.Kq.ok X0 λx=>bJ (bJ (M.N8 n x.1.1.1 x.1.1.2.1) x.1.2.1) x.1.2.2.1)/\(S.BU.ok X0 λx=>bJ (M.FT n x.1.1.1 x.1.1.2.1 x.1.2.1) x.1.2.2.1)
 |0=>⟨dQ.zero,dQ.zero,dQ.zero,dQ.zero,dQ.zero,dQ.zero⟩
 |n+1=>have h:=C.mJ n;⟨C.ali h.2.2.2.2.2,C.agG h.1,C.aeK h.2.1,C.adG h.2.2.2.2.2,C.ajl h.1,C.agN h.2.2.1 h.2.2.2.1 h.1 h.2.1 h.2.2.2.2.1⟩
def C.iq:S.iq.ok X0 λx=>bJ (M.iq x.1.1.1 x.1.1.2.1 x.1.2.1) x.1.2.2.1:=dQ.lim λn=>(C.mJ n).1
def M.alk{n:Nat}{w:au}{w1:Bool}{i p:Int}{p1 p2 p3 p4:Bool}{r:au}(h:M.tC n w w1 i p p1 p2 p3 p4=some r):M.iq w w1 i p p1 p2 p3 p4=some r:=dQ.zL (λn=>(C.mJ n).1) (by intro a b h;simp[S.iq,rq,sg] at h;first|exact h|simp[Prod.ext_iff,h]) (x:=(((w,w1,()),i,(p,p1,p2,p3,p4,()),()),())) h
def C.kX:S.kX.ok X0 λx=>bJ (M.kX x.1.1.1 x.1.1.2.1 x.1.2.1) x.1.2.2.1:=dQ.lim λn=>(C.mJ n).2.1
def M.agQ{n:Nat}{w:au}{w1:Bool}{kids:au}{p:Int}{p1 p2 p3 p4:Bool}{r:au}(h:M.Ap n w w1 kids p p1 p2 p3 p4=some r):M.kX w w1 kids p p1 p2 p3 p4=some r:=dQ.zL (λn=>(C.mJ n).2.1) (by intro a b h;simp[S.kX,rq,sg] at h;first|exact h|simp[Prod.ext_iff,h]) (x:=(((w,w1,()),kids,(p,p1,p2,p3,p4,()),()),())) h
def C.D8:S.D8.ok X0 λx=>bJ (M.D8 x.1.1.1 x.1.1.2.1) x.1.2.1 x.1.2.2.1 x.1.va.1:=dQ.lim λn=>(C.mJ n).2.2.1
def C.zT:S.zT.ok X0 λx=>M.zT x.1.1.1 x.1.1.2.1 x.1.2.1:=dQ.lim λn=>(C.mJ n).2.2.2.1
def C.Kq:S.Kq.ok X0 λx=>bJ (bJ (M.Kq x.1.1.1 x.1.1.2.1) x.1.2.1) x.1.2.2.1:=dQ.lim λn=>(C.mJ n).2.2.2.2.1
def C.BU:S.BU.ok X0 λx=>bJ (M.BU x.1.1.1 x.1.1.2.1 x.1.2.1) x.1.2.2.1:=dQ.lim λn=>(C.mJ n).2.2.2.2.2
abbrev M.yx(U9 abA:au)(adJ:Int)(Si:au)(k':Int)(aC:zaa)(x':au)(kR:Bool)(kn:Int×au->Option R):=cond (((U9.length+[[D.sl true 4 abA]].length) * 24).ble 140737488355328) (cond ((U9.length+[[D.sl true 4 abA]].length).ble 140737488355328) (cond (adJ==33) ((idx Si k').bind λf=>(bM .i64 f 0).bind λe=>(aC x' kR e).bind λb=>cond ((((U9++[[D.sl true 4 abA]]).length+[[D.sl true 4 b]].length) * 24).ble 140737488355328) (cond (((U9++[[D.sl true 4 abA]]).length+[[D.sl true 4 b]].length).ble 140737488355328) (kn (i64.wrap (k'+1),U9++[[D.sl true 4 abA]]++[[D.sl true 4 b]])) none) none) ((idx Si k').bind λd=>(bM .i64 d 0).bind λg=>M.jW.bind λa=>(M.iq x' kR g a.1 a.2.1 a.2.2.1 a.2.2.2.1 a.2.2.2.2).bind λc=>cond ((((U9++[[D.sl true 4 abA]]).length+[[D.sl true 4 c]].length) * 24).ble 140737488355328) (cond (((U9++[[D.sl true 4 abA]]).length+[[D.sl true 4 c]].length).ble 140737488355328) (kn (i64.wrap (k'+1),U9++[[D.sl true 4 abA]]++[[D.sl true 4 c]])) none) none)) none) none
abbrev M.yA(k':Int)(U9:au)(adJ:Int)(Si:au)(aC:zaa)(x':au)(kR:Bool)(kn:Int×au->Option R):=cond (decide (k'>0)) ((M.aI [44,32]).bind λh=>M.yx U9 h adJ Si k' aC x' kR kn) (cond (adJ==33) ((idx Si k').bind λd=>(bM .i64 d 0).bind λe=>(aC x' kR e).bind λc=>cond (((U9.length+[[D.sl true 4 c]].length) * 24).ble 140737488355328) (cond ((U9.length+[[D.sl true 4 c]].length).ble 140737488355328) (kn (i64.wrap (k'+1),U9++[[D.sl true 4 c]])) none) none) ((idx Si k').bind λf=>(bM .i64 f 0).bind λg=>M.jW.bind λa=>(M.iq x' kR g a.1 a.2.1 a.2.2.1 a.2.2.2.1 a.2.2.2.2).bind λb=>cond (((U9.length+[[D.sl true 4 b]].length) * 24).ble 140737488355328) (cond ((U9.length+[[D.sl true 4 b]].length).ble 140737488355328) (kn (i64.wrap (k'+1),U9++[[D.sl true 4 b]])) none) none))
def M.Aq(aC:zaa)(x':au)(kR:Bool)(mY rP:Int)(sD P7:aA)(Si:au)(s:Int×au)(kn:Int×au->Option R)(ke:Int×au->Option R):Option R:=match s with
 |(k',U9)=>bif decide (k'<(↑Si.length:Int)) then((idx Si k').bind λe=>(bM .i64 e 0).bind λb=>(idx x' b).bind λc=>(bM .i64 c 0).bind λa=>bif decide (k'>0) then(bif a==33 then((M.aI [32]).bind λd=>M.yx U9 d a Si k' aC x' kR kn) else M.yA k' U9 a Si aC x' kR kn) else M.yA k' U9 a Si aC x' kR kn) else ke (k',U9)
def M.H7 aC x' kR mY rP sD P7 Si s:=M.Aq aC x' kR mY rP sD P7 Si s (λs=>some (Sum.inl s)) λt=>some (Sum.inr t)
def M.MJ aC x' kR mY rP sD P7 Si s:=dU (M.H7 aC x' kR mY rP sD P7 Si) s
def F.MJ{aC:zaa}(jQ:S.nD.ok X0 λx=>aC x.1.1.1 x.1.1.2.1 x.1.2.1):LE X0 71:=le 3 (Gj [bH 2 (pP 300000 0),bH 3 (pP 300001 0),bH 5 (pO 300002 0),bH 6 pI] [bH 300000 zbh,bH 300001 (cB 34 zaX),bH 300002 zbf]) (λx=>(x.1.va.1,x.va.1)) (λx s=>(((),(),(),s.1,()),((x.2.1.1,x.2.1.2.1,()),(x.2.2.1.1,x.2.2.1.2.1,x.2.2.1.2.2.1,x.2.2.1.va.1,x.2.2.1.va.2.1,()),s.2,()))) (λx=> .leaf (Int×au) (λt=>(Ex.exit 0,⟨[(2,V.ptr 300000 0),(3,V.ptr 300001 0),(5,V.own 300002 0),(6,iQ t.1),(13,uX false)],[(300000,Cell.box 64 [F9 5 x.2.1.1,uX x.2.1.2.1]),(300001,Cell.box 34 [iQ x.2.2.1.1,iQ x.2.2.1.2.1,yG x.2.2.1.2.2.1,yG x.2.2.1.va.1,F9 1 x.2.2.1.va.2.1]),(300002,Cell.arr false false 0 1 t.2)]⟩))) (λx=>M.Aq aC x.2.1.1 x.2.1.2.1 x.2.2.1.1 x.2.2.1.2.1 x.2.2.1.2.2.1 x.2.2.1.va.1 x.2.2.1.va.2.1) [fe C.aI,fe jQ,fe C.jW,fe C.iq] [] (by rintro _ _ ⟨_,_⟩ _ _<;>unfold M.Aq M.yA M.yx<;>exact zbn)
def M.xX(aC:zaa)(w:au)(w1:Bool)(n' gq:Int)(iO iM:aA)(jv:au)(k:au->Option R):=(M.MJ aC w w1 n' gq iO iM jv (0,[])).bind λb=>(M.aN 6 0 (aG b.2)).bind λa=>cond ([[D.sl true 4 a]].all bn) (k a) none
def C.aeR{aC:zaa}(jQ:S.nD.ok X0 λx=>aC x.1.1.1 x.1.1.2.1 x.1.2.1):S.Eb.ok X0 λx=>bJ (M.xX aC x.1.1.1 x.1.1.2.1) x.1.2.1 some:=fnS (λx=>M.xX aC x.1.1.1 x.1.1.2.1 x.1.2.1.1 x.1.2.1.2.1 x.1.2.1.2.2.1 x.1.2.1.va.1 x.1.2.1.va.2.1) [fe C.aN] [F.MJ jQ] (by intros;unfold M.xX;exact zbn)
end
noncomputable section
variable {R:Type}
def M.Dn(aC:zaa)(m:Int)(x':au)(kR:Bool)(mY rP:Int)(sD P7:aA)(Si:au)(s:aA×Int)(kn:aA×Int->Option R)(ke:aA×Int->Option R):Option R:=match s with
 |(s',k')=>bif decide (k'<m) then(bif decide (k'>0) then(bif(s'.length+2).ble 9223372036854775807 then((idx Si k').bind λg=>(bM .i64 g 0).bind λh=>(idx x' h).bind λf=>(cStr f 2).bind λb=>bif((s'++[44,32]).length+b.length).ble 9223372036854775807 then(kn (s'++[44,32]++b,i64.wrap (k'+1))) else none) else none) else (idx Si k').bind λe=>(bM .i64 e 0).bind λc=>(idx x' c).bind λd=>(cStr d 2).bind λa=>bif(s'.length+a.length).ble 9223372036854775807 then(kn (s'++a,i64.wrap (k'+1))) else none) else ke (s',k')
def M.JE aC m x' kR mY rP sD P7 Si s:=M.Dn aC m x' kR mY rP sD P7 Si s (λs=>some (Sum.inl s)) λt=>some (Sum.inr t)
def M.O4 aC m x' kR mY rP sD P7 Si s:=dU (M.JE aC m x' kR mY rP sD P7 Si) s
def F.O4{aC:zaa}(jQ:S.nD.ok X0 λx=>aC x.1.1.1 x.1.1.2.1 x.1.2.1):LE X0 72:=le 4 (Gj [bH 2 (pP 300000 0),bH 3 (pP 300001 0),bH 5 pS,bH 6 pI,bH 7 pI] [bH 300000 zbh,bH 300001 (cB 34 zaX)]) (λx=>(x.1.2.2.1,x.1.va.2.1)) (λx s=>(((),(),s.1,x.1.va.1,s.2,()),((x.2.1.1,x.2.1.2.1,()),(x.2.2.1.1,x.2.2.1.2.1,x.2.2.1.2.2.1,x.2.2.1.va.1,x.2.2.1.va.2.1,()),()))) (λx=> .leaf (aA×Int) (λt=>(Ex.exit 0,⟨[(2,V.ptr 300000 0),(3,V.ptr 300001 0),(5,yG t.1),(6,iQ x.1.va.1),(7,iQ t.2),(18,uX false)],[(300000,Cell.box 64 [F9 5 x.2.1.1,uX x.2.1.2.1]),(300001,Cell.box 34 [iQ x.2.2.1.1,iQ x.2.2.1.2.1,yG x.2.2.1.2.2.1,yG x.2.2.1.va.1,F9 1 x.2.2.1.va.2.1])]⟩))) (λx=>M.Dn aC x.1.va.1 x.2.1.1 x.2.1.2.1 x.2.2.1.1 x.2.2.1.2.1 x.2.2.1.2.2.1 x.2.2.1.va.1 x.2.2.1.va.2.1) [] [] (by rintro _ _ ⟨_,_⟩ _ _<;>unfold M.Dn<;>exact zbn)
def M.Ar(aC:zaa)(w:au)(w1:Bool)(n' gq:Int)(iO iM:aA)(jv:au)(k:au->Option R):=cond ((9+iO.length).ble 9223372036854775807) (cond ((([102,117,110,99,116,105,111,110,32]++iO).length+1).ble 9223372036854775807) ((M.O4 aC (i64.wrap ((↑jv.length:Int) - 1)) w w1 n' gq iO iM jv ([102,117,110,99,116,105,111,110,32]++iO++[40],0)).bind λa=>cond ((a.1.length+2).ble 9223372036854775807) ((M.aI (a.1++[41,32])).bind λc=>(idx jv (i64.wrap ((↑jv.length:Int) - 1))).bind λf=>(bM .i64 f 0).bind λe=>(aC w w1 e).bind λd=>(M.aN 6 0 (aG [[D.sl true 4 c],[D.sl true 4 d]])).bind λb=>cond ([[D.sl true 4 b]].all bn) (k b) none) none) none) none
def C.agR{aC:zaa}(jQ:S.nD.ok X0 λx=>aC x.1.1.1 x.1.1.2.1 x.1.2.1):S.GY.ok X0 λx=>bJ (M.Ar aC x.1.1.1 x.1.1.2.1) x.1.2.1 some:=fnS (λx=>M.Ar aC x.1.1.1 x.1.1.2.1 x.1.2.1.1 x.1.2.1.2.1 x.1.2.1.2.2.1 x.1.2.1.va.1 x.1.2.1.va.2.1) [fe C.aI,fe jQ,fe C.aN] [F.O4 jQ] (by intros;unfold M.Ar;exact zbn)
abbrev M.NG(iM:aA)(jv w:au)(w1:Bool)(Zh:au)(k:au->Option R):=cond (!iM==[]) (cond ((1+iM.length).ble 9223372036854775807) (cond ((([32]++iM).length+1).ble 9223372036854775807) ((M.aI ([32]++iM++[32])).bind λf=>(idx jv (i64.wrap ((↑jv.length:Int) - 1))).bind λc=>(bM .i64 c 0).bind λd=>(M.iq w w1 d 9 false false false false).bind λe=>(M.aN 6 0 (aG ([[D.sl true 4 Zh]]++[[D.sl true 4 f],[D.sl true 4 e]]))).bind λb=>cond ([[D.sl true 4 b]].all bn) (k b) none) none) none) ((M.aN 6 0 (aG [[D.sl true 4 Zh]])).bind λa=>cond ([[D.sl true 4 a]].all bn) (k a) none)
abbrev M.NH(iM:aA)(jv w:au)(w1:Bool)(Zh auP auQ:au)(k:au->Option R):=cond (!iM==[]) (cond ((1+iM.length).ble 9223372036854775807) (cond ((([32]++iM).length+1).ble 9223372036854775807) ((M.aI ([32]++iM++[32])).bind λf=>(idx jv (i64.wrap ((↑jv.length:Int) - 1))).bind λc=>(bM .i64 c 0).bind λd=>(M.iq w w1 d 9 false false false false).bind λe=>(M.aN 6 0 (aG ([[D.sl true 4 Zh]]++[[D.sl true 4 auP],[D.sl true 4 auQ]]++[[D.sl true 4 f],[D.sl true 4 e]]))).bind λb=>cond ([[D.sl true 4 b]].all bn) (k b) none) none) none) ((M.aN 6 0 (aG ([[D.sl true 4 Zh]]++[[D.sl true 4 auP],[D.sl true 4 auQ]]))).bind λa=>cond ([[D.sl true 4 a]].all bn) (k a) none)
abbrev M.MK(iM:aA)(jv w:au)(w1:Bool)(Zh:au)(k:au->Option R):=cond (!iM==[]) ((cut jv 0 (i64.wrap ((↑jv.length:Int) - 1))).bind λa=>cond (decide ((↑a.length:Int)>0)) ((M.aI [32]).bind λc=>(M.kX w w1 a 1 false false true false).bind λb=>M.NH iM jv w w1 Zh c b k) (M.NG iM jv w w1 Zh k)) (cond (decide ((↑jv.length:Int)>0)) ((M.aI [32]).bind λd=>(M.kX w w1 jv 1 false false true false).bind λe=>M.NH iM jv w w1 Zh d e k) (M.NG iM jv w w1 Zh k))
def M.O5(w:au)(w1:Bool)(n' gq:Int)(iO iM:aA)(jv:au)(k:au->Option R):=cond (gq==1) ((M.aI [112,114,105,110,116,102]).bind λb=>M.MK iM jv w w1 b k) ((M.aI [112,114,105,110,116]).bind λa=>M.MK iM jv w w1 a k)
def M.zl w w1 n' gq iO iM jv:=M.O5 w w1 n' gq iO iM jv some
def C.zl:S.zl.ok X0 λx=>bJ (M.zl x.1.1.1 x.1.1.2.1) x.1.2.1:=fnS (λx=>M.O5 x.1.1.1 x.1.1.2.1 x.1.2.1.1 x.1.2.1.2.1 x.1.2.1.2.2.1 x.1.2.1.va.1 x.1.2.1.va.2.1) [fe C.aI,fe C.kX,fe C.iq,fe C.aN] [] (by intros;unfold M.O5 M.MK;exact zbn)
abbrev M.Rh(w:au)(w1:Bool)(i:Int)(k:au->Option R):=(idx w i).bind λg=>(bM .i64 g 0).bind λd=>cond (d==16) ((M.aI []).bind λf=>k f) ((M.aI [32]).bind λe=>M.jW.bind λa=>(M.iq w w1 i a.1 a.2.1 a.2.2.1 a.2.2.2.1 a.2.2.2.2).bind λc=>(M.aN 6 0 (aG [[D.sl true 4 e],[D.sl true 4 c]])).bind λb=>cond ([[D.sl true 4 b]].all bn) (k b) none)
def M.sS w w1 i:=M.Rh w w1 i some
def C.sS:=fTa S.sS (λx=>M.Rh x.1.1.1 x.1.1.2.1 x.1.2.1) [fe C.aI,fe C.jW,fe C.iq,fe C.aN]
abbrev M.Ri(w:au)(w1:Bool)(s':aA)(kids:au)(k:au->Option R):=cond ((↑kids.length:Int)==0) ((M.aI s').bind λd=>k d) ((M.aI s').bind λf=>(idx kids 0).bind λb=>(bM .i64 b 0).bind λe=>(M.sS w w1 e).bind λc=>(M.aN 6 0 (aG [[D.sl true 4 f],[D.sl true 4 c]])).bind λa=>cond ([[D.sl true 4 a]].all bn) (k a) none)
def M.yO w w1 s' kids:=M.Ri w w1 s' kids some
def C.yO:=fTa S.yO (λx=>M.Ri x.1.1.1 x.1.1.2.1 x.1.2.1 x.1.2.2.1) [fe C.aI,fe C.sS,fe C.aN]
def M.H8(aC:zaa)(w:au)(w1:Bool)(n' gq:Int)(iO iM:aA)(jv:au)(k:au->Option R):=(M.aI [105,102,32,40]).bind λe=>(idx jv 0).bind λj=>(bM .i64 j 0).bind λi=>M.jW.bind λa=>(M.iq w w1 i a.1 a.2.1 a.2.2.1 a.2.2.2.1 a.2.2.2.2).bind λo=>(M.aI [41,32]).bind λd=>(idx jv 1).bind λp=>(bM .i64 p 0).bind λg=>(aC w w1 g).bind λl=>(M.aN 6 0 (aG [[D.sl true 4 e],[D.sl true 4 o],[D.sl true 4 d],[D.sl true 4 l]])).bind λb=>cond ([[D.sl true 4 b]].all bn) (cond ((↑jv.length:Int)==2) (k b) ((M.aI [32,101,108,115,101,32]).bind λn=>(idx jv 2).bind λm=>(bM .i64 m 0).bind λf=>(aC w w1 f).bind λh=>(M.aN 6 0 (aG [[D.sl true 4 b],[D.sl true 4 n],[D.sl true 4 h]])).bind λc=>cond ([[D.sl true 4 c]].all bn) (k c) none)) none
def C.alm{aC:zaa}(jQ:S.nD.ok X0 λx=>aC x.1.1.1 x.1.1.2.1 x.1.2.1):S.PD.ok X0 λx=>bJ (M.H8 aC x.1.1.1 x.1.1.2.1) x.1.2.1 some:=fnS (λx=>M.H8 aC x.1.1.1 x.1.1.2.1 x.1.2.1.1 x.1.2.1.2.1 x.1.2.1.2.2.1 x.1.2.1.va.1 x.1.2.1.va.2.1) [fe C.aI,fe C.jW,fe C.iq,fe jQ,fe C.aN] [] (by intros;unfold M.H8;exact zbn)
abbrev M.KF(jv w:au)(w1:Bool)(aC:zaa)(aAE:au)(k:au->Option R):=(M.aI [102,111,114,32,40]).bind λb=>(M.aI [59]).bind λo=>(idx jv 1).bind λi=>(bM .i64 i 0).bind λf=>(M.sS w w1 f).bind λd=>(M.aI [59]).bind λj=>(idx jv 2).bind λl=>(bM .i64 l 0).bind λn=>(M.sS w w1 n).bind λc=>(M.aI [41,32]).bind λm=>(idx jv 3).bind λg=>(bM .i64 g 0).bind λh=>(aC w w1 h).bind λe=>(M.aN 6 0 (aG [[D.sl true 4 b],[D.sl true 4 aAE],[D.sl true 4 o],[D.sl true 4 d],[D.sl true 4 j],[D.sl true 4 c],[D.sl true 4 m],[D.sl true 4 e]])).bind λa=>cond ([[D.sl true 4 a]].all bn) (k a) none
def M.Ei(aC:zaa)(w:au)(w1:Bool)(n' gq:Int)(iO iM:aA)(jv:au)(k:au->Option R):=(M.aI []).bind λd=>(idx jv 0).bind λa=>(bM .i64 a 0).bind λh=>(idx w h).bind λc=>(bM .i64 c 0).bind λb=>cond (b !=16) ((idx jv 0).bind λg=>(bM .i64 g 0).bind λf=>(M.iq w w1 f 1 false true false false).bind λe=>M.KF jv w w1 aC e k) (M.KF jv w w1 aC d k)
def C.ajo{aC:zaa}(jQ:S.nD.ok X0 λx=>aC x.1.1.1 x.1.1.2.1 x.1.2.1):S.Kr.ok X0 λx=>bJ (M.Ei aC x.1.1.1 x.1.1.2.1) x.1.2.1 some:=fnS (λx=>M.Ei aC x.1.1.1 x.1.1.2.1 x.1.2.1.1 x.1.2.1.2.1 x.1.2.1.2.2.1 x.1.2.1.va.1 x.1.2.1.va.2.1) [fe C.aI,fe C.iq,fe C.sS,fe jQ,fe C.aN] [] (by intros;unfold M.Ei M.KF;exact zbn)
def M.fU(KG:zaf)(aC:zaa)(IC:zaf)(w:au)(w1:Bool)(i:Int)(k:au->Option R):=(idx w i).bind λW=>nC 1 W λUA aAF Xq amv FU=>(cond (UA==20) ((idx FU 0).bind λP=>(bM .i64 P 0).bind λC=>M.jW.bind λa=>(M.iq w w1 C a.1 a.2.1 a.2.2.1 a.2.2.2.1 a.2.2.2.2).bind λT=>k T) (cond (UA==21) ((M.zl w w1 UA aAF Xq amv FU).bind λN=>k N) (cond (UA==22) ((M.aI [110,101,120,116]).bind λn=>k n) (cond (UA==23) ((M.yO w w1 [101,120,105,116] FU).bind λG=>k G) (cond (UA==24) ((M.yO w w1 [114,101,116,117,114,110] FU).bind λK=>k K) (cond (UA==25) ((M.aI [98,114,101,97,107]).bind λA=>k A) (cond (UA==26) ((M.aI [99,111,110,116,105,110,117,101]).bind λO=>k O) (cond (UA==27) (cond ((↑FU.length:Int)==0) (cond ((7+Xq.length).ble 9223372036854775807) ((M.aI ([100,101,108,101,116,101,32]++Xq)).bind λZ=>k Z) none) (cond ((7+Xq.length).ble 9223372036854775807) (cond ((([100,101,108,101,116,101,32]++Xq).length+1).ble 9223372036854775807) ((M.aI ([100,101,108,101,116,101,32]++Xq++[91])).bind λl=>M.jW.bind λb=>(M.kX w w1 FU b.1 b.2.1 b.2.2.1 b.2.2.2.1 b.2.2.2.2).bind λs=>(M.aI [93]).bind λaV2=>(M.aN 6 0 (aG [[D.sl true 4 l],[D.sl true 4 s],[D.sl true 4 aV2]])).bind λf=>cond ([[D.sl true 4 f]].all bn) (k f) none) none) none)) (cond (UA==28) ((KG w w1 UA aAF Xq amv FU).bind λL=>k L) (cond (UA==29) ((M.aI [119,104,105,108,101,32,40]).bind λI=>(idx FU 0).bind λt=>(bM .i64 t 0).bind λQ=>M.jW.bind λd=>(M.iq w w1 Q d.1 d.2.1 d.2.2.1 d.2.2.2.1 d.2.2.2.2).bind λr=>(M.aI [41,32]).bind λV=>(idx FU 1).bind λz=>(bM .i64 z 0).bind λo=>(aC w w1 o).bind λp=>(M.aN 6 0 (aG [[D.sl true 4 I],[D.sl true 4 r],[D.sl true 4 V],[D.sl true 4 p]])).bind λe=>cond ([[D.sl true 4 e]].all bn) (k e) none) (cond (UA==30) ((M.aI [100,111,32]).bind λJ=>(idx FU 0).bind λm=>(bM .i64 m 0).bind λY=>(aC w w1 Y).bind λE=>(M.aI [32,119,104,105,108,101,32,40]).bind λy=>(idx FU 1).bind λj=>(bM .i64 j 0).bind λu=>M.jW.bind λc=>(M.iq w w1 u c.1 c.2.1 c.2.2.1 c.2.2.2.1 c.2.2.2.2).bind λB=>(M.aI [41]).bind λH=>(M.aN 6 0 (aG [[D.sl true 4 J],[D.sl true 4 E],[D.sl true 4 y],[D.sl true 4 B],[D.sl true 4 H]])).bind λg=>cond ([[D.sl true 4 g]].all bn) (k g) none) (cond (UA==31) ((IC w w1 UA aAF Xq amv FU).bind λX=>k X) (cond (UA==32) (cond ((5+Xq.length).ble 9223372036854775807) (cond ((([102,111,114,32,40]++Xq).length+4).ble 9223372036854775807) (cond ((([102,111,114,32,40]++Xq++[32,105,110,32]).length+amv.length).ble 9223372036854775807) (cond ((([102,111,114,32,40]++Xq++[32,105,110,32]++amv).length+2).ble 9223372036854775807) ((M.aI ([102,111,114,32,40]++Xq++[32,105,110,32]++amv++[41,32])).bind λv=>(idx FU 0).bind λU=>(bM .i64 U 0).bind λx=>(aC w w1 x).bind λq=>(M.aN 6 0 (aG [[D.sl true 4 v],[D.sl true 4 q]])).bind λh=>cond ([[D.sl true 4 h]].all bn) (k h) none) none) none) none) none) (cond (UA==33) ((aC w w1 i).bind λF=>k F) ((M.aI Xq).bind λaWm=>k aWm)))))))))))))))
def C.agS{KG:zaf}{aC:zaa}{IC:zaf}(aof:S.PD.ok X0 λx=>bJ (KG x.1.1.1 x.1.1.2.1) x.1.2.1)(jQ:S.nD.ok X0 λx=>aC x.1.1.1 x.1.1.2.1 x.1.2.1)(aln:S.Kr.ok X0 λx=>bJ (IC x.1.1.1 x.1.1.2.1) x.1.2.1):S.GZ.ok X0 λx=>M.fU KG aC IC x.1.1.1 x.1.1.2.1 x.1.2.1 some:=fnS (λx=>M.fU KG aC IC x.1.1.1 x.1.1.2.1 x.1.2.1) [fe C.jW,fe C.iq,fe C.zl,fe C.aI,fe C.yO,fe C.kX,fe C.aN,fe aof,fe jQ,fe aln] [] (by intros;simp only[M.fU,nC];exact zbn)
def M.tH(aC:zaa)(xG:zaf)(FV:zaf)(FW:zaa)(w:au)(w1:Bool)(i:Int)(k:au->Option R):=(idx w i).bind λd=>nC 1 d λafO aAG aAH aAI aan=>(cond (afO==40) ((M.aI [66,69,71,73,78,32]).bind λm=>(idx aan 0).bind λo=>(bM .i64 o 0).bind λf=>(aC w w1 f).bind λp=>(M.aN 6 0 (aG [[D.sl true 4 m],[D.sl true 4 p]])).bind λb=>cond ([[D.sl true 4 b]].all bn) (k b) none) (cond (afO==41) ((M.aI [69,78,68,32]).bind λj=>(idx aan 0).bind λc=>(bM .i64 c 0).bind λe=>(aC w w1 e).bind λq=>(M.aN 6 0 (aG [[D.sl true 4 j],[D.sl true 4 q]])).bind λa=>cond ([[D.sl true 4 a]].all bn) (k a) none) (cond (afO==42) ((xG w w1 afO aAG aAH aAI aan).bind λn=>k n) (cond (afO==43) ((xG w w1 afO aAG aAH aAI aan).bind λg=>k g) (cond (afO==44) ((FV w w1 afO aAG aAH aAI aan).bind λh=>k h) ((FW w w1 i).bind λl=>k l))))))
def C.agT{aC:zaa}{xG:zaf}{FV:zaf}{FW:zaa}(jQ:S.nD.ok X0 λx=>aC x.1.1.1 x.1.1.2.1 x.1.2.1)(agU:S.Eb.ok X0 λx=>bJ (xG x.1.1.1 x.1.1.2.1) x.1.2.1)(ajp:S.GY.ok X0 λx=>bJ (FV x.1.1.1 x.1.1.2.1) x.1.2.1)(ajq:S.GZ.ok X0 λx=>FW x.1.1.1 x.1.1.2.1 x.1.2.1):S.oz.ok X0 λx=>M.tH aC xG FV FW x.1.1.1 x.1.1.2.1 x.1.2.1 some:=fnS (λx=>M.tH aC xG FV FW x.1.1.1 x.1.1.2.1 x.1.2.1) [fe C.aI,fe jQ,fe C.aN,fe agU,fe ajp,fe ajq] [] (by intros;simp only[M.tH,nC];exact zbn)
def M.iU:Nat->(zaa)×(zah)×(zaa)×(zaf)×(zaf)×(zaf)×(zaf)×(zaa):=Nat.rec (λ_ _ _=>none,λ_ _ _=>none,λ_ _ _=>none,λ_ _ _ _ _ _ _=>none,λ_ _ _ _ _ _ _=>none,λ_ _ _ _ _ _ _=>none,λ_ _ _ _ _ _ _=>none,λ_ _ _=>none) λ_ qz=>(λw w1 i=>M.tH qz.2.2.1 qz.2.2.2.1 qz.2.2.2.2.1 qz.2.2.2.2.2.2.2 w w1 i some,λw w1 kids=>M.FD qz.1 w w1 kids some,λw w1 i=>M.Bj qz.2.1 w w1 i some,λw w1 n' gq iO iM jv=>M.xX qz.2.2.1 w w1 n' gq iO iM jv some,λw w1 n' gq iO iM jv=>M.Ar qz.2.2.1 w w1 n' gq iO iM jv some,λw w1 n' gq iO iM jv=>M.H8 qz.2.2.1 w w1 n' gq iO iM jv some,λw w1 n' gq iO iM jv=>M.Ei qz.2.2.1 w w1 n' gq iO iM jv some,λw w1 i=>M.fU qz.2.2.2.2.2.1 qz.2.2.1 qz.2.2.2.2.2.2.1 w w1 i some)
def M.qG n:=(M.iU n).1
def M.FX n:=(M.iU n).2.1
def M.iE n:=(M.iU n).2.2.1
def M.O6 n:=(M.iU n).2.2.2.1
def M.Rj n:=(M.iU n).2.2.2.2.1
def M.Vz n:=(M.iU n).2.2.2.2.2.1
def M.Uj n:=(M.iU n).2.2.2.2.2.2.1
def M.KH n:=(M.iU n).2.2.2.2.2.2.2
def M.Rk(n:Nat):M.qG (n+1)=λw w1 i=>M.tH (M.iE n) (M.O6 n) (M.Rj n) (M.KH n) w w1 i some:=rfl
def M.ajr(n:Nat):M.FX (n+1)=λw w1 kids=>M.FD (M.qG n) w w1 kids some:=rfl
def M.agV(n:Nat):M.iE (n+1)=λw w1 i=>M.Bj (M.FX n) w w1 i some:=rfl
def M.agW(n:Nat):M.O6 (n+1)=λw w1 n' gq iO iM jv=>M.xX (M.iE n) w w1 n' gq iO iM jv some:=rfl
def M.ajs(n:Nat):M.Rj (n+1)=λw w1 n' gq iO iM jv=>M.Ar (M.iE n) w w1 n' gq iO iM jv some:=rfl
def M.adK(n:Nat):M.Vz (n+1)=λw w1 n' gq iO iM jv=>M.H8 (M.iE n) w w1 n' gq iO iM jv some:=rfl
def M.abB(n:Nat):M.Uj (n+1)=λw w1 n' gq iO iM jv=>M.Ei (M.iE n) w w1 n' gq iO iM jv some:=rfl
def M.ajt(n:Nat):M.KH (n+1)=λw w1 i=>M.fU (M.Vz n) (M.iE n) (M.Uj n) w w1 i some:=rfl
def M.oz w w1 i:=lim λn=>M.qG n w w1 i
def M.GX w w1 kids:=lim λn=>M.FX n w w1 kids
def M.nD w w1 i:=lim λn=>M.iE n w w1 i
def M.Eb w w1 n' gq iO iM jv:=lim λn=>M.O6 n w w1 n' gq iO iM jv
def M.GY w w1 n' gq iO iM jv:=lim λn=>M.Rj n w w1 n' gq iO iM jv
def M.PD w w1 n' gq iO iM jv:=lim λn=>M.Vz n w w1 n' gq iO iM jv
def M.Kr w w1 n' gq iO iM jv:=lim λn=>M.Uj n w w1 n' gq iO iM jv
def M.GZ w w1 i:=lim λn=>M.KH n w w1 i
def C.iU:∀n,(S.oz.ok X0 λx=>M.qG n x.1.1.1 x.1.1.2.1 x.1.2.1)/\(S.GX.ok X0 λx=>M.FX n x.1.1.1 x.1.1.2.1 x.1.2.1)/\(S.nD.ok X0 λx=>M.iE n x.1.1.1 x.1.1.2.1 x.1.2.1)/\(S.Eb.ok X0 λx=>bJ (M.O6 n x.1.1.1 x.1.1.2.1) x.1.2.1)/\(S.GY.ok X0 λx=>bJ (M.Rj n x.1.1.1 x.1.1.2.1) x.1.2.1)/\(S.PD.ok X0 λx=>bJ (M.Vz n x.1.1.1 x.1.1.2.1) x.1.2.1)/\(S.Kr.ok X0 λx=>bJ (M.Uj n x.1.1.1 x.1.1.2.1) x.1.2.1)/\(S.GZ.ok X0 λx=>M.KH n x.1.1.1 x.1.1.2.1 x.1.2.1)
 |0=>⟨dQ.zero,dQ.zero,dQ.zero,dQ.zero,dQ.zero,dQ.zero,dQ.zero,dQ.zero⟩
 |n+1=>have h:=C.iU n;⟨C.agT h.2.2.1 h.2.2.2.1 h.2.2.2.2.1 h.2.2.2.2.2.2.2,C.agF h.1,C.aeJ h.2.1,C.aeR h.2.2.1,C.agR h.2.2.1,C.alm h.2.2.1,C.ajo h.2.2.1,C.agS h.2.2.2.2.2.1 h.2.2.1 h.2.2.2.2.2.2.1⟩
def C.oz:S.oz.ok X0 λx=>M.oz x.1.1.1 x.1.1.2.1 x.1.2.1:=dQ.lim λn=>(C.iU n).1
def M.agX{n:Nat}{w:au}{w1:Bool}{i:Int}{r:au}(h:M.qG n w w1 i=some r):M.oz w w1 i=some r:=dQ.zL (λn=>(C.iU n).1) (by intro a b h;simp[S.oz,rq,sg] at h;first|exact h|simp[Prod.ext_iff,h]) (x:=(((w,w1,()),i,()),())) h
def C.GX:S.GX.ok X0 λx=>M.GX x.1.1.1 x.1.1.2.1 x.1.2.1:=dQ.lim λn=>(C.iU n).2.1
def C.nD:S.nD.ok X0 λx=>M.nD x.1.1.1 x.1.1.2.1 x.1.2.1:=dQ.lim λn=>(C.iU n).2.2.1
def C.Eb:S.Eb.ok X0 λx=>bJ (M.Eb x.1.1.1 x.1.1.2.1) x.1.2.1:=dQ.lim λn=>(C.iU n).2.2.2.1
def C.GY:S.GY.ok X0 λx=>bJ (M.GY x.1.1.1 x.1.1.2.1) x.1.2.1:=dQ.lim λn=>(C.iU n).2.2.2.2.1
def C.PD:S.PD.ok X0 λx=>bJ (M.PD x.1.1.1 x.1.1.2.1) x.1.2.1:=dQ.lim λn=>(C.iU n).2.2.2.2.2.1
def C.Kr:S.Kr.ok X0 λx=>bJ (M.Kr x.1.1.1 x.1.1.2.1) x.1.2.1:=dQ.lim λn=>(C.iU n).2.2.2.2.2.2.1
def C.GZ:S.GZ.ok X0 λx=>M.GZ x.1.1.1 x.1.1.2.1 x.1.2.1:=dQ.lim λn=>(C.iU n).2.2.2.2.2.2.2
def M.xk(l x':au)(kR:Bool)(s:Int×au)(kn:Int×au->Option R)(ke:Int×au->Option R):Option R:=match s with
 |(k',mY)=>(idx l (i64.wrap ((↑l.length:Int) - 1))).bind λg=>(NP 1 g 4).bind λe=>bif decide (k'<(↑e.length:Int)) then((idx l (i64.wrap ((↑l.length:Int) - 1))).bind λa=>(NP 1 a 4).bind λh=>(idx h k').bind λb=>(bM .i64 b 0).bind λf=>(M.oz x' kR f).bind λc=>M.qN.bind λd=>jH mY [[D.sl true 4 c],[D.sl true 4 d]] 24 λi=>kn (i64.wrap (k'+1),i)) else ke (k',mY)
def M.Dp l x' kR s:=M.xk l x' kR s (λs=>some (Sum.inl s)) λt=>some (Sum.inr t)
def M.H9 l x' kR s:=dU (M.Dp l x' kR) s
def F.H9:LE X0 18:=le 6 (Gj [bH 0 (pL false 5),bH 3 (pP 300000 0),bH 4 (pO 300001 0),bH 5 pI] [bH 300000 zbh,bH 300001 zbf]) (λx=>(x.1.va.1,x.2.2.1)) (λx s=>((x.1.1,(),(),s.1,()),((x.2.1.1,x.2.1.2.1,()),s.2,()))) (λx=> .leaf (Int×au) (λt=>(Ex.exit 0,⟨[(0,F9 5 x.1.1),(3,V.ptr 300000 0),(4,V.own 300001 0),(5,iQ t.1),(22,uX false)],[(300000,Cell.box 64 [F9 5 x.2.1.1,uX x.2.1.2.1]),(300001,Cell.arr false false 0 1 t.2)]⟩))) (λx=>M.xk x.1.1 x.2.1.1 x.2.1.2.1) [fe C.oz,fe C.qN] [] (by rintro _ _ ⟨_,_⟩ _ _<;>unfold M.xk<;>exact zbn)
abbrev M.JF(l:au)(k:au->Option R):=(M.zS l).bind λc=>cond (!c) (k []) ((M.H9 l l false (0,[])).bind λb=>(M.aN 6 0 (aG b.2)).bind λa=>cond ([[D.sl true 4 a]].all bn) (k a) none)
def M.qO l:=M.JF l some
def C.qO:=fTa S.qO (λx=>M.JF x.1.1) [fe C.zS,fe C.aN] [F.H9]
abbrev M.Bq(n':Int)(iO:aA)(k:Bool->Option R)(iM:au)(gq:Int):=cond (n'==1) ((M.vV iO).bind λb=>cond b (k ((↑iM.length:Int)==0)) (k false)) (cond (n'==2) (k ((↑iM.length:Int)==0)) (cond (n'==3) (k ((↑iM.length:Int)==0)) (cond (n'==4) ((M.dF gq 0 40).bind λa=>cond a (k ((↑iM.length:Int)==1)) (k false)) (cond (n'==5) (k ((↑iM.length:Int)==1)) (k (n'==6))))))
def M.Rl(n' gq:Int)(iO:aA)(iM:au)(k:Bool->Option R):=cond (n' !=1) (cond (!iO==[]) (k false) (cond (n' !=4) (cond (gq !=0) (k false) (M.Bq n' iO k iM gq)) (M.Bq n' iO k iM gq))) (cond (n' !=4) (cond (gq !=0) (k false) (M.Bq n' iO k iM gq)) (M.Bq n' iO k iM gq))
def M.BX n' gq iO iM:=M.Rl n' gq iO iM some
def C.BX:S.BX.ok X0 λx=>zbm M.BX x.1.1:=fnS (λx=>zbm M.Rl x.1.1) [fe C.vV,fe C.dF] [] (by intros;unfold M.Rl M.Bq;exact zbn)
def M.yB(l:au)(i:Int)(x':au)(s:Int×Int)(kn:Int×Int->Option R)(ke:(Unit)⊕(Int×Int)->Option R):Option R:=match s with
 |(at',k')=>bif decide (k'>=0) then((idx l i).bind λd=>(NP 1 d 3).bind λb=>(idx b k').bind λf=>(bM .i64 f 0).bind λa=>bif a !=i64.wrap (at' - 1) then(ke (.inl ())) else bif at'==0 then(ke (.inl ())) else (idx x' (i64.wrap (at' - 1))).bind λg=>(x'[(i64.wrap (at' - 1)).toNat]?).bind λc=>(bM .i64 c 0).bind λe=>kn (e,i64.wrap (k' - 1))) else ke (.inr (at',k'))
def M.EI l i x' s:=M.yB l i x' s (λs=>some (Sum.inl s)) λt=>some (Sum.inr t)
def M.tJ l i x' s:=dU (M.EI l i x') s
def F.tJ:LE X0 103:=le 7 (Gj [bH 0 (pL false 4),bH 4 (pO 300000 0),bH 5 pI,bH 6 pI,bH 7 pI] [bH 300000 zaZ]) (λx=>(x.1.va.1,x.1.va.2.1)) (λx s=>((x.1.1,(),x.1.2.2.1,s.1,s.2,()),(x.2.1,()))) (λx=> .sum (.leaf (Unit) (λt=>(Ex.ret,⟨[(2,V.own 300000 0),(3,uX false)],[(300000,Cell.arr false true 0 1 [])]⟩))) (.leaf (Int×Int) (λt=>(Ex.exit 2,⟨[(0,F9 4 x.1.1),(4,V.own 300000 0),(5,iQ x.1.2.2.1),(6,iQ t.1),(7,iQ t.2),(24,uX false)],[(300000,Cell.arr false true 0 1 x.2.1)]⟩)))) (λx=>M.yB x.1.1 x.1.2.2.1 x.2.1) [] [] (by rintro _ _ ⟨_,_⟩ _ _<;>simp only[M.yB,nb]<;>rfl)
def M.yC(l:au)(s:Int×au)(kn:Int×au->Option R)(ke:(Unit)⊕(Int×au)->Option R):Option R:=match s with
 |(i,x')=>bif decide (i<(↑l.length:Int)) then((idx l i).bind λe=>(NP 1 e 3).bind λd=>(M.tJ l i x' (i,i64.wrap ((↑d.length:Int) - 1))).bind λc=>rO c (λg=>ke (.inl ())) λb=>letE b λa=>jH x' [[D.int .i64 a.1]] 8 λf=>kn (i64.wrap (i+1),f)) else ke (.inr (i,x'))
def M.EJ l s:=M.yC l s (λs=>some (Sum.inl s)) λt=>some (Sum.inr t)
def M.tN l s:=dU (M.EJ l) s
def F.tN:LE X0 103:=le 3 (Gj [bH 0 (pL false 4),bH 4 (pO 300000 0),bH 5 pI] [bH 300000 zaZ]) (λx=>(x.1.2.2.1,x.2.1)) (λx s=>((x.1.1,(),s.1,()),(s.2,()))) (λx=> .sum (.leaf (Unit) (λt=>(Ex.ret,⟨[(2,V.own 300000 0),(3,uX false)],[(300000,Cell.arr false true 0 1 [])]⟩))) (.leaf (Int×au) (λt=>(Ex.exit 0,⟨[(0,F9 4 x.1.1),(4,V.own 300000 0),(5,iQ t.1),(12,uX false)],[(300000,Cell.arr false true 0 1 t.2)]⟩)))) (λx=>M.yC x.1.1) [] [F.tJ] (by rintro _ _ ⟨_,_⟩ _ _<;>simp only[jH,M.yC,nb]<;>rfl)
abbrev M.ML(l:au)(k:au×Bool->Option R):=(M.tN l (0,[])).bind λb=>rO b (λd=>k ([],false)) λc=>letE c λa=>cond (ay a.2) (k (a.2,true)) none
def M.wS l:=M.ML l some
def C.wS:=fTa S.wS (λx=>M.ML x.1.1) [] [F.tN]
def M.IE(l:au)(s:Int)(kn:Int->Option R)(ke:(Unit)⊕(Int)->Option R):Option R:=match s with
 |i=>bif decide (i<(↑l.length:Int)) then((idx l i).bind λa=>(bM .i64 a 0).bind λd=>(bM .i64 a 1).bind λb=>(cStr a 2).bind λe=>(NP 1 a 3).bind λc=>(M.BX d b e c).bind λf=>bif !f then(ke (.inl ())) else kn (i64.wrap (i+1))) else ke (.inr i)
def M.O7 l s:=M.IE l s (λs=>some (Sum.inl s)) λt=>some (Sum.inr t)
def M.Uk l s:=dU (M.O7 l) s
def F.Uk:LE X0 62:=le 4 (Gj [bH 0 (pL false 4),bH 3 pI] []) (λx=>x.1.2.1) (λx s=>((x.1.1,s,()),())) (λx=> .sum (.leaf (Unit) (λt=>(Ex.ret,⟨[(2,uX false)],[]⟩))) (.leaf (Int) (λt=>(Ex.exit 0,⟨[(0,F9 4 x.1.1),(3,iQ t),(13,uX false)],[]⟩)))) (λx=>M.IE x.1.1) [fe C.BX] [] (by rintro _ _ _ _ _<;>simp only[M.IE,nb]<;>rfl)
abbrev M.Rn(l:au)(k:Bool->Option R):=(M.dF ((↑l.length:Int)) 1 4000).bind λd=>cond (!d) (k false) ((M.Uk l 0).bind λf=>rO f (λg=>k false) λc=>letE c λh=>(M.wS l).bind λa=>cond a.2 ((idx a.1 (i64.wrap ((↑l.length:Int) - 1))).bind λi=>(a.1[(i64.wrap ((↑l.length:Int) - 1)).toNat]?).bind λb=>(bM .i64 b 0).bind λe=>k (e==0)) (k false))
def M.Ec l:=M.Rn l some
def C.Ec:=fTa S.Ec (λx=>M.Rn x.1.1) [fe C.dF,fe C.wS] [F.Uk]
def M.Au(l:au)(i:Int)(x':au)(s:Bool×Int)(kn:Bool×Int->Option R)(ke:Bool×Int->Option R):Option R:=match s with
 |(is,k')=>(idx l i).bind λe=>(NP 1 e 3).bind λb=>bif decide (k'<(↑b.length:Int)) then(bif is then(kn (true,i64.wrap (k'+1))) else (idx l i).bind λf=>(NP 1 f 3).bind λg=>(idx g k').bind λc=>(bM .i64 c 0).bind λa=>(idx x' a).bind λj=>x'[a.toNat]?.bind λd=>(Sj d 0).bind λh=>kn (h,i64.wrap (k'+1))) else ke (is,k')
def M.Ia l i x' s:=M.Au l i x' s (λs=>some (Sum.inl s)) λt=>some (Sum.inr t)
def M.MN l i x' s:=dU (M.Ia l i x') s
def F.MN:LE X0 64:=le 7 (Gj [bH 0 (pL false 4),bH 3 (pO 300000 0),bH 4 pI,bH 5 pB,bH 6 pI] [bH 300000 zaZ]) (λx=>(x.1.va.1,x.1.va.2.1)) (λx s=>((x.1.1,(),x.1.2.2.1,s.1,s.2,()),(x.2.1,()))) (λx=> .leaf (Bool×Int) (λt=>(Ex.exit 2,⟨[(0,F9 4 x.1.1),(3,V.own 300000 0),(4,iQ x.1.2.2.1),(5,uX t.1),(6,iQ t.2),(27,uX false)],[(300000,Cell.arr false true 0 1 x.2.1)]⟩))) (λx=>M.Au x.1.1 x.1.2.2.1 x.2.1) [] [] (by rintro _ _ ⟨_,_⟩ _ _<;>unfold M.Au<;>exact zbn)
def M.Aw(l:au)(s:Int×au)(kn:Int×au->Option R)(ke:Int×au->Option R):Option R:=match s with
 |(i,x')=>bif decide (i<(↑l.length:Int)) then((idx l i).bind λa=>(bM .i64 a 0).bind λb=>(M.MN l i x' (b==3,0)).bind λc=>jH x' [[D.bool c.1]] 1 λd=>kn (i64.wrap (i+1),d)) else ke (i,x')
def M.Az l s:=M.Aw l s (λs=>some (Sum.inl s)) λt=>some (Sum.inr t)
def M.MO l s:=dU (M.Az l) s
def F.MO:LE X0 64:=le 3 (Gj [bH 0 (pL false 4),bH 3 (pO 300000 0),bH 4 pI] [bH 300000 zaZ]) (λx=>(x.1.2.2.1,x.2.1)) (λx s=>((x.1.1,(),s.1,()),(s.2,()))) (λx=> .leaf (Int×au) (λt=>(Ex.exit 0,⟨[(0,F9 4 x.1.1),(3,V.own 300000 0),(4,iQ t.1),(11,uX false)],[(300000,Cell.arr false true 0 1 t.2)]⟩))) (λx=>M.Aw x.1.1) [] [F.MN] (by rintro _ _ ⟨_,_⟩ _ _<;>simp only[jH,M.Aw,nb]<;>rfl)
abbrev M.O8(l:au)(k:au->Option R):=(M.MO l (0,[])).bind λa=>cond (ay a.2) (k a.2) none
def M.zn l:=M.O8 l some
def C.zn:=fTa S.zn (λx=>M.O8 x.1.1) [] [F.MO]
def M.AA(in':Int)(s:Int×au)(kn:Int×au->Option R)(ke:Int×au->Option R):Option R:=match s with
 |(k',x')=>bif decide (k'<in') then(bif((x'.length+1) * 1).ble 140737488355328 then(bif(x'.length+1).ble 140737488355328 then(kn (i64.wrap (k'+1),x'++[[D.int IntKind.u8 32]])) else none) else none) else ke (k',x')
def M.Ib in' s:=M.AA in' s (λs=>some (Sum.inl s)) λt=>some (Sum.inr t)
def M.MP in' s:=dU (M.Ib in') s
def F.MP:LE X0 65:=le 3 (Gj [bH 0 (pO 300000 0),bH 1 pI,bH 5 pI] [bH 300000 zaZ]) (λx=>(x.1.2.2.1,x.2.1)) (λx s=>(((),x.1.2.1,s.1,()),(s.2,()))) (λx=> .leaf (Int×au) (λt=>(Ex.exit 0,⟨[(0,V.own 300000 0),(1,iQ x.1.2.1),(5,iQ t.1),(11,uX false)],[(300000,Cell.arr false true 0 1 t.2)]⟩))) (λx=>M.AA x.1.2.1) [] [] (by rintro _ _ ⟨_,_⟩ _ _<;>simp only[M.AA,nb]<;>rfl)
abbrev M.O9(out':au)(in':Int)(k:au->Option R):=cond (((out'.length+1) * 1).ble 140737488355328) (cond ((out'.length+1).ble 140737488355328) ((M.MP in' (0,out'++[[D.int IntKind.u8 10]])).bind λa=>cond (ay a.2) (k a.2) none) none) none
def M.vZ out' in':=M.O9 out' in' some
def C.vZ:=fTa S.vZ (λx=>M.O9 x.1.1 x.1.2.1) [] [F.MP]
def M.Dq(in':Int)(flat:Bool)(kR mY:Int)(rP:aA)(sD:au)(s:Int×au)(kn:Int×au->Option R)(ke:Int×au->Option R):Option R:=match s with
 |(k',x')=>bif decide (k'>=0) then((idx sD k').bind λa=>(bM .i64 a 0).bind λb=>jH x' [[D.int .i64 b,D.int .i64 in',D.bool flat]] 24 λc=>kn (i64.wrap (k' - 1),c)) else ke (k',x')
def M.JG in' flat kR mY rP sD s:=M.Dq in' flat kR mY rP sD s (λs=>some (Sum.inl s)) λt=>some (Sum.inr t)
def M.Pg in' flat kR mY rP sD s:=dU (M.JG in' flat kR mY rP sD) s
def F.Pg:LE X0 67:=le 2 (Gj [bH 0 (pO 300000 0),bH 2 pI,bH 3 pB,bH 5 (pP 300001 0),bH 9 pI] [bH 300000 zbl,bH 300001 (cB 93 zbj)]) (λx=>(x.1.va.2.1,x.2.1)) (λx s=>(((),x.1.2.1,x.1.2.2.1,(),s.1,()),(s.2,(x.2.2.1.1,x.2.2.1.2.1,x.2.2.1.2.2.1,x.2.2.1.va.1,()),()))) (λx=> .leaf (Int×au) (λt=>(Ex.exit 0,⟨[(0,V.own 300000 0),(2,iQ x.1.2.1),(3,uX x.1.2.2.1),(5,V.ptr 300001 0),(9,iQ t.1),(15,uX false)],[(300000,Cell.arr false true 0 3 t.2),(300001,Cell.box 93 [iQ x.2.2.1.1,iQ x.2.2.1.2.1,yG x.2.2.1.2.2.1,F9 1 x.2.2.1.va.1])]⟩))) (λx=>zbm (M.Dq x.1.2.1 x.1.2.2.1) x.2.2.1) [] [] (by rintro _ _ ⟨_,_⟩ _ _<;>unfold M.Dq<;>exact zbn)
abbrev M.Ro(st:au)(n' gq:Int)(iO:aA)(iM:au)(in':Int)(flat:Bool)(k:au->Option R):=(M.Pg in' flat n' gq iO iM (i64.wrap ((↑iM.length:Int) - 1),st)).bind λa=>cond (ay a.2) (k a.2) none
def M.kY st n' gq iO iM in' flat:=M.Ro st n' gq iO iM in' flat some
def C.kY:=fTa S.kY (λx=>M.Ro x.1.1 x.1.2.1.1 x.1.2.1.2.1 x.1.2.1.2.2.1 x.1.2.1.va.1 x.1.2.2.1 x.1.va.1) [] [F.Pg]
def M.oD(l rest:au)(s:Int×Int×au)(kn:Int×Int×au->Option R)(ke:(Unit)⊕(Int×Int×au)->Option R):Option R:=match s with
 |(room,at',x')=>bif decide (room>=0) then(bif(↑x'.length:Int)==0 then(bif at'==0 then(ke (.inl ())) else (idx rest (i64.wrap (at' - 1))).bind λg=>(bM .i64 g 0).bind λw=>(bM .i64 g 1).bind λz=>(Sj g 2).bind λo=>jH x' [[D.int .i64 w,D.int .i64 z,D.bool o]] 24 λa=>(idx a (i64.wrap ((↑a.length:Int) - 1))).bind λC=>(a[(i64.wrap ((↑a.length:Int) - 1)).toNat]?).bind λf=>(bM .i64 f 0).bind λx=>(bM .i64 f 1).bind λA=>(Sj f 2).bind λi=>bif decide (0<=i64.wrap ((↑a.length:Int) - 1)) && decide (i64.wrap ((↑a.length:Int) - 1)<=(↑a.length:Int)) then((idx l x).bind λd=>(bM .i64 d 0).bind λc=>(bM .i64 d 1).bind λr=>(cStr d 2).bind λm=>(NP 1 d 3).bind λn=>bif c==1 then(kn (i64.wrap (room - (↑m.length:Int)),i64.wrap (at' - 1),List.take (i64.wrap ((↑a.length:Int) - 1)).toNat a)) else bif c==2 then(bif !i then(ke (.inl ())) else kn (i64.wrap (room - 1),i64.wrap (at' - 1),List.take (i64.wrap ((↑a.length:Int) - 1)).toNat a)) else bif c==3 then(ke (.inl ())) else bif ay (List.take (i64.wrap ((↑a.length:Int) - 1)).toNat a) then((M.kY (List.take (i64.wrap ((↑a.length:Int) - 1)).toNat a) c r m n A i).bind λu=>kn (room,i64.wrap (at' - 1),u)) else none) else none) else (idx x' (i64.wrap ((↑x'.length:Int) - 1))).bind λB=>(x'[(i64.wrap ((↑x'.length:Int) - 1)).toNat]?).bind λh=>(bM .i64 h 0).bind λp=>(bM .i64 h 1).bind λt=>(Sj h 2).bind λk=>bif decide (0<=i64.wrap ((↑x'.length:Int) - 1)) && decide (i64.wrap ((↑x'.length:Int) - 1)<=(↑x'.length:Int)) then((idx l p).bind λe=>(bM .i64 e 0).bind λb=>(bM .i64 e 1).bind λq=>(cStr e 2).bind λj=>(NP 1 e 3).bind λv=>bif b==1 then(kn (i64.wrap (room - (↑j.length:Int)),at',List.take (i64.wrap ((↑x'.length:Int) - 1)).toNat x')) else bif b==2 then(bif !k then(ke (.inl ())) else kn (i64.wrap (room - 1),at',List.take (i64.wrap ((↑x'.length:Int) - 1)).toNat x')) else bif b==3 then(ke (.inl ())) else bif ay (List.take (i64.wrap ((↑x'.length:Int) - 1)).toNat x') then((M.kY (List.take (i64.wrap ((↑x'.length:Int) - 1)).toNat x') b q j v t k).bind λy=>kn (room,at',y)) else none) else none) else ke (.inr (room,at',x'))
def M.gX l rest s:=M.oD l rest s (λs=>some (Sum.inl s)) λt=>some (Sum.inr t)
def M.Ph l rest s:=dU (M.gX l rest) s
def F.Ph:LE X0 66:=le 3 (Gj [bH 0 (pL false 4),bH 1 (pL false 3),bH 3 pI,bH 9 (pO 300000 0),bH 10 pI] [bH 300000 zbl]) (λx=>(x.1.2.2.1,x.1.va.2.1,x.2.1)) (λx s=>((x.1.1,x.1.2.1,s.1,(),s.2.1,()),(s.2.2,()))) (λx=> .sum (.leaf (Unit) (λt=>(Ex.ret,⟨[(8,uX true)],[]⟩))) (.leaf (Int×Int×au) (λt=>(Ex.exit 0,⟨[(0,F9 4 x.1.1),(1,F9 3 x.1.2.1),(3,iQ t.1),(9,V.own 300000 0),(10,iQ t.2.1),(18,uX false)],[(300000,Cell.arr false true 0 3 t.2.2)]⟩)))) (λx=>M.oD x.1.1 x.1.2.1) [fe C.kY] [] (by rintro _ _ ⟨_,_,_⟩ _ _<;>simp only[jH,M.oD,nb]<;>rfl)
abbrev M.Rq(l rest:au)(top aKo:Int)(aKp:Bool)(room:Int)(k:Bool->Option R):=(M.Ph l rest (room,(↑rest.length:Int),[[D.int .i64 top,D.int .i64 aKo,D.bool aKp]])).bind λa=>rO a (λd=>k true) λb=>letE b λc=>k false
def M.yP l rest top aKo aKp room:=M.Rq l rest top aKo aKp room some
def C.yP:=fTa S.yP (λx=>M.Rq x.1.1 x.1.2.1 x.1.2.2.1.1 x.1.2.2.1.2.1 x.1.2.2.1.2.2.1 x.1.va.1) [] [F.Ph]
abbrev M.JH(amw:Bool)(kR:au)(kn:Int×au×au->Option R)(col:Int)(mY:au)(abC:Int):=cond amw (cond (((kR.length+1) * 1).ble 140737488355328) (cond ((kR.length+1).ble 140737488355328) (kn (i64.wrap (col+1),kR++[[D.int IntKind.u8 32]],List.take (i64.wrap ((↑mY.length:Int) - 1)).toNat mY)) none) none) (cond (ay kR) ((M.vZ kR abC).bind λa=>kn (abC,a,List.take (i64.wrap ((↑mY.length:Int) - 1)).toNat mY)) none)
def M.MQ(l:au)(w:Int)(x':au)(s:Int×au×au)(kn:Int×au×au->Option R)(ke:Int×au×au->Option R):Option R:=match s with
 |(col,kR,mY)=>bif decide ((↑mY.length:Int)>0) then((idx mY (i64.wrap ((↑mY.length:Int) - 1))).bind λu=>(mY[(i64.wrap ((↑mY.length:Int) - 1)).toNat]?).bind λi=>(bM .i64 i 0).bind λh=>(bM .i64 i 1).bind λd=>(Sj i 2).bind λg=>bif decide (0<=i64.wrap ((↑mY.length:Int) - 1)) && decide (i64.wrap ((↑mY.length:Int) - 1)<=(↑mY.length:Int)) then((idx l h).bind λf=>(bM .i64 f 0).bind λc=>(bM .i64 f 1).bind λa=>(cStr f 2).bind λb=>(NP 1 f 3).bind λe=>bif c==1 then(bif((kR.length+(List.map byteRow b).length) * 1).ble 140737488355328 then(bif(kR.length+(List.map byteRow b).length).ble 140737488355328 then(kn (i64.wrap (col+(↑b.length:Int)),kR++List.map byteRow b,List.take (i64.wrap ((↑mY.length:Int) - 1)).toNat mY)) else none) else none) else bif c==2 then(M.JH g kR kn col mY d) else bif c==3 then(M.JH g kR kn col mY d) else bif c==5 then(bif g then(bif ay (List.take (i64.wrap ((↑mY.length:Int) - 1)).toNat mY) then((M.kY (List.take (i64.wrap ((↑mY.length:Int) - 1)).toNat mY) c a b e d true).bind λk=>kn (col,kR,k)) else none) else (idx x' h).bind λv=>x'[h.toNat]?.bind λj=>(Sj j 0).bind λp=>bif !p then((idx e 0).bind λm=>(bM .i64 m 0).bind λn=>(M.yP l (List.take (i64.wrap ((↑mY.length:Int) - 1)).toNat mY) n d true (i64.wrap (w - col))).bind λq=>bif ay (List.take (i64.wrap ((↑mY.length:Int) - 1)).toNat mY) then((M.kY (List.take (i64.wrap ((↑mY.length:Int) - 1)).toNat mY) c a b e d q).bind λo=>kn (col,kR,o)) else none) else bif ay (List.take (i64.wrap ((↑mY.length:Int) - 1)).toNat mY) then((M.kY (List.take (i64.wrap ((↑mY.length:Int) - 1)).toNat mY) c a b e d false).bind λt=>kn (col,kR,t)) else none) else bif ay (List.take (i64.wrap ((↑mY.length:Int) - 1)).toNat mY) then((M.kY (List.take (i64.wrap ((↑mY.length:Int) - 1)).toNat mY) c a b e (i64.wrap (d+a)) g).bind λr=>kn (col,kR,r)) else none) else none) else ke (col,kR,mY)
def M.zI l w x' s:=M.MQ l w x' s (λs=>some (Sum.inl s)) λt=>some (Sum.inr t)
def M.Rt l w x' s:=dU (M.zI l w x') s
def F.Rt:LE X0 34:=le 7 (Gj [bH 0 (pL false 4),bH 1 pI,bH 6 (pO 300000 0),bH 7 (pO 300001 0),bH 8 pI,bH 9 (pO 300002 0)] [bH 300000 zaZ,bH 300001 zaZ,bH 300002 zbl]) (λx=>(x.1.va.2.1,x.2.2.1,x.va.1)) (λx s=>((x.1.1,x.1.2.1,(),(),s.1,(),()),(x.2.1,s.2.1,s.2.2,()))) (λx=> .leaf (Int×au×au) (λt=>(Ex.exit 0,⟨[(0,F9 4 x.1.1),(1,iQ x.1.2.1),(6,V.own 300000 0),(7,V.own 300001 0),(8,iQ t.1),(9,V.own 300002 0),(31,uX false)],[(300000,Cell.arr false true 0 1 x.2.1),(300001,Cell.arr false true 0 1 t.2.1),(300002,Cell.arr false true 0 3 t.2.2)]⟩))) (λx=>M.MQ x.1.1 x.1.2.1 x.2.1) [fe C.vZ,fe C.kY,fe C.yP] [] (by rintro _ _ ⟨_,_,_⟩ _ _<;>simp only[M.MQ,M.JH,nb]<;>rfl)
abbrev M.N9(l:au)(w:Int)(k:aA×Bool->Option R):=(M.Ec l).bind λb=>cond (!b) (k ([],false)) ((M.dF w 0 10000).bind λd=>cond (!d) (k ([],false)) ((M.zn l).bind λc=>(M.Rt l w c (0,[],[[D.int .i64 (i64.wrap ((↑l.length:Int) - 1)),D.int .i64 0,D.bool false]])).bind λa=>(bytesOf a.2.1).bind λe=>k (e,true)))
def M.zo l w:=M.N9 l w some
def C.zo:=fTa S.zo (λx=>M.N9 x.1.1 x.1.2.1) [fe C.Ec,fe C.dF,fe C.zn] [F.Rt]
abbrev M.KI(d:au)(w:Int)(k:aA×Bool->Option R):=(M.zo d w).bind λa=>cond (!a.2) (k ([],false)) (cond (decide ((↑a.1.length:Int)>3000)) (k ([],false)) (k (a.1,true)))
def M.wo d w:=M.KI d w some
def C.wo:=fTa S.wo (λx=>M.KI x.1.1 x.1.2.1) [fe C.zo]
abbrev M.Ru(l:au)(w:Int)(k:aA×Bool->Option R):=(M.qO l).bind λb=>(M.wo (aG b) w).bind λa=>k (a.1,a.2)
def M.zV l w:=M.Ru l w some
def C.zV:=fTa S.zV (λx=>M.Ru x.1.1 x.1.2.1) [fe C.qO,fe C.wo]
def C.strings_Split:S.strings_Split.ok X0 λx=>M.strings_Split x.1.1 x.1.2.1:=dQ.Zx (p:=Prim.strings_Split)
abbrev M.Rw(s':aA)(k:au->Option R):=(M.strings_Split s' [10]).bind λa=>(idx a (i64.wrap ((↑a.length:Int) - 1))).bind λd=>(a[(i64.wrap ((↑a.length:Int) - 1)).toNat]?).bind λb=>(cStr b 0).bind λc=>cond (c==[]) (cond (decide (0<=i64.wrap ((↑a.length:Int) - 1)) && decide (i64.wrap ((↑a.length:Int) - 1)<=(↑a.length:Int))) (cond (ay (List.take (i64.wrap ((↑a.length:Int) - 1)).toNat a)) (k (List.take (i64.wrap ((↑a.length:Int) - 1)).toNat a)) none) none) (cond (ay a) (k a) none)
def M.BZ s':=M.Rw s' some
def C.BZ:=fTa S.BZ (λx=>M.Rw x.1.1) [fe C.strings_Split]
def M.yD(l:au)(kind:Int)(s:Int×Int)(kn:Int×Int->Option R)(ke:Int×Int->Option R):Option R:=match s with
 |(n',i)=>bif decide (i<(↑l.length:Int)) then((idx l i).bind λa=>(bM .i64 a 0).bind λb=>bif b==kind then(kn (i64.wrap (n'+1),i64.wrap (i+1))) else kn (n',i64.wrap (i+1))) else ke (n',i)
def M.EK l kind s:=M.yD l kind s (λs=>some (Sum.inl s)) λt=>some (Sum.inr t)
def M.JI l kind s:=dU (M.EK l kind) s
def F.JI:LE X0 9:=le 3 (Gj [bH 0 (pL false 5),bH 1 pI,bH 5 pI,bH 6 pI] []) (λx=>(x.1.2.2.1,x.1.va.1)) (λx s=>((x.1.1,x.1.2.1,s.1,s.2,()),())) (λx=> .leaf (Int×Int) (λt=>(Ex.exit 0,⟨[(0,F9 5 x.1.1),(1,iQ x.1.2.1),(5,iQ t.1),(6,iQ t.2),(10,uX false)],[]⟩))) (λx=>M.yD x.1.1 x.1.2.1) [] [] (by rintro _ _ ⟨_,_⟩ _ _<;>simp only[M.yD,nb]<;>rfl)
abbrev M.MR(l:au)(kind:Int)(k:Int->Option R):=(M.JI l kind (0,0)).bind λa=>k a.1
def M.wU l kind:=M.MR l kind some
def C.wU:=fTa S.wU (λx=>M.MR x.1.1 x.1.2.1) [] [F.JI]
def M.xq(l:au)(s':aA)(x':au)(s:Int)(kn:Int->Option R)(ke:(Unit)⊕(Int)->Option R):Option R:=match s with
 |i=>bif decide (i<(↑x'.length:Int)) then((idx x' i).bind λg=>x'[i.toNat]?.bind λf=>(cStr f 0).bind λa=>bif(↑a.length:Int)==0 then(ke (.inl ())) else (idx x' i).bind λh=>x'[i.toNat]?.bind λb=>(cStr b 0).bind λc=>(idx c (i64.wrap ((↑a.length:Int) - 1))).bind λd=>bif(↑d.toNat:Int)==32 then((M.wU l 34).bind λe=>bif e==0 then(ke (.inl ())) else kn (i64.wrap (i+1))) else kn (i64.wrap (i+1))) else ke (.inr i)
def M.Dt l s' x' s:=M.xq l s' x' s (λs=>some (Sum.inl s)) λt=>some (Sum.inr t)
def M.Ic l s' x' s:=dU (M.Dt l s' x') s
def F.Ic:LE X0 3:=le 12 (Gj [bH 3 (pL false 5),bH 5 pS,bH 9 (pO 300000 0),bH 10 pI] [bH 300000 zaZ]) (λx=>x.1.va.1) (λx s=>((x.1.1,x.1.2.1,(),s,()),(x.2.1,()))) (λx=> .sum (.leaf (Unit) (λt=>(Ex.ret,⟨[(2,uX false)],[]⟩))) (.leaf (Int) (λt=>(Ex.exit 0,⟨[(3,F9 5 x.1.1),(5,yG x.1.2.1),(9,V.own 300000 0),(10,iQ t),(47,uX false)],[(300000,Cell.arr false true 0 1 x.2.1)]⟩)))) (λx=>M.xq x.1.1 x.1.2.1 x.2.1) [fe C.wU] [] (by rintro _ _ _ _ _<;>simp only[M.xq,nb]<;>rfl)
abbrev M.MS(code:au)(k:Bool->Option R):=(M.Wh code).bind λj=>cond j (k true) ((M.wI code).bind λb=>(M.zQ (aG b.2.1) b.2.2).bind λa=>(M.zV (aG b.2.1) b.2.2).bind λh=>cond (!a.2==h.2) (k false) (cond (!a.2) (k (a.1==[])) (cond (a.1==[]) (k (a.1==[])) ((M.BZ a.1).bind λc=>(M.Ic (aG b.2.1) a.1 c 0).bind λd=>rO d (λl=>k false) λe=>letE e λm=>(idx a.1 (i64.wrap ((↑a.1.length:Int) - 1))).bind λf=>cond ((↑f.toNat:Int)==10) ((idx (aG b.2.1) (i64.wrap ((↑(aG b.2.1).length:Int) - 1))).bind λi=>(NP 1 i 4).bind λg=>k (decide ((↑c.length:Int)>=(↑g.length:Int)))) (k false)))))
def M.zW code:=M.MS code some
def C.zW:=fTa S.zW (λx=>M.MS x.1.1) [fe C.Wh,fe C.wI,fe C.zQ,fe C.zV,fe C.BZ] [F.Ic]
end
open Int (reduceLE reduceLT reduceSub reduceAdd)
def dJ:(∀a b:Int,(a>=b)=(b<=a))/\(∀a b:Int,(a>b)=(b<a))/\(∀h:Decidable True,@decide True h=true)/\(∀h:Decidable False,@decide False h=false)/\(∀(α:Type) (a b:α),cond true a b=a)/\(∀(α:Type) (a b:α),cond false a b=b)/\(∀b:Bool,(b && true)=b)/\(∀b:Bool,(b && false)=false)/\(∀b:Bool,(true && b)=b)/\(∀b:Bool,(false && b)=false)/\((!true)=false)/\((!false)=true):=
 ⟨λ_ _=>rfl,λ_ _=>rfl,λh=>@decide_eq_true True h trivial,λh=>@decide_eq_false False h id,λ_ _ _=>rfl,λ_ _ _=>rfl,λb=>by cases b<;>rfl,λb=>by cases b<;>rfl,λ_=>rfl,λ_=>rfl,rfl,rfl⟩
def aS{m n:Nat}(h:m<=n):m.ble n=true:=Nat.ble_eq_true_of_le h
def ah{α β:Type}(a:α)(f:α->Option β):(some a).bind f=f a:=rfl
def pU:((0:Nat):Int)=0:=rfl
def JQ(s:aA)(a:Int):Int:=if 0<=a then(match s[a.toNat]? with|some c=>(c.toNat:Int)|none=> -1) else -1
def isD(b:Int):Bool:=decide (b>=48) && decide (b<=57)
def pz(s:aA)(a:Int):Int:=if 0<=a then a+(((s.drop a.toNat).takeWhile λc=>isD (c.toNat:Int)).length:Nat) else a
def aqY(c:UInt8):c.toNat<256:=c.toNat_lt
def Pj(s:aA)(i:Nat):JQ s (i:Int)=(match s[i]? with|some c=>(c.toNat:Int)|none=> -1):=by rw[JQ,if_pos ak,VO]
section
variable {s:aA} (h:s.length<=1048576)
include h
theorem Rx(a:Int):M.jT s a=some (JQ s a):=by
 simp only[M.jT,M.TY]
 by_cases h0:a<0
 ·rw[zdt h0,aK,JQ,if_neg ak]
 ·rw[rH h0,bg];obtain⟨i,rfl⟩:∃i:Nat,a=i:=⟨a.toNat,ak⟩
  rw[Pj]
  by_cases h1:(i:Int)>=(s.length:Int)
  ·rw[zdt h1,aK,List.getElem?_eq_none ak]
  ·obtain⟨c,hc⟩:∃c,s[i]? =some c:=⟨s[i]'ak,by simp⟩
   have:=aqY c;rw[rH h1,bg,bC,hc,ah,aB ak ak]
theorem Ry(a:Int):M.nJ s a=some (JQ s a):=by
 simp only[M.nJ,M.TJ,M.bK,M.zq];rw[aB ak ak]
 by_cases h0:a<0
 ·rw[rH ak,bg,ah,Bool.not_false,aK,JQ,if_neg ak]
 ·rw[zdt ak,aK,ah];obtain⟨i,rfl⟩:∃i:Nat,a=i:=⟨a.toNat,ak⟩
  rw[Pj]
  by_cases h1:(i:Int)>=(s.length:Int)
  ·rw[rH ak,Bool.not_false,aK,List.getElem?_eq_none ak]
  ·obtain⟨c,hc⟩:∃c,s[i]? =some c:=⟨s[i]'ak,by simp⟩
   have:=aqY c;rw[zdt ak,zaN,bg,bC,hc,ah,aB ak ak]
end
def aqZ(b:Int):M.vU b=some (isD b):=by simp only[M.vU,M.QS,M.dF,M.CX,isD];cases decide (b>=48)<;>rfl
def aq0(b:Int):M.vN b=some (isD b):=by simp only[M.vN,M.Qv,isD];cases decide (b>=48)<;>rfl
def aIF{s:aA}{b:Int->Option (Int⊕Int)}(hb:∀a,0<=a->a<=2000000->b a=some (bif isD (JQ s a) then .inl (a+1) else .inr a))(h:s.length<=1048576):
  ∀(rest pre:aA),s=pre++rest->dU b (pre.length:Int)=some ((pre.length:Int)+((rest.takeWhile λc=>isD (c.toNat:Int)).length:Nat))
 |[],pre,e=>by
  have hl:pre.length=s.length:=by rw[e];simp
  refine bP ?_;rw[hb _ ak ak,Pj,List.getElem?_eq_none ak];simp[isD]
 |c::rest,pre,e=>by
  have hl:s.length=pre.length+(rest.length+1):=by rw[e];simp
  have hget:s[pre.length]? =some c:=by rw[e,List.getElem?_append_right (zaO _),Nat.sub_self];rfl
  have hs:=hb (pre.length:Int) ak ak;rw[Pj,hget] at hs;simp only at hs;cases hd:isD (c.toNat:Int) with
  |true=>have:=aIF hb h rest (pre++[c]) (by rw[e];simp);rw[rJ,JU] at this;rw[hd,aK] at hs;rw[dN hs,List.takeWhile_cons,if_pos hd,show(pre.length:Int)+1=((pre.length+1:Nat):Int) by omega,this];simp;omega
  |false=>rw[hd,bg] at hs;rw[bP hs,List.takeWhile_cons,hd];simp
def aAW{s:aA}{b:Int->Option (Int⊕Int)}(hb:∀a,0<=a->a<=2000000->b a=some (bif isD (JQ s a) then .inl (a+1) else .inr a))(h:s.length<=1048576)(a:Int)(h0:0<=a)(h1:a<=2000000):dU b a=some (pz s a):=by
 obtain⟨i,rfl⟩:∃i:Nat,a=i:=⟨a.toNat,ak⟩
 rw[pz,if_pos h0,VO]
 by_cases hi:i<=s.length
 ·have:=aIF hb h (s.drop i) (s.take i) (List.take_append_drop i s).symm;rw[VF,Nat.min_eq_left hi] at this;exact this
 ·rw[List.drop_eq_nil_of_le ak];refine bP ?_;rw[hb _ h0 h1,Pj,List.getElem?_eq_none ak];simp[isD]
def KJ{s:aA}(h:s.length<=1048576){a:Int}(h0:0<=a):a<=pz s a/\(pz s a<=a\/pz s a<=s.length):=by have h1:=(List.takeWhile_sublist (p:=λc:UInt8=>isD (c.toNat:Int)) (l:=s.drop a.toNat)).length_le;rw[List.length_drop] at h1;rw[pz,if_pos h0];omega
section
variable {s:aA} (h:s.length<=1048576)
include h
theorem FY(a:Int)(h0:0<=a)(h1:a<=2000000):M.eY s a=some (pz s a):=by simp only[M.eY,M.OO,M.Me];rw[aAW (λa h0 h1=>by simp only[M.Ws,M.Hu,Rx h,aqZ,ah];rw[aB ak ak];cases isD (JQ s a)<;>rfl) h a h0 h1,ah]
theorem Du(a:Int)(h0:0<=a)(h1:a<=2000000):M.jf s a=some (pz s a):=by simp only[M.jf,M.LG,M.Jo];rw[aAW (λa h0 h1=>by simp only[M.U8,M.Ey,Ry h,aq0,ah];rw[aB ak ak];cases isD (JQ s a)<;>rfl) h a h0 h1,ah]
end
def XF(s:aA)(r:Int):Int:=bif(JQ s r==101)||(JQ s r==69) then
  (bif(JQ s (r+1)==43)||(JQ s (r+1)==45) then(bif decide (pz s (r+1+1)>r+1+1) then pz s (r+1+1) else r) else(bif decide (pz s (r+1)>r+1) then pz s (r+1) else r)) else r
def XG(s:aA)(a:Int):Int:=if a<0\/(s.length:Int)<=a then -1 else
 bif JQ s (pz s a)==46 then(bif(pz s a==a) &&(pz s (pz s a+1)==pz s a+1) then -1 else XF s (pz s (pz s a+1))) else(bif pz s a==a then -1 else XF s (pz s a))
section
variable {s:aA} (h:s.length<=1048576)
include h
set_option maxHeartbeats 2000000 in
theorem aju(a:Int)(ha:a<=1048576):M.Gq s a=some (XG s a):=by
 simp only[M.Gq,M.TK,M.E8,M.bK,M.zq,XG];rw[aB ak ak]
 by_cases h0:a<0
 ·rw[rH ak,bg,ah,Bool.not_false,aK,if_pos (.inl h0)]
 ·rw[zdt ak,aK,ah]
  by_cases h1:(s.length:Int)<=a
  ·rw[rH ak,Bool.not_false,aK,if_pos (.inr h1)]
  ·rw[zdt ak,zaN,bg,if_neg ak,Du h a ak ak,ah];have e1:=KJ h (a:=a) ak;generalize hE:pz s a=e at e1|-;simp only[Ry h,ah];rw[aB (n:=e+1) ak ak,aB (n:=e - a) ak ak,Du h (e+1) ak ak,ah];have e2:=KJ h (a:=e+1) ak;generalize hK:pz s (e+1)=k at e2|-;have hz:(i64.wrap (e - a+i64.wrap (i64.wrap (k - e) - 1))==0)=((e==a) &&(k==e+1)):=by rw[aB (n:=k - e) ak ak,aB (n:=k - e - 1) ak ak,aB ak ak,Bool.eq_iff_iff];simp only[xw,beq_iff_eq];omega
   have hz2:(e - a==0)=(e==a):=by rw[Bool.eq_iff_iff];simp only[beq_iff_eq];omega
   rw[hz,hz2];have ex:∀r:Int,0<=r->r<=1048578->(bif JQ s r==101 then
      ((some (JQ s (i64.wrap (r+1)))).bind λaDL=>
      (bif aDL==43 then
       ((M.jf s (i64.wrap (i64.wrap (r+1)+1))).bind λata=>
       (bif decide (ata>i64.wrap (i64.wrap (r+1)+1)) then(some ata) else(some r))) else
       (bif aDL==45 then
       ((M.jf s (i64.wrap (i64.wrap (r+1)+1))).bind λaDN=>(bif decide (aDN>i64.wrap (i64.wrap (r+1)+1)) then(some aDN) else(some r))) else
       ((M.jf s (i64.wrap (r+1))).bind λaDO=>(bif decide (aDO>i64.wrap (r+1)) then(some aDO) else(some r)))))) else
      (bif JQ s r==69 then
      ((some (JQ s (i64.wrap (r+1)))).bind λaDM=>
       (bif aDM==43 then
       ((M.jf s (i64.wrap (i64.wrap (r+1)+1))).bind λaDP=>(bif decide (aDP>i64.wrap (i64.wrap (r+1)+1)) then(some aDP) else(some r))) else
       (bif aDM==45 then
        ((M.jf s (i64.wrap (i64.wrap (r+1)+1))).bind λayh=>
        (bif decide (ayh>i64.wrap (i64.wrap (r+1)+1)) then(some ayh) else(some r))) else
        ((M.jf s (i64.wrap (r+1))).bind λayi=>(bif decide (ayi>i64.wrap (r+1)) then(some ayi) else(some r)))))) else(some r)))=some (XF s r):=by
    intro r h0 h1;rw[aB (n:=r+1) ak ak,aB (n:=r+1+1) ak ak,Du h (r+1) ak ak,Du h (r+1+1) ak ak,XF];simp only[ah];cases JQ s r==101<;>cases JQ s r==69<;>cases JQ s (r+1)==43<;>cases JQ s (r+1)==45<;>cases decide (pz s (r+1+1)>r+1+1)<;>cases decide (pz s (r+1)>r+1)<;>rfl
   simp only[ah] at ex;cases JQ s e==46 with
   |true=>
    simp only[aK];cases(e==a) &&(k==e+1) with
    |true=>rfl
    |false=>simp only[bg];exact ex k ak ak
   |false=>
    simp only[bg];cases e==a with
    |true=>rfl
    |false=>simp only[bg];have h2:=ex e ak ak;rw[aB (n:=e+1) ak ak,Du h (e+1) ak ak,hK] at h2;simp only[ah] at h2;exact h2
theorem ajv(a:Int)(ha:a<=1048576):M.Gy s a=some (XG s a):=by
 simp only[M.Gy,M.Ua,M.xg,XG]
 by_cases h0:a<0
 ·rw[zdt h0,aK,if_pos (.inl h0)]
 ·rw[rH h0,bg];have e1:=KJ h (a:=a) ak;rw[FY h a ak ak,ah];simp only[Rx h,ah]
  by_cases h1:(s.length:Int)<=a
  ·have he:pz s a=a:=ak;obtain⟨i,rfl⟩:∃i:Nat,a=i:=⟨a.toNat,ak⟩
   have hb:JQ s (i:Int)= -1:=by rw[Pj,List.getElem?_eq_none ak]
   rw[he,hb,if_pos (.inr h1),show((-1:Int)==46)=false from rfl,bg,beq_self_eq_true,aK]
  ·rw[if_neg ak];generalize hE:pz s a=e at e1|-;have e2:=KJ h (a:=e+1) ak;rw[aB (n:=e+1) ak ak,FY h (e+1) ak ak,ah];have ex:∀r:Int,0<=r->r<=1048578->(bif JQ s r==101 then
      (bif JQ s (i64.wrap (r+1))==43 then
       ((M.eY s (i64.wrap (i64.wrap (r+1)+1))).bind λawk=>
        (bif decide (awk>i64.wrap (i64.wrap (r+1)+1)) then
        ((M.eY s (i64.wrap (i64.wrap (r+1)+1))).bind λU0=>(some U0)) else(some r))) else
        (bif JQ s (i64.wrap (r+1))==45 then
        ((M.eY s (i64.wrap (i64.wrap (r+1)+1))).bind λawl=>
         (bif decide (awl>i64.wrap (i64.wrap (r+1)+1)) then
         ((M.eY s (i64.wrap (i64.wrap (r+1)+1))).bind λaCW=>(some aCW)) else(some r))) else
        ((M.eY s (i64.wrap (r+1))).bind λawm=>(bif decide (awm>i64.wrap (r+1)) then((M.eY s (i64.wrap (r+1))).bind λawn=>(some awn)) else(some r))))) else
       (bif JQ s r==69 then
        (bif JQ s (i64.wrap (r+1))==43 then
        ((M.eY s (i64.wrap (i64.wrap (r+1)+1))).bind λawo=>
         (bif decide (awo>i64.wrap (i64.wrap (r+1)+1)) then
         ((M.eY s (i64.wrap (i64.wrap (r+1)+1))).bind λawp=>(some awp)) else(some r))) else
         (bif JQ s (i64.wrap (r+1))==45 then
         ((M.eY s (i64.wrap (i64.wrap (r+1)+1))).bind λawq=>
          (bif decide (awq>i64.wrap (i64.wrap (r+1)+1)) then
          ((M.eY s (i64.wrap (i64.wrap (r+1)+1))).bind λawr=>(some awr)) else(some r))) else
         ((M.eY s (i64.wrap (r+1))).bind λaCY=>(bif decide (aCY>i64.wrap (r+1)) then((M.eY s (i64.wrap (r+1))).bind λan7=>(some an7)) else(some r))))) else(some r)))=some (XF s r):=by
    intro r h0 h1;rw[aB (n:=r+1) ak ak,aB (n:=r+1+1) ak ak,FY h (r+1) ak ak,FY h (r+1+1) ak ak,XF];simp only[ah];cases JQ s r==101<;>cases JQ s r==69<;>cases JQ s (r+1)==43<;>cases JQ s (r+1)==45<;>cases decide (pz s (r+1+1)>r+1+1)<;>cases decide (pz s (r+1)>r+1)<;>rfl
   generalize hK:pz s (e+1)=k at e2|-;have hka:(k==a)=false:=by rw[II];omega
   rw[hka];cases JQ s e==46 with
   |true=>
    simp only[aK,bg];cases e==a with
    |true=>
     simp only[aK,Bool.true_and];cases k==e+1 with
     |true=>rfl
     |false=>simp only[bg];exact ex k ak ak
    |false=>simp only[bg,Bool.false_and];exact ex k ak ak
   |false=>
    simp only[bg];cases e==a with
    |true=>rfl
    |false=>simp only[bg];have h2:=ex e ak ak;rw[aB (n:=e+1) ak ak,FY h (e+1) ak ak,hK] at h2;simp only[ah] at h2;exact h2
end
def acI(q:Int):aA->Int->Int
 |[],_=> -1
 |c::l,i=>if(c.toNat:Int)=q then i+1 else if(c.toNat:Int)=10 then -1 else if(c.toNat:Int)=92 then(match l with
   |[]=> -1
   |d::l'=>if(d.toNat:Int)=10 then -1 else acI q l' (i+2)) else acI q l (i+1)
def aeS(q:Int)(c:UInt8)(l:aA)(i:Int):acI q (c::l) i=if(c.toNat:Int)=q then i+1 else if(c.toNat:Int)=10 then -1 else if(c.toNat:Int)=92 then(match l with
   |[]=> -1
   |d::l'=>if(d.toNat:Int)=10 then -1 else acI q l' (i+2)) else acI q l (i+1):=by
 cases l with
 |nil=>simp[acI]
 |cons d l=>simp[acI]
def hdI:aA->Int
 |[]=> -1
 |d::_=>(d.toNat:Int)
def quoted(s:aA)(a q:Int):Int:=if JQ s a=q then acI q (s.drop (a+1).toNat) (a+1) else -1
def aAX{s:aA}(h:s.length<=1048576)(q:Int)(hq:q≠10):∀(n:Nat) (rest pre:aA),rest.length<=n->s=pre++rest->
  (∃r,M.vF s q (pre.length:Int)=some r/\(rO r some λu=>letE u λ_=>some (-1))=some (acI q rest (pre.length:Int)))/\
  (∃r,M.sU s q (pre.length:Int)=some r/\(rO r some λu=>letE u λ_=>some (-1))=some (acI q rest (pre.length:Int)))
 |n,[],pre,hn,e=>by
  have hl:pre.length=s.length:=by rw[e];simp
  constructor
  ·refine⟨.inr (pre.length:Int), ?_,rfl⟩;rw[M.vF];refine bP ?_;simp only[M.Ah,M.vC];rw[rH ak,bg]
  ·refine⟨.inr (pre.length:Int), ?_,rfl⟩;rw[M.sU];refine bP ?_;simp only[M.yg,M.ug];rw[rH ak,bg]
 |0,c::rest,pre,hn,e=>by simp at hn
 |n+1,c::rest,pre,hn,e=>by
  simp only[mQ] at hn;have hl:s.length=pre.length+(rest.length+1):=by rw[e];simp
  have hget:s[pre.length]? =some c:=by rw[e,List.getElem?_append_right (zaO _),Nat.sub_self];rfl
  have hc:=aqY c;have hw:i64.wrap ((c.toNat:Nat):Int)=(c.toNat:Int):=aB ak ak;have hw1:i64.wrap ((pre.length:Int)+1)=((pre.length+1:Nat):Int):=by rw[aB ak ak];omega
  have hw2:i64.wrap (((pre.length+1:Nat):Int)+1)=((pre.length+2:Nat):Int):=by rw[aB ak ak];omega
  have hnext:JQ s ((pre.length+1:Nat):Int)=hdI rest:=by rw[Pj,e,List.getElem?_append_right ak,show pre.length+1 - pre.length=1 by omega];cases rest<;>rfl
  have hS:M.Ah s q (pre.length:Int)=some (if(c.toNat:Int)=q then .inr (.inl ((pre.length+1:Nat):Int)) else if(c.toNat:Int)=10 then .inr (.inl (-1)) else if(c.toNat:Int)=92 then
    (if JQ s ((pre.length+1:Nat):Int)=10 then .inr (.inl (-1)) else .inl ((pre.length+2:Nat):Int)) else .inl ((pre.length+1:Nat):Int)):=by
   simp only[M.Ah,M.vC,bC,hget,ah,hw,hw1,hw2,Rx h];rw[zdt ak,aK]
   by_cases c1:(c.toNat:Int)=q
   ·rw[if_pos c1,show((c.toNat:Int)==q)=true by simpa using c1,aK]
   ·rw[if_neg c1,show((c.toNat:Int)==q)=false by simpa using c1,bg]
    by_cases c2:(c.toNat:Int)=10
    ·rw[if_pos c2,show((c.toNat:Int)==10)=true by simpa using c2,aK]
    ·rw[if_neg c2,show((c.toNat:Int)==10)=false by simpa using c2,bg]
     by_cases c3:(c.toNat:Int)=92
     ·rw[if_pos c3,show((c.toNat:Int)==92)=true by simpa using c3,aK]
      by_cases c4:JQ s ((pre.length+1:Nat):Int)=10
      ·rw[if_pos c4,c4];rfl
      ·rw[if_neg c4,show(JQ s ((pre.length+1:Nat):Int)==10)=false by simpa using c4,bg]
     ·rw[if_neg c3,show((c.toNat:Int)==92)=false by simpa using c3,bg]
  have hI:M.yg s q (pre.length:Int)=some (if(c.toNat:Int)=10 then .inr (.inr (pre.length:Int)) else if(c.toNat:Int)=q then .inr (.inl ((pre.length+1:Nat):Int)) else if(c.toNat:Int)=92 then
    (if JQ s ((pre.length+1:Nat):Int)=10 then .inl ((pre.length+1:Nat):Int) else .inl ((pre.length+2:Nat):Int)) else .inl ((pre.length+1:Nat):Int)):=by
   simp only[M.yg,M.ug,bC,hget,ah,hw,hw1,hw2,Ry h];rw[zdt ak,aK]
   by_cases c2:(c.toNat:Int)=10
   ·rw[if_pos c2,show((c.toNat:Int) !=10)=false by simpa using c2,bg]
   ·rw[if_neg c2,show((c.toNat:Int) !=10)=true by simpa using c2,aK]
    by_cases c1:(c.toNat:Int)=q
    ·rw[if_pos c1,show((c.toNat:Int)==q)=true by simpa using c1,aK]
    ·rw[if_neg c1,show((c.toNat:Int)==q)=false by simpa using c1,bg]
     by_cases c3:(c.toNat:Int)=92
     ·rw[if_pos c3,show((c.toNat:Int)==92)=true by simpa using c3,aK]
      by_cases c4:JQ s ((pre.length+1:Nat):Int)=10
      ·rw[if_pos c4,c4];rfl
      ·rw[if_neg c4,show(JQ s ((pre.length+1:Nat):Int) !=10)=true by simpa using c4,aK]
     ·rw[if_neg c3,show((c.toNat:Int)==92)=false by simpa using c3,bg]
  have e1:s=(pre++[c])++rest:=by rw[e];simp
  have ih1:=aAX h q hq n rest (pre++[c]) ak e1;rw[rJ,JU] at ih1;rw[M.vF,M.sU] at ih1|-;rw[aeS]
  by_cases c1:(c.toNat:Int)=q
  ·have c2:¬(c.toNat:Int)=10:=ak;rw[if_pos c1];rw[if_pos c1] at hS;rw[if_neg c2,if_pos c1] at hI;refine⟨⟨_,bP hS, ?_⟩,⟨_,bP hI, ?_⟩⟩<;>simp[rO]
  ·rw[if_neg c1];rw[if_neg c1] at hS
   by_cases c2:(c.toNat:Int)=10
   ·rw[if_pos c2];rw[if_pos c2] at hS hI;exact⟨⟨_,bP hS,rfl⟩,⟨_,bP hI,rfl⟩⟩
   ·rw[if_neg c2];rw[if_neg c2] at hS hI;rw[if_neg c1] at hI
    by_cases c3:(c.toNat:Int)=92
    ·rw[if_pos c3];rw[if_pos c3] at hS hI;cases rest with
     |nil=>
      rw[hnext,hdI] at hS hI;simp only[show¬((-1:Int)=10) by omega,if_false] at hS hI;have hend:∀(b:Int->Option (Int⊕(Int⊕Int))),True:=λ_=>trivial
      simp only[uH] at hl;refine⟨⟨.inr ((pre.length+2:Nat):Int), ?_,rfl⟩,⟨.inr ((pre.length+2:Nat):Int), ?_,rfl⟩⟩
      ·rw[dN hS];refine bP ?_;simp only[M.Ah,M.vC];rw[rH ak,bg]
      ·rw[dN hI];refine bP ?_;simp only[M.yg,M.ug];rw[rH ak,bg]
     |cons d rest'=>
      simp only[hdI] at hnext|-;rw[hnext] at hS hI
      by_cases c4:(d.toNat:Int)=10
      ·rw[if_pos c4];rw[if_pos c4] at hS hI;refine⟨⟨_,bP hS,rfl⟩, ?_⟩;obtain⟨r,h1,h2⟩:=ih1.2;refine⟨r,by rw[dN hI];exact h1, ?_⟩;rw[h2,aeS,if_neg ak,if_pos c4]
      ·rw[if_neg c4];rw[if_neg c4] at hS hI;have e2:s=(pre++[c,d])++rest':=by rw[e];simp
       simp only[mQ] at hn;have ih2:=aAX h q hq n rest' (pre++[c,d]) ak e2;rw[rJ,show[c,d].length=2 from rfl,M.vF,M.sU] at ih2;rw[dN hS,dN hI,show(pre.length:Int)+2=((pre.length+2:Nat):Int) by omega];exact ih2
    ·rw[if_neg c3];rw[if_neg c3] at hS hI;rw[dN hS,dN hI,show(pre.length:Int)+1=((pre.length+1:Nat):Int) by omega];exact ih1
section
variable {s:aA} (h:s.length<=1048576)
include h
theorem amx(a q:Int)(h0:0<=a)(h1:a<=1048576)(hq:0<=q)(hq2:q≠10):M.rY s a q=some (quoted s a q)/\M.qx s a q=some (quoted s a q):=by
 simp only[M.rY,M.OQ,M.qx,M.LH,Rx h,Ry h,ah,quoted]
 by_cases hb:JQ s a=q
 ·rw[if_pos hb,show(JQ s a !=q)=false by simpa using hb,bg,bg,aB ak ak];obtain⟨i,rfl⟩:∃i:Nat,a=i:=⟨a.toNat,ak⟩
  have hi:i<s.length:=by
   rcases Nat.lt_or_ge i s.length with hlt|hge
   ·exact hlt
   ·rw[Pj,List.getElem?_eq_none hge] at hb;simp only at hb;omega
  obtain⟨⟨r,k1,k2⟩,⟨r',k3,k4⟩⟩:=aAX h q hq2 _ (s.drop (i+1)) (s.take (i+1)) (zaO _) (List.take_append_drop _ s).symm;rw[VF,Nat.min_eq_left ak] at k1 k2 k3 k4;rw[show(i:Int)+1=((i+1:Nat):Int) by omega,VO,k1,k3,ah,ah];exact⟨k2,k4⟩
 ·rw[if_neg hb,show(JQ s a !=q)=true by simpa using hb,aK,aK];exact⟨rfl,rfl⟩
theorem awu(a:Int)(h0:0<=a)(h1:a<=1048576):M.Gz s a=some (quoted s a 34)/\M.Gs s a=some (quoted s a 34):=by have:=amx h a 34 h0 h1 ak ak;simp only[M.Gz,M.Ub,M.Gs,M.TL,this.1,this.2,ah];constructor<;>first|rfl|trivial
def acJ(s:aA)(a:Int):Int:=bif quoted s a 47==a+2 then -1 else quoted s a 47
theorem awv(a:Int)(h0:0<=a)(h1:a<=1048576):M.GH s a=some (acJ s a)/\M.Gt s a=some (acJ s a):=by have:=amx h a 47 h0 h1 ak ak;simp only[M.GH,M.Uc,M.Gt,M.TM,this.1,this.2,ah,acJ];rw[aB ak ak];cases quoted s a 47==a+2<;>simp
end
end Go.Proofs.YtmeggnejljdlfaaGreatDoor
namespace Go.Proofs.YtmeggnejljdlfaaGreatDoor
open Go Go.Vm
open Int (reduceLE reduceLT reduceSub reduceAdd)
@[simp] theorem zu(l:List (aA)):(encS l).length=l.length:=by simp[encS]
@[simp] theorem WG(l:List (aA))(i:Nat):(encS l)[i]? =(l[i]?).map λs=>[D.str s]:=by simp[encS]
def cS0(s:aA):cStr [D.str s] 0=some s:=rfl
def strsOf:Row->List (aA)
 |[]=>[]
 | .str s::r=>s::strsOf r
 |_::r=>strsOf r
def Zt:List (aA):=strsOf Gm
def XH:List (aA):=strsOf V9
def aq1:List (aA):=strsOf PW
def UC(s:aA):List (aA)->Int->Int
 |[],_=> -1
 |x::l,i=>if x==s then i else UC s l (i+1)
def afR(s:aA):∀(l:List (aA)) (i:Int),0<=i-> -1<=UC s l i/\UC s l i<i+l.length
 |[],i,h=>by simp[UC];omega
 |x::l,i,h=>by
  rw[UC];split
  ·simp;omega
  ·have:=afR s l (i+1) ak;simp only[mQ];omega
def amy(s:aA)(l:List (aA))(hl:l.length<=1048576){b:Int->Option (Int⊕(Int⊕Int))}
  (hb:∀(i:Nat) x,l[i]? =some x->b (i:Int)=some (if x==s then .inr (.inl (i:Int)) else .inl ((i:Int)+1))) (he:b (l.length:Int)=some (.inr (.inr (l.length:Int)))):
  ∃r,dU b 0=some r/\(rO r some λu=>letE u λ_=>some (-1))=some (UC s l 0):=by
 have key:∀(t:List (aA)) (i:Nat),l.drop i=t->i<=l.length->∃r,dU b (i:Int)=some r/\(rO r some λu=>letE u λ_=>some (-1))=some (UC s t (i:Int)):=by
  intro t;induction t with
  |nil=>
   intro i hd hi;have:i=l.length:=by have:=congrArg List.length hd;simp at this;omega
   subst this;exact⟨_,bP he,rfl⟩
  |cons x t ih=>
   intro i hd hi;have hx:l[i]? =some x:=by
    have:(l.drop i)[0]? =some x:=by rw[hd];rfl
    simpa using this
   have hlt:i<l.length:=(PN.1 hx).1;have hd':l.drop (i+1)=t:=by rw[<-List.drop_drop,hd];rfl
   have hs:=hb i x hx;rw[UC];cases hxs:x==s with
   |true=>rw[hxs] at hs;exact⟨_,bP hs,rfl⟩
   |false=>
    rw[hxs] at hs;obtain⟨r,h1,h2⟩:=ih (i+1) hd' hlt;refine⟨r, ?_, ?_⟩
    ·rw[dN hs,show(i:Int)+1=((i+1:Nat):Int) by omega];exact h1
    ·rw[h2];simp
 exact key l 0 rfl (Nat.zero_le _)
def amA(s:aA)(l:List (aA))(hl:l.length<=1048576):M.zi (encS l) s=some (UC s l 0):=by
 obtain⟨r,h1,h2⟩:=amy s l hl (b:=M.L9 (encS l) s)
  (λi x hx=>by have hi:=(PN.1 hx).1;simp only[M.L9,M.Fz,zu,bC,WG,hx,Oa,ah,cS0];rw[zdt ak,aK,aB ak ak];cases x==s<;>rfl)
  (by simp only[M.L9,M.Fz,zu];rw[rH ak,bg])
 simp only[M.zi,M.TV,M.QT];rw[h1,ah];exact h2
def ajw(s:aA)(l:List (aA))(hl:l.length<=1048576):M.slices_Index (encS l) s=some (UC s l 0):=by
 obtain⟨r,h1,h2⟩:=amy s l hl (b:=M.Jm (encS l) s (l.length:Int))
  (λi x hx=>by have hi:=(PN.1 hx).1;simp only[M.Jm,M.Ci,bC,WG,hx,Oa,ah,cS0];rw[zdt ak,aK,aB ak ak,show(s==x)=(x==s) by rw[Bool.eq_iff_iff,beq_iff_eq,beq_iff_eq];exact⟨Eq.symm,Eq.symm⟩];cases x==s<;>rfl)
  (by simp only[M.Jm,M.Ci];rw[rH ak,bg])
 simp only[M.slices_Index,M.Qw,M.Oq,zu];rw[h1,ah];exact h2
def aAY(s:aA):Int:=if UC s Zt 0<0 then 0 else 10+UC s Zt 0
def afS(s:aA):Bool:=decide (UC s aq1 0>=0)
def aq2:M.yL=some (encS Zt):=rfl
def aq3:M.xR=some (encS aq1):=rfl
def aq4:M.yM=some (encS XH):=rfl
def aKq:List.map (λx=>[x]) Gm=encS Zt:=rfl
def aGg:List.map (λx=>[x]) PW=encS aq1:=rfl
def aok(s:aA):M.wR s=some (aAY s)/\M.wL s=some (aAY s):=by
 have hr:=afR s Zt 0 ak;have hl:Zt.length=17:=rfl;simp only[M.wR,M.Mc,M.wL,M.LC,aq2,aKq,ah,amA s Zt (by rw[hl];omega),ajw s Zt (by rw[hl];omega),aAY]
 by_cases h:UC s Zt 0<0
 ·rw[zdt h,aK,if_pos h];exact⟨rfl,rfl⟩
 ·rw[rH h,bg,if_neg h,aB ak ak];exact⟨rfl,rfl⟩
def YW(s:aA):M.mX s=some (afS s)/\M.nU s=some (afS s):=by have hl:aq1.length=21:=rfl;simp only[M.mX,M.Md,M.nU,M.LD,M.slices_Contains,M.Cj,aq3,aGg,ah,amA s aq1 (by rw[hl];omega),ajw s aq1 (by rw[hl];omega),afS];constructor<;>first|rfl|trivial
def isL(b:Int):Bool:=(decide (b>=97) && decide (b<=122))||((decide (b>=65) && decide (b<=90))||(b==95))
def isW(b:Int):Bool:=isL b||isD b
def afT(b:Int):M.rX b=some (isL b)/\M.rU b=some (isL b):=by simp only[M.rX,M.OL,M.dF,M.CX,M.rU,M.Oo,isL];cases decide (b>=97)<;>cases decide (b<=122)<;>cases decide (b>=65)<;>cases decide (b<=90)<;>cases(b==95)<;>exact⟨rfl,rfl⟩
def Ul(b:Int):M.lH b=some (isW b)/\M.lF b=some (isW b):=by simp only[M.lH,M.Jz,M.lF,M.Jk,afT,aqZ,aq0,ah,isW];cases isL b<;>cases isD b<;>exact⟨rfl,rfl⟩
def aol(s:aA):Bool:=s.all λc=>isW (c.toNat:Int)
def a7x:aA->Bool
 |[]=>false
 |c::_=>isL (c.toNat:Int)
def SV(s:aA):Bool:=aol s &&((decide ((s.length:Int)>=1) && decide ((s.length:Int)<=12)) && a7x s)
def ajx(s:aA){b:Int->Option (Int⊕(Unit⊕Int))}
  (hb:∀(i:Nat) c,s[i]? =some c->b (i:Int)=some (bif isW (c.toNat:Int) then .inl ((i:Int)+1) else .inr (.inl ()))) (he:b (s.length:Int)=some (.inr (.inr (s.length:Int)))):
  dU b 0=some (bif aol s then .inr (s.length:Int) else .inl ()):=by
 have key:∀(t:aA) (i:Nat),s.drop i=t->i<=s.length->dU b (i:Int)=some (bif aol t then .inr (s.length:Int) else .inl ()):=by
  intro t;induction t with
  |nil=>
   intro i hd hi;have:i=s.length:=by have:=congrArg List.length hd;simp at this;omega
   subst this;exact bP he
  |cons x t ih=>
   intro i hd hi;have hx:s[i]? =some x:=by
    have:(s.drop i)[0]? =some x:=by rw[hd];rfl
    simpa using this
   have hlt:i<s.length:=(PN.1 hx).1;have hd':s.drop (i+1)=t:=by rw[<-List.drop_drop,hd];rfl
   have hs:=hb i x hx;rw[aol,List.all_cons];cases hw:isW (x.toNat:Int) with
   |true=>rw[hw,aK] at hs;rw[dN hs,show(i:Int)+1=((i+1:Nat):Int) by omega,ih (i+1) hd' hlt,Bool.true_and];rfl
   |false=>rw[hw,bg] at hs;rw[bP hs];rfl
 exact key s 0 rfl (Nat.zero_le _)
def aom(s:aA)(h:s.length<=1048576):M.wQ s=some (SV s)/\M.wJ s=some (SV s):=by
 have hw:∀c:UInt8,i64.wrap ((c.toNat:Nat):Int)=(c.toNat:Int):=λc=>by have:=aqY c;exact aB ak ak
 have h1:=ajx s (b:=M.EH s)
  (λi c hc=>by have hi:=(PN.1 hc).1;simp only[M.EH,M.yw,bC,hc,ah,hw,Ul];rw[zdt ak,aK,aB ak ak];cases isW (c.toNat:Int)<;>rfl)
  (by simp only[M.EH,M.yw];rw[rH ak,bg])
 have h2:=ajx s (b:=M.Ew s (s.length:Int))
  (λi c hc=>by have hi:=(PN.1 hc).1;simp only[M.Ew,M.yc,bC,hc,ah,hw,Ul];rw[zdt ak,aK,aB ak ak];cases isW (c.toNat:Int)<;>rfl)
  (by simp only[M.Ew,M.yc];rw[rH ak,bg])
 simp only[M.wQ,M.L8,M.wJ,M.Lu,M.JA,M.Jl,M.dF,M.CX,M.bK,M.zq];rw[h1,h2,ah,ah,SV];cases aol s with
 |false=>exact⟨rfl,rfl⟩
 |true=>
  simp only[aK,rO,letE,Bool.true_and];cases s with
  |nil=>exact⟨rfl,rfl⟩
  |cons c l=>have hi:idx (c::l) 0=some c:=rfl;simp only[hi,ah,hw,afT];cases decide (((c::l).length:Int)>=1)<;>cases decide (((c::l).length:Int)<=12)<;>exact⟨rfl,rfl⟩
def I9(s:aA):Bool:=SV s &&((aAY s==0) && !(afS s))
def Yh(s:aA)(h:s.length<=1048576):M.kF s=some (I9 s)/\M.lq s=some (I9 s):=by have h1:=aom s h;simp only[M.kF,M.TW,M.lq,M.TI,h1.1,h1.2,aok,YW,ah,I9];cases SV s<;>cases aAY s==0<;>cases afS s<;>exact⟨rfl,rfl⟩
end Go.Proofs.YtmeggnejljdlfaaGreatDoor
namespace Go.Proofs.YtmeggnejljdlfaaGreatDoor
open Go Go.Vm
open Int (reduceLE reduceLT reduceSub reduceAdd)
def aXw(c:UInt8)(n:Nat)(h:n<256):(((c.toNat:Nat):Int)==(n:Int))=(c==UInt8.ofNat n):=by
 rw[Bool.eq_iff_iff,beq_iff_eq,beq_iff_eq];constructor
 ·intro e;apply UInt8.toNat_inj.1;rw[UInt8.toNat_ofNat',Nat.mod_eq_of_lt h];omega
 ·rintro rfl;rw[UInt8.toNat_ofNat',Nat.mod_eq_of_lt h]
def hasB(c:UInt8)(s:aA):Bool:=s.any (· ==c)
def amB(s:aA)(c:UInt8):decide (0<=Lib.indexByte s c)=hasB c s:=by
 have hge:=Lib.indexByte_ge s c;rw[Bool.eq_iff_iff,decide_eq_true_eq,hasB,List.any_eq_true];constructor
 ·intro h;obtain⟨i,hi⟩:∃i:Nat,Lib.indexByte s c=i:=⟨(Lib.indexByte s c).toNat,ak⟩
  exact⟨c,AU (Lib.indexByte_some hi).1,by simp⟩
 ·rintro⟨x,hx,hc⟩;have:=beq_iff_eq.1 hc;subst this;rcases Int.lt_or_le (Lib.indexByte s x) 0 with h|h
  ·obtain⟨i,hi⟩:=List.mem_iff_getElem?.1 hx;exact absurd hi (Lib.indexByte_none ak i)
  ·exact h
def aq5(s:aA)(h:s.length<=1000000000):M.vV s=some (!(hasB 10 s)):=by
 have key:∀(t:aA) (i:Nat),s.drop i=t->i<=s.length->dU (M.Dc s) (i:Int)=some (bif hasB 10 t then .inl () else .inr (s.length:Int)):=by
  intro t;induction t with
  |nil=>
   intro i hd hi;have:i=s.length:=by have:=congrArg List.length hd;simp at this;omega
   subst this;refine bP ?_;simp only[M.Dc,M.C9];rw[rH ak,bg];rfl
  |cons x t ih=>
   intro i hd hi;have hx:s[i]? =some x:=by
    have:(s.drop i)[0]? =some x:=by rw[hd];rfl
    simpa using this
   have hlt:i<s.length:=(PN.1 hx).1;have hd':s.drop (i+1)=t:=by rw[<-List.drop_drop,hd];rfl
   have hs:M.Dc s (i:Int)=some (bif x==10 then .inr (.inl ()) else .inl ((i:Int)+1)):=by simp only[M.Dc,M.C9,bC,hx,ah];rw[zdt ak,aK,show(10:Int)=((10:Nat):Int) from rfl,aXw _ _ ak,aB ak ak,show(x==UInt8.ofNat 10)=(x==10) from rfl];cases x==10<;>rfl
   rw[hasB,List.any_cons];cases hc:x==10 with
   |true=>rw[hc,aK] at hs;rw[bP hs];rfl
   |false=>rw[hc,bg] at hs;rw[dN hs,show(i:Int)+1=((i+1:Nat):Int) by omega,ih (i+1) hd' hlt,Bool.false_or];rfl
 have:=key s 0 rfl (Nat.zero_le _);rw[pU] at this;simp only[M.vV,M.QV,M.OM];rw[this,ah];cases hasB 10 s<;>rfl
def aGh:∀i,i<17->cStr Gm i=Zt[i]? :=by decide+kernel
def auT:∀i,i<39->cStr V9 i=XH[i]? :=by decide+kernel
def spell(k:Int):aA:=if k=1 then[10] else if 10<=k/\k<=26 then Zt[(k - 10).toNat]?.getD [] else if 30<=k/\k<=68 then XH[(k - 30).toNat]?.getD [] else[]
def oN(k:Int)(hk:I64 k):M.kW k=some (spell k)/\M.jI k=some (spell k):=by
 have l1:Zt.length=17:=rfl;have l2:XH.length=39:=rfl;simp only[M.kW,M.QW,M.jI,M.Qx,M.qR,M.Cm,M.nV,M.CB,M.bK,M.zq,M.dF,M.CX,aq2,aq4,ah,spell]
 by_cases h1:k=1
 ·subst h1;exact⟨rfl,rfl⟩
 ·rw[show(k==1)=false by simpa using h1,bg,bg,if_neg h1]
  by_cases h2:10<=k/\k<=26
  ·obtain⟨i,hi⟩:∃i:Nat,k=10+i:=⟨(k - 10).toNat,ak⟩
   have hw:i64.wrap (k - 10)=(i:Int):=by rw[aB ak ak];omega
   obtain⟨x,hx⟩:∃x,Zt[i]? =some x:=⟨Zt[i]'ak,by simp⟩
   rw[if_pos h2,zdt (show k>=10 by omega),aK,zdt (show k<=26 by omega),hw,zdt (show(0:Int)<=(i:Int) by omega),zdt (show(i:Int)<17 by omega)];simp only[ah,aK,bC,VO,WG,hx,Oa,cS0,Bool.and_self,Nat.zero_add,Nat.mul_one,aGh i ak];rw[show(k - 10).toNat=i by omega,hx];exact⟨rfl,rfl⟩
  ·have hf:(bif decide (k>=10) then some (decide (k<=26)) else some false)=some false:=by
    by_cases h3:k>=10
    ·rw[zdt h3,aK,rH ak]
    ·rw[rH h3,bg]
   rw[if_neg h2,hf];simp only[ah,bg]
   by_cases h4:30<=k/\k<=68
   ·obtain⟨i,hi⟩:∃i:Nat,k=30+i:=⟨(k - 30).toNat,ak⟩
    have hw:i64.wrap (k - 30)=(i:Int):=by rw[aB ak ak];omega
    obtain⟨x,hx⟩:∃x,XH[i]? =some x:=⟨XH[i]'ak,by simp⟩
    rw[if_pos h4,zdt (show k>=30 by omega),aK,zdt (show k<=68 by omega),hw,zdt (show(0:Int)<=(i:Int) by omega),zdt (show(i:Int)<39 by omega)];simp only[ah,aK,bC,VO,WG,hx,Oa,cS0,Bool.and_self,Nat.zero_add,Nat.mul_one,auT i ak];rw[show(k - 30).toNat=i by omega,hx];exact⟨rfl,rfl⟩
   ·have hf:(bif decide (k>=30) then some (decide (k<=68)) else some false)=some false:=by
     by_cases h3:k>=30
     ·rw[zdt h3,aK,rH ak]
     ·rw[rH h3,bg]
    rw[if_neg h4,hf];exact⟨rfl,rfl⟩
def Rz(k:Int)(s:aA):Bool:=bif s==[] then false else
 bif k==2 then(JQ s 0==35) && !(hasB 10 s) else bif k==3 then XG s 0==(s.length:Int) else bif k==4 then quoted s 0 34==(s.length:Int) else bif k==5 then acJ s 0==(s.length:Int) else
 bif k==6 then I9 s else bif k==7 then I9 s else bif k==8 then afS s else s==spell k
def WH(k:Int)(s:aA)(a:Int)(h:s.length<=1048576)(hk:I64 k):M.nM k s a=some (Rz k s)/\M.vO k s a=some (Rz k s):=by
 have hn:=Yh s h;have hb:=YW s;have hst:=awu h 0 ak ak;have her:=awv h 0 ak ak;have hsp:=oN k hk;have hct:M.strings_Contains s [10]=some (hasB 10 s):=by rw[M.strings_Contains,amB]
 simp only[M.nM,M.QX,M.vO,M.Qy,hn.1,hn.2,hb.1,hb.2,hst.1,hst.2,her.1,her.2,hsp.1,hsp.2,hct,aq5 s ak,ajv h 0 ak,aju h 0 ak,ah,Rz];cases s with
 |nil=>refine⟨?_,rfl⟩;have q1:I9 []=false:=rfl;have q2:afS []=false:=rfl;have q3:(quoted [] 0 34==(([]:aA).length:Int))=false:=rfl;have q4:(acJ [] 0==(([]:aA).length:Int))=false:=rfl;rw[q1,q2,q3,q4];cases k==2<;>cases k==3<;>cases k==4<;>cases k==5<;>cases k==6<;>cases k==7<;>cases k==8<;>rfl
 |cons c l=>
  have hi:idx (c::l) 0=some c:=rfl;have hb0:JQ (c::l) 0=(c.toNat:Int):=rfl;have hne:((c::l:aA)==[])=false:=rfl;have hgt:decide (((c::l).length:Int)>0)=true:=by simp
  have hsw:(spell k==c::l)=(c::l==spell k):=by rw[Bool.eq_iff_iff,beq_iff_eq,beq_iff_eq];exact⟨Eq.symm,Eq.symm⟩
  rw[hi,hb0,hne,hgt,hsw];simp only[ah,aK,bg,Bool.not_false];cases k==2<;>cases k==3<;>cases k==4<;>cases k==5<;>cases k==6<;>cases k==7<;>cases k==8<;>cases(c.toNat:Int)==35<;>exact⟨rfl,rfl⟩
end Go.Proofs.YtmeggnejljdlfaaGreatDoor
namespace Go.Proofs.YtmeggnejljdlfaaGreatDoor
open Go Go.Vm
open Int (reduceLE reduceLT reduceSub reduceAdd)
def gu(x a b:Int):M.dF x a b=some (decide (x>=a) && decide (x<=b)):=by simp only[M.dF,M.CX];cases decide (x>=a)<;>rfl
def dM(x a b:Int):M.bK x a b=some (decide (x>=a) && decide (x<=b)):=gu x a b
def afU(op:Int):Bool:=op==60||op==57||op==58||op==59||op==55||op==56||op==99||op==63||op==48||op==47||op==50||op==62||op==49||op==67||op==46||op==45||op==44
def AB(op:Int):M.yK op=some (afU op)/\∃lv,M.ou op=some lv/\(lv !=0)=afU op:=by
 by_cases h44:op=44
 ·subst h44;exact⟨rfl,_,rfl,rfl⟩
 have e44:(op==44)=false:=by simpa using h44
 by_cases h45:op=45
 ·subst h45;exact⟨rfl,_,rfl,rfl⟩
 have e45:(op==45)=false:=by simpa using h45
 by_cases h67:op=67
 ·subst h67;exact⟨rfl,_,rfl,rfl⟩
 have e67:(op==67)=false:=by simpa using h67
 by_cases h46:op=46
 ·subst h46;exact⟨rfl,_,rfl,rfl⟩
 have e46:(op==46)=false:=by simpa using h46
 by_cases h63:op=63
 ·subst h63;exact⟨rfl,_,rfl,rfl⟩
 have e63:(op==63)=false:=by simpa using h63
 by_cases h48:op=48
 ·subst h48;exact⟨rfl,_,rfl,rfl⟩
 have e48:(op==48)=false:=by simpa using h48
 by_cases h47:op=47
 ·subst h47;exact⟨rfl,_,rfl,rfl⟩
 have e47:(op==47)=false:=by simpa using h47
 by_cases h50:op=50
 ·subst h50;exact⟨rfl,_,rfl,rfl⟩
 have e50:(op==50)=false:=by simpa using h50
 by_cases h62:op=62
 ·subst h62;exact⟨rfl,_,rfl,rfl⟩
 have e62:(op==62)=false:=by simpa using h62
 by_cases h49:op=49
 ·subst h49;exact⟨rfl,_,rfl,rfl⟩
 have e49:(op==49)=false:=by simpa using h49
 by_cases h99:op=99
 ·subst h99;exact⟨rfl,_,rfl,rfl⟩
 have e99:(op==99)=false:=by simpa using h99
 by_cases h55:op=55
 ·subst h55;exact⟨rfl,_,rfl,rfl⟩
 have e55:(op==55)=false:=by simpa using h55
 by_cases h56:op=56
 ·subst h56;exact⟨rfl,_,rfl,rfl⟩
 have e56:(op==56)=false:=by simpa using h56
 by_cases h57:op=57
 ·subst h57;exact⟨rfl,_,rfl,rfl⟩
 have e57:(op==57)=false:=by simpa using h57
 by_cases h58:op=58
 ·subst h58;exact⟨rfl,_,rfl,rfl⟩
 have e58:(op==58)=false:=by simpa using h58
 by_cases h59:op=59
 ·subst h59;exact⟨rfl,_,rfl,rfl⟩
 have e59:(op==59)=false:=by simpa using h59
 by_cases h60:op=60
 ·subst h60;exact⟨rfl,_,rfl,rfl⟩
 have e60:(op==60)=false:=by simpa using h60
 simp only[M.yK,M.QO,M.ou,M.Ku,afU,e44,e45,e67,e46,e63,e48,e47,e50,e62,e49,e99,e55,e56,e57,e58,e59,e60,bg,Bool.or_self];exact⟨trivial,0,rfl,rfl⟩
def afV(op:Int):Bool:=op==54||(decide (op>=38) && decide (op<=43))
def oO(op:Int):M.qM op=some (afV op)/\M.yZ op=some (afV op):=by simp only[M.qM,M.Jy,M.yZ,M.Ot,gu,dM,ah,afV];cases op==54<;>exact⟨rfl,rfl⟩
def aap(s:aA)(l:List (aA))(hl:l.length<=1048576):M.slices_Contains (encS l) s=some (decide (UC s l 0>=0)):=by simp only[M.slices_Contains,M.Cj,ajw s l hl,ah]
def IZ:([[D.str []],[D.str [62]],[D.str [62,62]],[D.str [124]]]:au)=encS [[],[62],[62,62],[124]]:=rfl
def acK(s:aA):decide (UC s [[],[62],[62,62],[124]] 0>=0)=(s==[]||(s==[62]||(s==[62,62]||s==[124]))):=by
 have sw:∀a b:aA,(a==b)=(b==a):=λa b=>by rw[Bool.eq_iff_iff,beq_iff_eq,beq_iff_eq];exact⟨Eq.symm,Eq.symm⟩
 simp only[UC,sw _ s];cases s==[]<;>cases s==[62]<;>cases s==[62,62]<;>cases s==[124]<;>rfl
def FOk(k op:Int)(t o:aA)(kids:au):Prop:=∃b,M.aH k op t o kids=some b/\M.iZ k op t o kids=some b
def aGi(k:Int)(op:Int)(t o:aA)(kids:au)(ht:t.length<=1048576)(ho:o.length<=1048576)(hk:kids.length<=400)(hkk:k=1\/k=2\/k=3\/k=4\/k=5\/k=6\/k=7\/k=8\/k=9\/k=10\/k=11\/k=12\/k=13\/k=14\/k=15\/k=16\/k=20\/k=22\/k=23\/k=24\/k=25\/k=26\/k=27\/k=28\/k=29\/k=30\/k=31\/k=32\/k=33\/k=34\/k=40\/k=41\/k=44\/k=45):FOk k op t o kids:=by
 have hn:=Yh t ht;have hn2:=Yh o ho;have hb:=YW t;have ha:=oO op;obtain⟨hi,lv,hlv,hi2⟩:=AB op;have tk:=λk hk=>WH k t 0 ht hk
 have tk2:=tk 2 ⟨ak,ak⟩;have tk3:=tk 3 ⟨ak,ak⟩;have tk4:=tk 4 ⟨ak,ak⟩;have tk5:=tk 5 ⟨ak,ak⟩;have hc2:bM IntKind.i64 [D.int IntKind.i64 3,D.int IntKind.i64 4,D.int IntKind.i64 5] (i64.wrap 0).toNat=some 3:=rfl;have d12:decide ((0:Int)<=i64.wrap 0)=true:=rfl;have d22:decide (i64.wrap 0<3)=true:=rfl;have hc3:bM IntKind.i64 [D.int IntKind.i64 3,D.int IntKind.i64 4,D.int IntKind.i64 5] (i64.wrap 1).toNat=some 4:=rfl;have d13:decide ((0:Int)<=i64.wrap 1)=true:=rfl;have d23:decide (i64.wrap 1<3)=true:=rfl;have hc4:bM IntKind.i64 [D.int IntKind.i64 3,D.int IntKind.i64 4,D.int IntKind.i64 5] (i64.wrap 2).toNat=some 5:=rfl;have d14:decide ((0:Int)<=i64.wrap 2)=true:=rfl;have d24:decide (i64.wrap 2<3)=true:=rfl;have z1:decide ((kids.length:Int)<=400)=true:=zdt ak;have z2:decide ((0:Int)<=(kids.length:Int))=true:=zdt ak;have z3:decide ((kids.length:Int)<=(kids.length:Int))=true:=zdt ak;rcases hkk with rfl|rfl|rfl|rfl|rfl|rfl|rfl|rfl|rfl|rfl|rfl|rfl|rfl|rfl|rfl|rfl|rfl|rfl|rfl|rfl|rfl|rfl|rfl|rfl|rfl|rfl|rfl|rfl|rfl|rfl|rfl|rfl|rfl|rfl<;>simp only[FOk,M.aH,M.aY,M.dD,M.bZ,M.eX,M.dX,M.cu,M.dh,M.iZ,M.jO,M.fC,M.lC,M.jS,M.lD,M.jY,M.kM,M.jm,M.jZ,M.kN,M.kC,M.kP,M.l9,M.nG,gu,dM,hn.1,hn.2,hn2.1,hn2.2,hb.1,hb.2,ha.1,ha.2,hi,hlv,hi2,tk2.1,tk2.2,tk3.1,tk3.2,tk4.1,tk4.2,tk5.1,tk5.2,hc2,d12,d22,hc3,d13,d23,hc4,d14,d24,z1,z2,z3,ge_iff_le,Int.reduceBEq,reduceLE,reduceSub,decide_true,decide_false,aK,bg,Bool.and_true,Bool.and_false,Bool.true_and,Bool.false_and,ah]
 ·cases(op==0)<;>cases(I9 t)<;>cases(o==[])<;>exact⟨_,rfl,rfl⟩
 ·cases(op==0)<;>cases(Rz 3 t)<;>cases(o==[])<;>exact⟨_,rfl,rfl⟩
 ·cases(op==0)<;>cases(Rz 4 t)<;>cases(o==[])<;>exact⟨_,rfl,rfl⟩
 ·cases(op==0)<;>cases(Rz 5 t)<;>cases(o==[])<;>exact⟨_,rfl,rfl⟩
 ·cases(op==0)<;>cases(I9 t)<;>cases(o==[])<;>exact⟨_,rfl,rfl⟩
 ·cases(op==0)<;>cases(t==[])<;>cases(o==[])<;>exact⟨_,rfl,rfl⟩
 ·cases(op==0)<;>cases(I9 t)<;>cases(o==[])<;>exact⟨_,rfl,rfl⟩
 ·cases(op==0)<;>cases(afS t)<;>cases(o==[])<;>exact⟨_,rfl,rfl⟩
 ·cases(op==51)<;>cases(op==52)<;>cases(t==[])<;>cases(o==[])<;>exact⟨_,rfl,rfl⟩
 ·cases(op==51)<;>cases(op==52)<;>cases(t==[])<;>cases(o==[])<;>exact⟨_,rfl,rfl⟩
 ·cases(op==55)<;>cases(op==56)<;>cases(op==61)<;>cases(t==[])<;>cases(o==[])<;>exact⟨_,rfl,rfl⟩
 ·cases(afU op)<;>cases(t==[])<;>cases(o==[])<;>exact⟨_,rfl,rfl⟩
 ·cases(op==0)<;>cases(I9 t)<;>cases(o==[])<;>exact⟨_,rfl,rfl⟩
 ·cases(op==0)<;>cases(t==[])<;>cases(o==[])<;>exact⟨_,rfl,rfl⟩
 ·cases(afV op)<;>cases(t==[])<;>cases(o==[])<;>exact⟨_,rfl,rfl⟩
 ·cases(op==0)<;>cases(t==[])<;>cases(o==[])<;>exact⟨_,rfl,rfl⟩
 ·cases(op==0)<;>cases(t==[])<;>cases(o==[])<;>exact⟨_,rfl,rfl⟩
 ·cases(op==0)<;>cases(t==[])<;>cases(o==[])<;>exact⟨_,rfl,rfl⟩
 ·cases(op==0)<;>cases(t==[])<;>cases(o==[])<;>exact⟨_,rfl,rfl⟩
 ·cases(op==0)<;>cases(t==[])<;>cases(o==[])<;>exact⟨_,rfl,rfl⟩
 ·cases(op==0)<;>cases(t==[])<;>cases(o==[])<;>exact⟨_,rfl,rfl⟩
 ·cases(op==0)<;>cases(t==[])<;>cases(o==[])<;>exact⟨_,rfl,rfl⟩
 ·cases(op==0)<;>cases(I9 t)<;>cases(o==[])<;>exact⟨_,rfl,rfl⟩
 ·cases(op==0)<;>cases(t==[])<;>cases(o==[])<;>exact⟨_,rfl,rfl⟩
 ·cases(op==0)<;>cases(t==[])<;>cases(o==[])<;>exact⟨_,rfl,rfl⟩
 ·cases(op==0)<;>cases(t==[])<;>cases(o==[])<;>exact⟨_,rfl,rfl⟩
 ·cases(op==0)<;>cases(t==[])<;>cases(o==[])<;>exact⟨_,rfl,rfl⟩
 ·cases(op==0)<;>cases(I9 t)<;>cases(I9 o)<;>exact⟨_,rfl,rfl⟩
 ·cases(op==0)<;>cases(t==[])<;>cases(o==[])<;>exact⟨_,rfl,rfl⟩
 ·cases(op==0)<;>cases(Rz 2 t)<;>cases(o==[])<;>exact⟨_,rfl,rfl⟩
 ·cases(op==0)<;>cases(t==[])<;>cases(o==[])<;>exact⟨_,rfl,rfl⟩
 ·cases(op==0)<;>cases(t==[])<;>cases(o==[])<;>exact⟨_,rfl,rfl⟩
 ·cases(op==0)<;>cases(I9 t)<;>cases(o==[])<;>exact⟨_,rfl,rfl⟩
 ·cases(op==0)<;>cases(t==[])<;>cases(o==[])<;>exact⟨_,rfl,rfl⟩
def aXx(op:Int)(t o:aA)(kids:au)(ht:t.length<=1048576)(ho:o.length<=1048576)(hk:kids.length<=400):FOk 21 op t o kids:=by
 have hp:=aap o [[],[62],[62,62],[124]] (by decide);rw[acK] at hp
 by_cases h0:op=0
 ·subst h0;simp only[FOk,M.aH,M.aY,M.dD,M.bZ,M.eX,M.dX,M.cu,M.dh,M.iZ,M.jO,M.fC,M.lC,M.jS,M.lD,M.jY,M.kM,M.jm,M.jZ,M.kN,M.kC,M.kP,M.l9,M.nG,gu,dM,IZ,hp,show i64.wrap (0+1)=1 from rfl,show i64.wrap (1+1)=2 from rfl,show i64.wrap (1+i64.wrap (Int.tdiv 1 3))=1 from rfl,show i64.wrap (1+i64.wrap (Int.tdiv 2 3))=1 from rfl,show i64.wrap (1+i64.wrap (Int.tdiv 3 3))=2 from rfl,show i64.wrap (2+i64.wrap (Int.tdiv 1 3))=2 from rfl,show i64.wrap (2+i64.wrap (Int.tdiv 3 3))=3 from rfl,ge_iff_le,Int.reduceBEq,reduceLE,reduceSub,decide_true,decide_false,aK,bg,Bool.and_true,Bool.and_false,Bool.true_and,Bool.false_and,ah];generalize (t==[])=a0;generalize (o==[])=a1;generalize (o==[62])=a2;generalize (o==[62,62])=a3;generalize (o==[124])=a4;cases a0<;>cases a1<;>cases a2<;>cases a3<;>cases a4<;>exact⟨_,rfl,rfl⟩
 by_cases h1:op=1
 ·subst h1;simp only[FOk,M.aH,M.aY,M.dD,M.bZ,M.eX,M.dX,M.cu,M.dh,M.iZ,M.jO,M.fC,M.lC,M.jS,M.lD,M.jY,M.kM,M.jm,M.jZ,M.kN,M.kC,M.kP,M.l9,M.nG,gu,dM,IZ,hp,show i64.wrap (0+1)=1 from rfl,show i64.wrap (1+1)=2 from rfl,show i64.wrap (1+i64.wrap (Int.tdiv 1 3))=1 from rfl,show i64.wrap (1+i64.wrap (Int.tdiv 2 3))=1 from rfl,show i64.wrap (1+i64.wrap (Int.tdiv 3 3))=2 from rfl,show i64.wrap (2+i64.wrap (Int.tdiv 1 3))=2 from rfl,show i64.wrap (2+i64.wrap (Int.tdiv 3 3))=3 from rfl,ge_iff_le,Int.reduceBEq,reduceLE,reduceSub,decide_true,decide_false,aK,bg,Bool.and_true,Bool.and_false,Bool.true_and,Bool.false_and,ah];generalize (t==[])=a0;generalize (o==[])=a1;generalize (o==[62])=a2;generalize (o==[62,62])=a3;generalize (o==[124])=a4;cases a0<;>cases a1<;>cases a2<;>cases a3<;>cases a4<;>exact⟨_,rfl,rfl⟩
 have e0:(op==0)=false:=by simpa using h0
 have e1:(op==1)=false:=by simpa using h1
 have hf:(decide ((0:Int)<=op) && decide (op<=1))=false:=by rw[Bool.and_eq_false_iff,decide_eq_false_iff_not,decide_eq_false_iff_not];omega
 simp only[FOk,M.aH,M.aY,M.dD,M.bZ,M.eX,M.dX,M.cu,M.dh,M.iZ,M.jO,M.fC,M.lC,M.jS,M.lD,M.jY,M.kM,M.jm,M.jZ,M.kN,M.kC,M.kP,M.l9,M.nG,gu,dM,IZ,hp,e0,e1,hf,ge_iff_le,Int.reduceBEq,reduceLE,reduceSub,decide_true,decide_false,aK,bg,Bool.and_true,Bool.and_false,Bool.true_and,Bool.false_and,ah];generalize (t==[])=a0;generalize (o==[])=a1;generalize (o==[62])=a2;generalize (o==[62,62])=a3;generalize (o==[124])=a4;cases a0<;>cases a1<;>cases a2<;>cases a3<;>cases a4<;>exact⟨_,rfl,rfl⟩
def aXy(op:Int)(t o:aA)(kids:au)(ht:t.length<=1048576)(ho:o.length<=1048576)(hk:kids.length<=400):FOk 42 op t o kids:=by
 have hp:=aap o [[],[62],[62,62],[124]] (by decide);rw[acK] at hp
 by_cases h1:op=1
 ·subst h1;simp only[FOk,M.aH,M.aY,M.dD,M.bZ,M.eX,M.dX,M.cu,M.dh,M.iZ,M.jO,M.fC,M.lC,M.jS,M.lD,M.jY,M.kM,M.jm,M.jZ,M.kN,M.kC,M.kP,M.l9,M.nG,gu,dM,IZ,hp,show i64.wrap (0+1)=1 from rfl,show i64.wrap (1+1)=2 from rfl,show i64.wrap (1+i64.wrap (Int.tdiv 1 3))=1 from rfl,show i64.wrap (1+i64.wrap (Int.tdiv 2 3))=1 from rfl,show i64.wrap (1+i64.wrap (Int.tdiv 3 3))=2 from rfl,show i64.wrap (2+i64.wrap (Int.tdiv 1 3))=2 from rfl,show i64.wrap (2+i64.wrap (Int.tdiv 3 3))=3 from rfl,ge_iff_le,Int.reduceBEq,reduceLE,reduceSub,decide_true,decide_false,aK,bg,Bool.and_true,Bool.and_false,Bool.true_and,Bool.false_and,ah];generalize (t==[])=a0;generalize (o==[])=a1;cases a0<;>cases a1<;>exact⟨_,rfl,rfl⟩
 by_cases h2:op=2
 ·subst h2;simp only[FOk,M.aH,M.aY,M.dD,M.bZ,M.eX,M.dX,M.cu,M.dh,M.iZ,M.jO,M.fC,M.lC,M.jS,M.lD,M.jY,M.kM,M.jm,M.jZ,M.kN,M.kC,M.kP,M.l9,M.nG,gu,dM,IZ,hp,show i64.wrap (0+1)=1 from rfl,show i64.wrap (1+1)=2 from rfl,show i64.wrap (1+i64.wrap (Int.tdiv 1 3))=1 from rfl,show i64.wrap (1+i64.wrap (Int.tdiv 2 3))=1 from rfl,show i64.wrap (1+i64.wrap (Int.tdiv 3 3))=2 from rfl,show i64.wrap (2+i64.wrap (Int.tdiv 1 3))=2 from rfl,show i64.wrap (2+i64.wrap (Int.tdiv 3 3))=3 from rfl,ge_iff_le,Int.reduceBEq,reduceLE,reduceSub,decide_true,decide_false,aK,bg,Bool.and_true,Bool.and_false,Bool.true_and,Bool.false_and,ah];generalize (t==[])=a0;generalize (o==[])=a1;cases a0<;>cases a1<;>exact⟨_,rfl,rfl⟩
 by_cases h3:op=3
 ·subst h3;simp only[FOk,M.aH,M.aY,M.dD,M.bZ,M.eX,M.dX,M.cu,M.dh,M.iZ,M.jO,M.fC,M.lC,M.jS,M.lD,M.jY,M.kM,M.jm,M.jZ,M.kN,M.kC,M.kP,M.l9,M.nG,gu,dM,IZ,hp,show i64.wrap (0+1)=1 from rfl,show i64.wrap (1+1)=2 from rfl,show i64.wrap (1+i64.wrap (Int.tdiv 1 3))=1 from rfl,show i64.wrap (1+i64.wrap (Int.tdiv 2 3))=1 from rfl,show i64.wrap (1+i64.wrap (Int.tdiv 3 3))=2 from rfl,show i64.wrap (2+i64.wrap (Int.tdiv 1 3))=2 from rfl,show i64.wrap (2+i64.wrap (Int.tdiv 3 3))=3 from rfl,ge_iff_le,Int.reduceBEq,reduceLE,reduceSub,decide_true,decide_false,aK,bg,Bool.and_true,Bool.and_false,Bool.true_and,Bool.false_and,ah];generalize (t==[])=a0;generalize (o==[])=a1;cases a0<;>cases a1<;>exact⟨_,rfl,rfl⟩
 have e1:(op==1)=false:=by simpa using h1
 have e2:(op==2)=false:=by simpa using h2
 have e3:(op==3)=false:=by simpa using h3
 have hf:(decide ((1:Int)<=op) && decide (op<=3))=false:=by rw[Bool.and_eq_false_iff,decide_eq_false_iff_not,decide_eq_false_iff_not];omega
 simp only[FOk,M.aH,M.aY,M.dD,M.bZ,M.eX,M.dX,M.cu,M.dh,M.iZ,M.jO,M.fC,M.lC,M.jS,M.lD,M.jY,M.kM,M.jm,M.jZ,M.kN,M.kC,M.kP,M.l9,M.nG,gu,dM,IZ,hp,e1,e2,e3,hf,ge_iff_le,Int.reduceBEq,reduceLE,reduceSub,decide_true,decide_false,aK,bg,Bool.and_true,Bool.and_false,Bool.true_and,Bool.false_and,ah];generalize (t==[])=a0;generalize (o==[])=a1;cases a0<;>cases a1<;>exact⟨_,rfl,rfl⟩
def aXz(op:Int)(t o:aA)(kids:au)(ht:t.length<=1048576)(ho:o.length<=1048576)(hk:kids.length<=400):FOk 43 op t o kids:=by
 have hp:=aap o [[],[62],[62,62],[124]] (by decide);rw[acK] at hp
 by_cases h1:op=1
 ·subst h1;simp only[FOk,M.aH,M.aY,M.dD,M.bZ,M.eX,M.dX,M.cu,M.dh,M.iZ,M.jO,M.fC,M.lC,M.jS,M.lD,M.jY,M.kM,M.jm,M.jZ,M.kN,M.kC,M.kP,M.l9,M.nG,gu,dM,IZ,hp,show i64.wrap (0+1)=1 from rfl,show i64.wrap (1+1)=2 from rfl,show i64.wrap (1+i64.wrap (Int.tdiv 1 3))=1 from rfl,show i64.wrap (1+i64.wrap (Int.tdiv 2 3))=1 from rfl,show i64.wrap (1+i64.wrap (Int.tdiv 3 3))=2 from rfl,show i64.wrap (2+i64.wrap (Int.tdiv 1 3))=2 from rfl,show i64.wrap (2+i64.wrap (Int.tdiv 3 3))=3 from rfl,ge_iff_le,Int.reduceBEq,reduceLE,reduceSub,decide_true,decide_false,aK,bg,Bool.and_true,Bool.and_false,Bool.true_and,Bool.false_and,ah];generalize (t==[])=a0;generalize (o==[])=a1;cases a0<;>cases a1<;>exact⟨_,rfl,rfl⟩
 by_cases h3:op=3
 ·subst h3;simp only[FOk,M.aH,M.aY,M.dD,M.bZ,M.eX,M.dX,M.cu,M.dh,M.iZ,M.jO,M.fC,M.lC,M.jS,M.lD,M.jY,M.kM,M.jm,M.jZ,M.kN,M.kC,M.kP,M.l9,M.nG,gu,dM,IZ,hp,show i64.wrap (0+1)=1 from rfl,show i64.wrap (1+1)=2 from rfl,show i64.wrap (1+i64.wrap (Int.tdiv 1 3))=1 from rfl,show i64.wrap (1+i64.wrap (Int.tdiv 2 3))=1 from rfl,show i64.wrap (1+i64.wrap (Int.tdiv 3 3))=2 from rfl,show i64.wrap (2+i64.wrap (Int.tdiv 1 3))=2 from rfl,show i64.wrap (2+i64.wrap (Int.tdiv 3 3))=3 from rfl,ge_iff_le,Int.reduceBEq,reduceLE,reduceSub,decide_true,decide_false,aK,bg,Bool.and_true,Bool.and_false,Bool.true_and,Bool.false_and,ah];generalize (t==[])=a0;generalize (o==[])=a1;cases a0<;>cases a1<;>exact⟨_,rfl,rfl⟩
 have e1:(op==1)=false:=by simpa using h1
 have e3:(op==3)=false:=by simpa using h3
 have hf:True:=trivial;simp only[FOk,M.aH,M.aY,M.dD,M.bZ,M.eX,M.dX,M.cu,M.dh,M.iZ,M.jO,M.fC,M.lC,M.jS,M.lD,M.jY,M.kM,M.jm,M.jZ,M.kN,M.kC,M.kP,M.l9,M.nG,gu,dM,IZ,hp,e1,e3,hf,ge_iff_le,Int.reduceBEq,reduceLE,reduceSub,decide_true,decide_false,aK,bg,Bool.and_true,Bool.and_false,Bool.true_and,Bool.false_and,ah];generalize (t==[])=a0;generalize (o==[])=a1;cases a0<;>cases a1<;>exact⟨_,rfl,rfl⟩
def aq6(k:Int)(op:Int)(t o:aA)(kids:au)(ht:t.length<=1048576)(ho:o.length<=1048576)(hk:kids.length<=400):FOk k op t o kids:=by
 by_cases hkk:k=1\/k=2\/k=3\/k=4\/k=5\/k=6\/k=7\/k=8\/k=9\/k=10\/k=11\/k=12\/k=13\/k=14\/k=15\/k=16\/k=20\/k=22\/k=23\/k=24\/k=25\/k=26\/k=27\/k=28\/k=29\/k=30\/k=31\/k=32\/k=33\/k=34\/k=40\/k=41\/k=44\/k=45
 ·exact aGi k op t o kids ht ho hk hkk
 by_cases h21:k=21
 ·subst h21;exact aXx op t o kids ht ho hk
 by_cases h42:k=42
 ·subst h42;exact aXy op t o kids ht ho hk
 by_cases h43:k=43
 ·subst h43;exact aXz op t o kids ht ho hk
 have h1:k≠1:=ak;have h2:k≠2:=ak;have h3:k≠3:=ak;have h4:k≠4:=ak;have h5:k≠5:=ak;have h6:k≠6:=ak;have h7:k≠7:=ak;have h8:k≠8:=ak;have h9:k≠9:=ak;have h10:k≠10:=ak;have h11:k≠11:=ak;have h12:k≠12:=ak;have h13:k≠13:=ak;have h14:k≠14:=ak;have h15:k≠15:=ak;have h16:k≠16:=ak;have h20:k≠20:=ak;have h22:k≠22:=ak;have h23:k≠23:=ak;have h24:k≠24:=ak;have h25:k≠25:=ak;have h26:k≠26:=ak;have h27:k≠27:=ak;have h28:k≠28:=ak;have h29:k≠29:=ak;have h30:k≠30:=ak;have h31:k≠31:=ak;have h32:k≠32:=ak;have h33:k≠33:=ak;have h34:k≠34:=ak;have h40:k≠40:=ak;have h41:k≠41:=ak;have h44:k≠44:=ak;have h45:k≠45:=ak;have f1:(decide (k>=1) && decide (k<=16))=false:=by rw[Bool.and_eq_false_iff,decide_eq_false_iff_not,decide_eq_false_iff_not];omega
 have f2:(decide (k>=20) && decide (k<=34))=false:=by rw[Bool.and_eq_false_iff,decide_eq_false_iff_not,decide_eq_false_iff_not];omega
 have f3:(decide (k>=40) && decide (k<=45))=false:=by rw[Bool.and_eq_false_iff,decide_eq_false_iff_not,decide_eq_false_iff_not];omega
 have f4:(decide (k>=1) && decide (k<=15))=false:=by rw[Bool.and_eq_false_iff,decide_eq_false_iff_not,decide_eq_false_iff_not];omega
 have g:(k==16)=false:=by simpa using h16
 have e1:(k==1)=false:=by simpa using h1
 have e2:(k==2)=false:=by simpa using h2
 have e3:(k==3)=false:=by simpa using h3
 have e4:(k==4)=false:=by simpa using h4
 have e5:(k==5)=false:=by simpa using h5
 have e6:(k==6)=false:=by simpa using h6
 have e7:(k==7)=false:=by simpa using h7
 have e8:(k==8)=false:=by simpa using h8
 have e9:(k==9)=false:=by simpa using h9
 have e10:(k==10)=false:=by simpa using h10
 have e11:(k==11)=false:=by simpa using h11
 have e12:(k==12)=false:=by simpa using h12
 have e13:(k==13)=false:=by simpa using h13
 have e14:(k==14)=false:=by simpa using h14
 have e15:(k==15)=false:=by simpa using h15
 have e16:(k==16)=false:=by simpa using h16
 have e20:(k==20)=false:=by simpa using h20
 have e21:(k==21)=false:=by simpa using h21
 have e22:(k==22)=false:=by simpa using h22
 have e23:(k==23)=false:=by simpa using h23
 have e24:(k==24)=false:=by simpa using h24
 have e25:(k==25)=false:=by simpa using h25
 have e26:(k==26)=false:=by simpa using h26
 have e27:(k==27)=false:=by simpa using h27
 have e28:(k==28)=false:=by simpa using h28
 have e29:(k==29)=false:=by simpa using h29
 have e30:(k==30)=false:=by simpa using h30
 have e31:(k==31)=false:=by simpa using h31
 have e32:(k==32)=false:=by simpa using h32
 have e33:(k==33)=false:=by simpa using h33
 have e34:(k==34)=false:=by simpa using h34
 have e40:(k==40)=false:=by simpa using h40
 have e41:(k==41)=false:=by simpa using h41
 have e42:(k==42)=false:=by simpa using h42
 have e43:(k==43)=false:=by simpa using h43
 have e44:(k==44)=false:=by simpa using h44
 have e45:(k==45)=false:=by simpa using h45
 simp only[FOk,M.aH,M.aY,M.dD,M.bZ,M.iZ,M.jO,M.fC,M.lC,M.jS,M.lD,gu,dM,f1,f2,f3,f4,e1,e2,e3,e4,e5,e6,e7,e8,e9,e10,e11,e12,e13,e14,e15,e16,e20,e21,e22,e23,e24,e25,e26,e27,e28,e29,e30,e31,e32,e33,e34,e40,e41,e42,e43,e44,e45,bg,ah];exact⟨false,rfl,rfl⟩
end Go.Proofs.YtmeggnejljdlfaaGreatDoor
namespace Go.Proofs.YtmeggnejljdlfaaGreatDoor
open Go Go.Vm
open Int (reduceLE reduceLT reduceSub reduceAdd)
structure Cons(k op:Int)(n:Nat):Prop where
 two:k=29\/k=30->n=2
 four:k=31->n=4
 rule:k=42->(op=1/\n=1)\/(op=2/\n=1)\/(op=3/\n=2)
 range:k=43->(op=1/\n=2)\/(op=3/\n=3)
def a7y(op:Int)(t o:aA)(kids:au)(h:M.aH 29 op t o kids=some true):kids.length=2:=by simp only[M.aH,M.aY,M.dD,M.bZ,M.eX,M.dX,M.cu,M.dh,gu,dM,Int.reduceBEq,reduceLE,reduceLT,reduceSub,reduceAdd,dJ,ah] at h;revert h;cases op==0<;>cases t==[]<;>cases o==[]<;>simp<;>omega
def a7z(op:Int)(t o:aA)(kids:au)(h:M.aH 30 op t o kids=some true):kids.length=2:=by simp only[M.aH,M.aY,M.dD,M.bZ,M.eX,M.dX,M.cu,M.dh,gu,dM,Int.reduceBEq,reduceLE,reduceLT,reduceSub,reduceAdd,dJ,ah] at h;revert h;cases op==0<;>cases t==[]<;>cases o==[]<;>simp<;>omega
def a7A(op:Int)(t o:aA)(kids:au)(h:M.aH 31 op t o kids=some true):kids.length=4:=by simp only[M.aH,M.aY,M.dD,M.bZ,M.eX,M.dX,M.cu,M.dh,gu,dM,Int.reduceBEq,reduceLE,reduceLT,reduceSub,reduceAdd,dJ,ah] at h;revert h;cases op==0<;>cases t==[]<;>cases o==[]<;>simp<;>omega
def a7B(op:Int)(t o:aA)(kids:au)(h:M.aH 42 op t o kids=some true):(op=1/\kids.length=1)\/(op=2/\kids.length=1)\/(op=3/\kids.length=2):=by
 by_cases h1:op=1
 ·subst h1;simp only[M.aH,M.aY,M.dD,M.bZ,M.eX,M.dX,M.cu,M.dh,gu,dM,show i64.wrap (1+i64.wrap (Int.tdiv 1 3))=1 from rfl,show i64.wrap (1+i64.wrap (Int.tdiv 2 3))=1 from rfl,show i64.wrap (1+i64.wrap (Int.tdiv 3 3))=2 from rfl,show i64.wrap (2+i64.wrap (Int.tdiv 1 3))=2 from rfl,show i64.wrap (2+i64.wrap (Int.tdiv 3 3))=3 from rfl,Int.reduceBEq,reduceLE,reduceLT,reduceSub,reduceAdd,dJ,ah] at h;revert h;cases t==[]<;>cases o==[]<;>simp<;>omega
 have e1:(op==1)=false:=by simpa using h1
 by_cases h2:op=2
 ·subst h2;simp only[M.aH,M.aY,M.dD,M.bZ,M.eX,M.dX,M.cu,M.dh,gu,dM,show i64.wrap (1+i64.wrap (Int.tdiv 1 3))=1 from rfl,show i64.wrap (1+i64.wrap (Int.tdiv 2 3))=1 from rfl,show i64.wrap (1+i64.wrap (Int.tdiv 3 3))=2 from rfl,show i64.wrap (2+i64.wrap (Int.tdiv 1 3))=2 from rfl,show i64.wrap (2+i64.wrap (Int.tdiv 3 3))=3 from rfl,Int.reduceBEq,reduceLE,reduceLT,reduceSub,reduceAdd,dJ,ah] at h;revert h;cases t==[]<;>cases o==[]<;>simp<;>omega
 have e2:(op==2)=false:=by simpa using h2
 by_cases h3:op=3
 ·subst h3;simp only[M.aH,M.aY,M.dD,M.bZ,M.eX,M.dX,M.cu,M.dh,gu,dM,show i64.wrap (1+i64.wrap (Int.tdiv 1 3))=1 from rfl,show i64.wrap (1+i64.wrap (Int.tdiv 2 3))=1 from rfl,show i64.wrap (1+i64.wrap (Int.tdiv 3 3))=2 from rfl,show i64.wrap (2+i64.wrap (Int.tdiv 1 3))=2 from rfl,show i64.wrap (2+i64.wrap (Int.tdiv 3 3))=3 from rfl,Int.reduceBEq,reduceLE,reduceLT,reduceSub,reduceAdd,dJ,ah] at h;revert h;cases t==[]<;>cases o==[]<;>simp<;>omega
 have e3:(op==3)=false:=by simpa using h3
 have hf:(decide ((1:Int)<=op) && decide (op<=3))=false:=by rw[Bool.and_eq_false_iff,decide_eq_false_iff_not,decide_eq_false_iff_not];omega
 simp only[M.aH,M.aY,M.dD,M.bZ,M.eX,M.dX,M.cu,M.dh,gu,dM,e1,e2,e3,hf,Int.reduceBEq,reduceLE,reduceLT,reduceSub,reduceAdd,dJ,ah] at h;cases h
def a7C(op:Int)(t o:aA)(kids:au)(h:M.aH 43 op t o kids=some true):(op=1/\kids.length=2)\/(op=3/\kids.length=3):=by
 by_cases h1:op=1
 ·subst h1;simp only[M.aH,M.aY,M.dD,M.bZ,M.eX,M.dX,M.cu,M.dh,gu,dM,show i64.wrap (1+i64.wrap (Int.tdiv 1 3))=1 from rfl,show i64.wrap (1+i64.wrap (Int.tdiv 2 3))=1 from rfl,show i64.wrap (1+i64.wrap (Int.tdiv 3 3))=2 from rfl,show i64.wrap (2+i64.wrap (Int.tdiv 1 3))=2 from rfl,show i64.wrap (2+i64.wrap (Int.tdiv 3 3))=3 from rfl,Int.reduceBEq,reduceLE,reduceLT,reduceSub,reduceAdd,dJ,ah] at h;revert h;cases t==[]<;>cases o==[]<;>simp<;>omega
 have e1:(op==1)=false:=by simpa using h1
 by_cases h3:op=3
 ·subst h3;simp only[M.aH,M.aY,M.dD,M.bZ,M.eX,M.dX,M.cu,M.dh,gu,dM,show i64.wrap (1+i64.wrap (Int.tdiv 1 3))=1 from rfl,show i64.wrap (1+i64.wrap (Int.tdiv 2 3))=1 from rfl,show i64.wrap (1+i64.wrap (Int.tdiv 3 3))=2 from rfl,show i64.wrap (2+i64.wrap (Int.tdiv 1 3))=2 from rfl,show i64.wrap (2+i64.wrap (Int.tdiv 3 3))=3 from rfl,Int.reduceBEq,reduceLE,reduceLT,reduceSub,reduceAdd,dJ,ah] at h;revert h;cases t==[]<;>cases o==[]<;>simp<;>omega
 have e3:(op==3)=false:=by simpa using h3
 have hf:True:=trivial;simp only[M.aH,M.aY,M.dD,M.bZ,M.eX,M.dX,M.cu,M.dh,gu,dM,e1,e3,hf,Int.reduceBEq,reduceLE,reduceLT,reduceSub,reduceAdd,dJ,ah] at h;cases h
def aon{k op:Int}{t o:aA}{kids:au}(h:M.aH k op t o kids=some true):Cons k op kids.length:=
 ⟨λe=>(by rcases e with rfl|rfl;exact a7y op t o kids h;exact a7z op t o kids h),λe=>(by subst e;exact a7A op t o kids h),λe=>(by subst e;exact a7B op t o kids h),λe=>(by subst e;exact a7C op t o kids h)⟩
def uQ(k:Int):Bool:=decide (1<=k) && decide (k<=15)
def Yi(k:Int):Bool:=k==1||(k==5||k==6)
def adM(k:Int):Bool:=decide (20<=k) && decide (k<=34)
def isIt(k:Int):Bool:=decide (40<=k) && decide (k<=44)
def bU(k:Int):M.mg k=some (uQ k)/\M.fC k=some (uQ k):=by simp only[M.mg,M.Ud,M.fC,M.lC,gu,dM,ah,uQ,ge_iff_le];constructor<;>first|rfl|trivial
def bV(k:Int):M.GI k=some (adM k)/\M.jS k=some (adM k):=by simp only[M.GI,M.Ue,M.jS,M.lD,gu,dM,ah,adM,ge_iff_le];constructor<;>first|rfl|trivial
def bW(k:Int):M.dF k 40 44=some (isIt k)/\M.Gu k=some (isIt k):=by simp only[M.Gu,M.TN,gu,dM,ah,isIt,ge_iff_le];constructor<;>first|rfl|trivial
def aX(k:Int):M.rZ k=some (Yi k)/\M.rV k=some (Yi k):=by simp only[M.rZ,M.OT,M.rV,M.Ou,Yi];cases k==1<;>cases k==5<;>exact⟨rfl,rfl⟩
def aXA(k:Int):Yi k=(uQ k && Yi k):=by
 by_cases h1:k=1
 ·subst h1;rfl
 by_cases h5:k=5
 ·subst h5;rfl
 by_cases h6:k=6
 ·subst h6;rfl
 have e:Yi k=false:=by simp[Yi,h1,h5,h6]
 rw[e,Bool.and_false]
def Bv(k op:Int)(t o:aA)(kids:au)(j d:Int):Prop:=∃b,M.aQ k op t o kids j d=some b/\M.bF k op t o kids j d=some b
def a7D(op:Int)(t o:aA)(kids:au)(j d:Int)(h0:0<=j)(h1:j<kids.length)(hk:kids.length<=400)(hc:Cons 1 op kids.length):Bv 1 op t o kids j d:=by simp only[Bv,M.aQ,M.aP,M.aJ,M.bF,M.aW,bU,bV,bW,aX,Int.reduceBEq,reduceLE,reduceLT,reduceSub,reduceAdd,dJ,ah];generalize (uQ d)=a0;cases a0<;>exact⟨_,rfl,rfl⟩
def a7E(op:Int)(t o:aA)(kids:au)(j d:Int)(h0:0<=j)(h1:j<kids.length)(hk:kids.length<=400)(hc:Cons 2 op kids.length):Bv 2 op t o kids j d:=by simp only[Bv,M.aQ,M.aP,M.aJ,M.bF,M.aW,bU,bV,bW,aX,Int.reduceBEq,reduceLE,reduceLT,reduceSub,reduceAdd,dJ,ah];generalize (uQ d)=a0;cases a0<;>exact⟨_,rfl,rfl⟩
def a7F(op:Int)(t o:aA)(kids:au)(j d:Int)(h0:0<=j)(h1:j<kids.length)(hk:kids.length<=400)(hc:Cons 3 op kids.length):Bv 3 op t o kids j d:=by simp only[Bv,M.aQ,M.aP,M.aJ,M.bF,M.aW,bU,bV,bW,aX,Int.reduceBEq,reduceLE,reduceLT,reduceSub,reduceAdd,dJ,ah];generalize (uQ d)=a0;cases a0<;>exact⟨_,rfl,rfl⟩
def a7G(op:Int)(t o:aA)(kids:au)(j d:Int)(h0:0<=j)(h1:j<kids.length)(hk:kids.length<=400)(hc:Cons 4 op kids.length):Bv 4 op t o kids j d:=by simp only[Bv,M.aQ,M.aP,M.aJ,M.bF,M.aW,bU,bV,bW,aX,Int.reduceBEq,reduceLE,reduceLT,reduceSub,reduceAdd,dJ,ah];generalize (uQ d)=a0;cases a0<;>exact⟨_,rfl,rfl⟩
def a7H(op:Int)(t o:aA)(kids:au)(j d:Int)(h0:0<=j)(h1:j<kids.length)(hk:kids.length<=400)(hc:Cons 5 op kids.length):Bv 5 op t o kids j d:=by simp only[Bv,M.aQ,M.aP,M.aJ,M.bF,M.aW,bU,bV,bW,aX,Int.reduceBEq,reduceLE,reduceLT,reduceSub,reduceAdd,dJ,ah];generalize (uQ d)=a0;cases a0<;>exact⟨_,rfl,rfl⟩
def a7I(op:Int)(t o:aA)(kids:au)(j d:Int)(h0:0<=j)(h1:j<kids.length)(hk:kids.length<=400)(hc:Cons 6 op kids.length):Bv 6 op t o kids j d:=by simp only[Bv,M.aQ,M.aP,M.aJ,M.bF,M.aW,bU,bV,bW,aX,Int.reduceBEq,reduceLE,reduceLT,reduceSub,reduceAdd,dJ,ah];generalize (uQ d)=a0;cases a0<;>exact⟨_,rfl,rfl⟩
def a7J(op:Int)(t o:aA)(kids:au)(j d:Int)(h0:0<=j)(h1:j<kids.length)(hk:kids.length<=400)(hc:Cons 7 op kids.length):Bv 7 op t o kids j d:=by simp only[Bv,M.aQ,M.aP,M.aJ,M.bF,M.aW,bU,bV,bW,aX,Int.reduceBEq,reduceLE,reduceLT,reduceSub,reduceAdd,dJ,ah];generalize (uQ d)=a0;cases a0<;>exact⟨_,rfl,rfl⟩
def a7K(op:Int)(t o:aA)(kids:au)(j d:Int)(h0:0<=j)(h1:j<kids.length)(hk:kids.length<=400)(hc:Cons 8 op kids.length):Bv 8 op t o kids j d:=by simp only[Bv,M.aQ,M.aP,M.aJ,M.bF,M.aW,bU,bV,bW,aX,Int.reduceBEq,reduceLE,reduceLT,reduceSub,reduceAdd,dJ,ah];generalize (uQ d)=a0;cases a0<;>exact⟨_,rfl,rfl⟩
def a7L(op:Int)(t o:aA)(kids:au)(j d:Int)(h0:0<=j)(h1:j<kids.length)(hk:kids.length<=400)(hc:Cons 9 op kids.length):Bv 9 op t o kids j d:=by simp only[Bv,M.aQ,M.aP,M.aJ,M.bF,M.aW,bU,bV,bW,aX,Int.reduceBEq,reduceLE,reduceLT,reduceSub,reduceAdd,dJ,ah];generalize (Yi d)=a0;cases a0<;>exact⟨_,rfl,rfl⟩
def aXB(op:Int)(t o:aA)(kids:au)(j d:Int)(h0:0<=j)(h1:j<kids.length)(hk:kids.length<=400)(hc:Cons 10 op kids.length):Bv 10 op t o kids j d:=by simp only[Bv,M.aQ,M.aP,M.aJ,M.bF,M.aW,bU,bV,bW,aX,Int.reduceBEq,reduceLE,reduceLT,reduceSub,reduceAdd,dJ,ah];generalize (Yi d)=a0;cases a0<;>exact⟨_,rfl,rfl⟩
def aXC(op:Int)(t o:aA)(kids:au)(j d:Int)(h0:0<=j)(h1:j<kids.length)(hk:kids.length<=400)(hc:Cons 11 op kids.length):Bv 11 op t o kids j d:=by simp only[Bv,M.aQ,M.aP,M.aJ,M.bF,M.aW,bU,bV,bW,aX,Int.reduceBEq,reduceLE,reduceLT,reduceSub,reduceAdd,dJ,ah];generalize (uQ d)=a0;cases a0<;>exact⟨_,rfl,rfl⟩
def aXD(op:Int)(t o:aA)(kids:au)(j d:Int)(h0:0<=j)(h1:j<kids.length)(hk:kids.length<=400)(hc:Cons 12 op kids.length):Bv 12 op t o kids j d:=by simp only[Bv,M.aQ,M.aP,M.aJ,M.bF,M.aW,bU,bV,bW,aX,Int.reduceBEq,reduceLE,reduceLT,reduceSub,reduceAdd,dJ,ah];generalize (uQ d)=a0;cases a0<;>exact⟨_,rfl,rfl⟩
def aXE(op:Int)(t o:aA)(kids:au)(j d:Int)(h0:0<=j)(h1:j<kids.length)(hk:kids.length<=400)(hc:Cons 13 op kids.length):Bv 13 op t o kids j d:=by simp only[Bv,M.aQ,M.aP,M.aJ,M.bF,M.aW,bU,bV,bW,aX,Int.reduceBEq,reduceLE,reduceLT,reduceSub,reduceAdd,dJ,ah];generalize (uQ d)=a0;cases a0<;>exact⟨_,rfl,rfl⟩
def aXF(op:Int)(t o:aA)(kids:au)(j d:Int)(h0:0<=j)(h1:j<kids.length)(hk:kids.length<=400)(hc:Cons 14 op kids.length):Bv 14 op t o kids j d:=by simp only[Bv,M.aQ,M.aP,M.aJ,M.bF,M.aW,bU,bV,bW,aX,Int.reduceBEq,reduceLE,reduceLT,reduceSub,reduceAdd,dJ,ah];generalize (uQ d)=a0;cases a0<;>exact⟨_,rfl,rfl⟩
def aXG(op:Int)(t o:aA)(kids:au)(j d:Int)(h0:0<=j)(h1:j<kids.length)(hk:kids.length<=400)(hc:Cons 15 op kids.length):Bv 15 op t o kids j d:=by
 by_cases hj:j=0
 ·subst hj;have hl:=aXA d;simp only[Bv,M.aQ,M.aP,M.aJ,M.bF,M.aW,bU,bV,bW,aX,Int.reduceBEq,reduceLE,reduceLT,reduceSub,reduceAdd,dJ,ah];revert hl;cases uQ d<;>cases Yi d<;>intro hl<;>first|exact⟨_,rfl,rfl⟩|cases hl
 have e0:(j==0)=false:=by simpa using hj
 have e1:decide (0<j)=true:=zdt ak;simp only[Bv,M.aQ,M.aP,M.aJ,M.bF,M.aW,bU,bV,bW,aX,e0,e1,Int.reduceBEq,reduceLE,reduceLT,reduceSub,reduceAdd,dJ,ah];generalize (uQ d)=a0;cases a0<;>exact⟨_,rfl,rfl⟩
def aXH(op:Int)(t o:aA)(kids:au)(j d:Int)(h0:0<=j)(h1:j<kids.length)(hk:kids.length<=400)(hc:Cons 16 op kids.length):Bv 16 op t o kids j d:=by simp only[Bv,M.aQ,M.aP,M.aJ,M.bF,M.aW,bU,bV,bW,aX,Int.reduceBEq,reduceLE,reduceLT,reduceSub,reduceAdd,dJ,ah];generalize (uQ d)=a0;cases a0<;>exact⟨_,rfl,rfl⟩
def aXI(op:Int)(t o:aA)(kids:au)(j d:Int)(h0:0<=j)(h1:j<kids.length)(hk:kids.length<=400)(hc:Cons 20 op kids.length):Bv 20 op t o kids j d:=by simp only[Bv,M.aQ,M.aP,M.aJ,M.bF,M.aW,bU,bV,bW,aX,Int.reduceBEq,reduceLE,reduceLT,reduceSub,reduceAdd,dJ,ah];generalize (uQ d)=a0;cases a0<;>exact⟨_,rfl,rfl⟩
def aXJ(op:Int)(t o:aA)(kids:au)(j d:Int)(h0:0<=j)(h1:j<kids.length)(hk:kids.length<=400)(hc:Cons 21 op kids.length):Bv 21 op t o kids j d:=by simp only[Bv,M.aQ,M.aP,M.aJ,M.bF,M.aW,bU,bV,bW,aX,Int.reduceBEq,reduceLE,reduceLT,reduceSub,reduceAdd,dJ,ah];generalize (uQ d)=a0;cases a0<;>exact⟨_,rfl,rfl⟩
def aXK(op:Int)(t o:aA)(kids:au)(j d:Int)(h0:0<=j)(h1:j<kids.length)(hk:kids.length<=400)(hc:Cons 22 op kids.length):Bv 22 op t o kids j d:=by simp only[Bv,M.aQ,M.aP,M.aJ,M.bF,M.aW,bU,bV,bW,aX,Int.reduceBEq,reduceLE,reduceLT,reduceSub,reduceAdd,dJ,ah];generalize (uQ d)=a0;cases a0<;>exact⟨_,rfl,rfl⟩
def aXL(op:Int)(t o:aA)(kids:au)(j d:Int)(h0:0<=j)(h1:j<kids.length)(hk:kids.length<=400)(hc:Cons 23 op kids.length):Bv 23 op t o kids j d:=by simp only[Bv,M.aQ,M.aP,M.aJ,M.bF,M.aW,bU,bV,bW,aX,Int.reduceBEq,reduceLE,reduceLT,reduceSub,reduceAdd,dJ,ah];generalize (uQ d)=a0;cases a0<;>exact⟨_,rfl,rfl⟩
def aXM(op:Int)(t o:aA)(kids:au)(j d:Int)(h0:0<=j)(h1:j<kids.length)(hk:kids.length<=400)(hc:Cons 24 op kids.length):Bv 24 op t o kids j d:=by simp only[Bv,M.aQ,M.aP,M.aJ,M.bF,M.aW,bU,bV,bW,aX,Int.reduceBEq,reduceLE,reduceLT,reduceSub,reduceAdd,dJ,ah];generalize (uQ d)=a0;cases a0<;>exact⟨_,rfl,rfl⟩
def aXN(op:Int)(t o:aA)(kids:au)(j d:Int)(h0:0<=j)(h1:j<kids.length)(hk:kids.length<=400)(hc:Cons 25 op kids.length):Bv 25 op t o kids j d:=by simp only[Bv,M.aQ,M.aP,M.aJ,M.bF,M.aW,bU,bV,bW,aX,Int.reduceBEq,reduceLE,reduceLT,reduceSub,reduceAdd,dJ,ah];generalize (uQ d)=a0;cases a0<;>exact⟨_,rfl,rfl⟩
def aXO(op:Int)(t o:aA)(kids:au)(j d:Int)(h0:0<=j)(h1:j<kids.length)(hk:kids.length<=400)(hc:Cons 26 op kids.length):Bv 26 op t o kids j d:=by simp only[Bv,M.aQ,M.aP,M.aJ,M.bF,M.aW,bU,bV,bW,aX,Int.reduceBEq,reduceLE,reduceLT,reduceSub,reduceAdd,dJ,ah];generalize (uQ d)=a0;cases a0<;>exact⟨_,rfl,rfl⟩
def aXP(op:Int)(t o:aA)(kids:au)(j d:Int)(h0:0<=j)(h1:j<kids.length)(hk:kids.length<=400)(hc:Cons 27 op kids.length):Bv 27 op t o kids j d:=by simp only[Bv,M.aQ,M.aP,M.aJ,M.bF,M.aW,bU,bV,bW,aX,Int.reduceBEq,reduceLE,reduceLT,reduceSub,reduceAdd,dJ,ah];generalize (uQ d)=a0;cases a0<;>exact⟨_,rfl,rfl⟩
def aXQ(op:Int)(t o:aA)(kids:au)(j d:Int)(h0:0<=j)(h1:j<kids.length)(hk:kids.length<=400)(hc:Cons 28 op kids.length):Bv 28 op t o kids j d:=by
 by_cases hj:j=0
 ·subst hj;simp only[Bv,M.aQ,M.aP,M.aJ,M.bF,M.aW,bU,bV,bW,aX,Int.reduceBEq,reduceLE,reduceLT,reduceSub,reduceAdd,dJ,ah];generalize (uQ d)=a0;generalize (d==33)=a1;cases a0<;>cases a1<;>exact⟨_,rfl,rfl⟩
 have e0:(j==0)=false:=by simpa using hj
 have e1:decide (0<j)=true:=zdt ak;simp only[Bv,M.aQ,M.aP,M.aJ,M.bF,M.aW,bU,bV,bW,aX,e0,e1,Int.reduceBEq,reduceLE,reduceLT,reduceSub,reduceAdd,dJ,ah];generalize (d==33)=a0;cases a0<;>exact⟨_,rfl,rfl⟩
def aXR(op:Int)(t o:aA)(kids:au)(j d:Int)(h0:0<=j)(h1:j<kids.length)(hk:kids.length<=400)(hc:Cons 29 op kids.length):Bv 29 op t o kids j d:=by
 have hl:=hc.two ak;obtain rfl|rfl:j=0\/j=1:=ak
 ·simp only[Bv,M.aQ,M.aP,M.aJ,M.bF,M.aW,bU,bV,bW,aX,Int.reduceBEq,reduceLE,reduceLT,reduceSub,reduceAdd,dJ,ah];generalize (uQ d)=a0;generalize (d==33)=a1;cases a0<;>cases a1<;>exact⟨_,rfl,rfl⟩
 ·simp only[Bv,M.aQ,M.aP,M.aJ,M.bF,M.aW,bU,bV,bW,aX,Int.reduceBEq,reduceLE,reduceLT,reduceSub,reduceAdd,dJ,ah];generalize (uQ d)=a0;generalize (d==33)=a1;cases a0<;>cases a1<;>exact⟨_,rfl,rfl⟩
def aXS(op:Int)(t o:aA)(kids:au)(j d:Int)(h0:0<=j)(h1:j<kids.length)(hk:kids.length<=400)(hc:Cons 30 op kids.length):Bv 30 op t o kids j d:=by
 have hl:=hc.two ak;obtain rfl|rfl:j=0\/j=1:=ak
 ·simp only[Bv,M.aQ,M.aP,M.aJ,M.bF,M.aW,bU,bV,bW,aX,Int.reduceBEq,reduceLE,reduceLT,reduceSub,reduceAdd,dJ,ah];generalize (uQ d)=a0;generalize (d==33)=a1;cases a0<;>cases a1<;>exact⟨_,rfl,rfl⟩
 ·simp only[Bv,M.aQ,M.aP,M.aJ,M.bF,M.aW,bU,bV,bW,aX,Int.reduceBEq,reduceLE,reduceLT,reduceSub,reduceAdd,dJ,ah];generalize (uQ d)=a0;generalize (d==33)=a1;cases a0<;>cases a1<;>exact⟨_,rfl,rfl⟩
def aXT(op:Int)(t o:aA)(kids:au)(j d:Int)(h0:0<=j)(h1:j<kids.length)(hk:kids.length<=400)(hc:Cons 31 op kids.length):Bv 31 op t o kids j d:=by
 have hl:=hc.four rfl;have hw:i64.wrap ((kids.length:Int) - 1)=3:=by rw[hl];rfl
 obtain rfl|rfl|rfl|rfl:j=0\/j=1\/j=2\/j=3:=ak
 ·simp only[Bv,M.aQ,M.aP,M.aJ,M.bF,M.aW,bU,bV,bW,aX,hw,Int.reduceBEq,reduceLE,reduceLT,reduceSub,reduceAdd,dJ,ah];generalize (uQ d)=a0;generalize (d==16)=a1;generalize (d==33)=a2;cases a0<;>cases a1<;>cases a2<;>exact⟨_,rfl,rfl⟩
 ·simp only[Bv,M.aQ,M.aP,M.aJ,M.bF,M.aW,bU,bV,bW,aX,hw,Int.reduceBEq,reduceLE,reduceLT,reduceSub,reduceAdd,dJ,ah];generalize (uQ d)=a0;generalize (d==16)=a1;generalize (d==33)=a2;cases a0<;>cases a1<;>cases a2<;>exact⟨_,rfl,rfl⟩
 ·simp only[Bv,M.aQ,M.aP,M.aJ,M.bF,M.aW,bU,bV,bW,aX,hw,Int.reduceBEq,reduceLE,reduceLT,reduceSub,reduceAdd,dJ,ah];generalize (uQ d)=a0;generalize (d==16)=a1;generalize (d==33)=a2;cases a0<;>cases a1<;>cases a2<;>exact⟨_,rfl,rfl⟩
 ·simp only[Bv,M.aQ,M.aP,M.aJ,M.bF,M.aW,bU,bV,bW,aX,hw,Int.reduceBEq,reduceLE,reduceLT,reduceSub,reduceAdd,dJ,ah];generalize (uQ d)=a0;generalize (d==16)=a1;generalize (d==33)=a2;cases a0<;>cases a1<;>cases a2<;>exact⟨_,rfl,rfl⟩
def aXU(op:Int)(t o:aA)(kids:au)(j d:Int)(h0:0<=j)(h1:j<kids.length)(hk:kids.length<=400)(hc:Cons 32 op kids.length):Bv 32 op t o kids j d:=by simp only[Bv,M.aQ,M.aP,M.aJ,M.bF,M.aW,bU,bV,bW,aX,Int.reduceBEq,reduceLE,reduceLT,reduceSub,reduceAdd,dJ,ah];generalize (d==33)=a0;cases a0<;>exact⟨_,rfl,rfl⟩
def aXV(op:Int)(t o:aA)(kids:au)(j d:Int)(h0:0<=j)(h1:j<kids.length)(hk:kids.length<=400)(hc:Cons 33 op kids.length):Bv 33 op t o kids j d:=by simp only[Bv,M.aQ,M.aP,M.aJ,M.bF,M.aW,bU,bV,bW,aX,Int.reduceBEq,reduceLE,reduceLT,reduceSub,reduceAdd,dJ,ah];generalize (adM d)=a0;cases a0<;>exact⟨_,rfl,rfl⟩
def aXW(op:Int)(t o:aA)(kids:au)(j d:Int)(h0:0<=j)(h1:j<kids.length)(hk:kids.length<=400)(hc:Cons 34 op kids.length):Bv 34 op t o kids j d:=by simp only[Bv,M.aQ,M.aP,M.aJ,M.bF,M.aW,bU,bV,bW,aX,Int.reduceBEq,reduceLE,reduceLT,reduceSub,reduceAdd,dJ,ah];generalize (uQ d)=a0;cases a0<;>exact⟨_,rfl,rfl⟩
def aXX(op:Int)(t o:aA)(kids:au)(j d:Int)(h0:0<=j)(h1:j<kids.length)(hk:kids.length<=400)(hc:Cons 40 op kids.length):Bv 40 op t o kids j d:=by simp only[Bv,M.aQ,M.aP,M.aJ,M.bF,M.aW,bU,bV,bW,aX,Int.reduceBEq,reduceLE,reduceLT,reduceSub,reduceAdd,dJ,ah];generalize (d==33)=a0;cases a0<;>exact⟨_,rfl,rfl⟩
def aXY(op:Int)(t o:aA)(kids:au)(j d:Int)(h0:0<=j)(h1:j<kids.length)(hk:kids.length<=400)(hc:Cons 41 op kids.length):Bv 41 op t o kids j d:=by simp only[Bv,M.aQ,M.aP,M.aJ,M.bF,M.aW,bU,bV,bW,aX,Int.reduceBEq,reduceLE,reduceLT,reduceSub,reduceAdd,dJ,ah];generalize (d==33)=a0;cases a0<;>exact⟨_,rfl,rfl⟩
def aXZ(op:Int)(t o:aA)(kids:au)(j d:Int)(h0:0<=j)(h1:j<kids.length)(hk:kids.length<=400)(hc:Cons 42 op kids.length):Bv 42 op t o kids j d:=by
 rcases hc.rule rfl with⟨rfl,hl⟩|⟨rfl,hl⟩|⟨rfl,hl⟩
 ·have hw:i64.wrap ((kids.length:Int) - 1)=0:=by rw[hl];rfl
  obtain rfl:j=0:=ak;simp only[Bv,M.aQ,M.aP,M.aJ,M.bF,M.aW,bU,bV,bW,aX,hw,Int.reduceBEq,reduceLE,reduceLT,reduceSub,reduceAdd,dJ,ah];generalize (uQ d)=a0;generalize (d==33)=a1;cases a0<;>cases a1<;>exact⟨_,rfl,rfl⟩
 ·have hw:i64.wrap ((kids.length:Int) - 1)=0:=by rw[hl];rfl
  obtain rfl:j=0:=ak;simp only[Bv,M.aQ,M.aP,M.aJ,M.bF,M.aW,bU,bV,bW,aX,hw,Int.reduceBEq,reduceLE,reduceLT,reduceSub,reduceAdd,dJ,ah];generalize (uQ d)=a0;generalize (d==33)=a1;cases a0<;>cases a1<;>exact⟨_,rfl,rfl⟩
 ·have hw:i64.wrap ((kids.length:Int) - 1)=1:=by rw[hl];rfl
  obtain rfl|rfl:j=0\/j=1:=ak
  ·simp only[Bv,M.aQ,M.aP,M.aJ,M.bF,M.aW,bU,bV,bW,aX,hw,Int.reduceBEq,reduceLE,reduceLT,reduceSub,reduceAdd,dJ,ah];generalize (uQ d)=a0;generalize (d==33)=a1;cases a0<;>cases a1<;>exact⟨_,rfl,rfl⟩
  ·simp only[Bv,M.aQ,M.aP,M.aJ,M.bF,M.aW,bU,bV,bW,aX,hw,Int.reduceBEq,reduceLE,reduceLT,reduceSub,reduceAdd,dJ,ah];generalize (uQ d)=a0;generalize (d==33)=a1;cases a0<;>cases a1<;>exact⟨_,rfl,rfl⟩
def aX0(op:Int)(t o:aA)(kids:au)(j d:Int)(h0:0<=j)(h1:j<kids.length)(hk:kids.length<=400)(hc:Cons 43 op kids.length):Bv 43 op t o kids j d:=by
 rcases hc.range rfl with⟨rfl,hl⟩|⟨rfl,hl⟩
 ·have hw:i64.wrap ((kids.length:Int) - 1)=1:=by rw[hl];rfl
  obtain rfl|rfl:j=0\/j=1:=ak
  ·simp only[Bv,M.aQ,M.aP,M.aJ,M.bF,M.aW,bU,bV,bW,aX,hw,Int.reduceBEq,reduceLE,reduceLT,reduceSub,reduceAdd,dJ,ah];generalize (uQ d)=a0;generalize (d==33)=a1;cases a0<;>cases a1<;>exact⟨_,rfl,rfl⟩
  ·simp only[Bv,M.aQ,M.aP,M.aJ,M.bF,M.aW,bU,bV,bW,aX,hw,Int.reduceBEq,reduceLE,reduceLT,reduceSub,reduceAdd,dJ,ah];generalize (uQ d)=a0;generalize (d==33)=a1;cases a0<;>cases a1<;>exact⟨_,rfl,rfl⟩
 ·have hw:i64.wrap ((kids.length:Int) - 1)=2:=by rw[hl];rfl
  obtain rfl|rfl|rfl:j=0\/j=1\/j=2:=ak
  ·simp only[Bv,M.aQ,M.aP,M.aJ,M.bF,M.aW,bU,bV,bW,aX,hw,Int.reduceBEq,reduceLE,reduceLT,reduceSub,reduceAdd,dJ,ah];generalize (uQ d)=a0;generalize (d==33)=a1;cases a0<;>cases a1<;>exact⟨_,rfl,rfl⟩
  ·simp only[Bv,M.aQ,M.aP,M.aJ,M.bF,M.aW,bU,bV,bW,aX,hw,Int.reduceBEq,reduceLE,reduceLT,reduceSub,reduceAdd,dJ,ah];generalize (uQ d)=a0;generalize (d==33)=a1;cases a0<;>cases a1<;>exact⟨_,rfl,rfl⟩
  ·simp only[Bv,M.aQ,M.aP,M.aJ,M.bF,M.aW,bU,bV,bW,aX,hw,Int.reduceBEq,reduceLE,reduceLT,reduceSub,reduceAdd,dJ,ah];generalize (uQ d)=a0;generalize (d==33)=a1;cases a0<;>cases a1<;>exact⟨_,rfl,rfl⟩
def aX1(op:Int)(t o:aA)(kids:au)(j d:Int)(h0:0<=j)(h1:j<kids.length)(hk:kids.length<=400)(hc:Cons 44 op kids.length):Bv 44 op t o kids j d:=by simp only[Bv,M.aQ,M.aP,M.aJ,M.bF,M.aW,bU,bV,bW,aX,Int.reduceBEq,reduceLE,reduceLT,reduceSub,reduceAdd,dJ,ah];generalize (j==i64.wrap ((kids.length:Int) - 1))=a0;generalize (d==33)=a1;generalize (d==1)=a2;cases a0<;>cases a1<;>cases a2<;>exact⟨_,rfl,rfl⟩
def aX2(op:Int)(t o:aA)(kids:au)(j d:Int)(h0:0<=j)(h1:j<kids.length)(hk:kids.length<=400)(hc:Cons 45 op kids.length):Bv 45 op t o kids j d:=by simp only[Bv,M.aQ,M.aP,M.aJ,M.bF,M.aW,bU,bV,bW,aX,Int.reduceBEq,reduceLE,reduceLT,reduceSub,reduceAdd,dJ,ah];generalize (isIt d)=a0;generalize (d==34)=a1;cases a0<;>cases a1<;>exact⟨_,rfl,rfl⟩
def aKr(k:Int)(op:Int)(t o:aA)(kids:au)(j d:Int)(hj0:0<=j)(hj1:j<kids.length)(hk:kids.length<=400)(hc:Cons k op kids.length):Bv k op t o kids j d:=by
 by_cases h1:k=1
 ·subst h1;exact a7D op t o kids j d hj0 hj1 hk hc
 by_cases h2:k=2
 ·subst h2;exact a7E op t o kids j d hj0 hj1 hk hc
 by_cases h3:k=3
 ·subst h3;exact a7F op t o kids j d hj0 hj1 hk hc
 by_cases h4:k=4
 ·subst h4;exact a7G op t o kids j d hj0 hj1 hk hc
 by_cases h5:k=5
 ·subst h5;exact a7H op t o kids j d hj0 hj1 hk hc
 by_cases h6:k=6
 ·subst h6;exact a7I op t o kids j d hj0 hj1 hk hc
 by_cases h7:k=7
 ·subst h7;exact a7J op t o kids j d hj0 hj1 hk hc
 by_cases h8:k=8
 ·subst h8;exact a7K op t o kids j d hj0 hj1 hk hc
 by_cases h9:k=9
 ·subst h9;exact a7L op t o kids j d hj0 hj1 hk hc
 by_cases h10:k=10
 ·subst h10;exact aXB op t o kids j d hj0 hj1 hk hc
 by_cases h11:k=11
 ·subst h11;exact aXC op t o kids j d hj0 hj1 hk hc
 by_cases h12:k=12
 ·subst h12;exact aXD op t o kids j d hj0 hj1 hk hc
 by_cases h13:k=13
 ·subst h13;exact aXE op t o kids j d hj0 hj1 hk hc
 by_cases h14:k=14
 ·subst h14;exact aXF op t o kids j d hj0 hj1 hk hc
 by_cases h15:k=15
 ·subst h15;exact aXG op t o kids j d hj0 hj1 hk hc
 by_cases h16:k=16
 ·subst h16;exact aXH op t o kids j d hj0 hj1 hk hc
 by_cases h20:k=20
 ·subst h20;exact aXI op t o kids j d hj0 hj1 hk hc
 by_cases h21:k=21
 ·subst h21;exact aXJ op t o kids j d hj0 hj1 hk hc
 by_cases h22:k=22
 ·subst h22;exact aXK op t o kids j d hj0 hj1 hk hc
 by_cases h23:k=23
 ·subst h23;exact aXL op t o kids j d hj0 hj1 hk hc
 by_cases h24:k=24
 ·subst h24;exact aXM op t o kids j d hj0 hj1 hk hc
 by_cases h25:k=25
 ·subst h25;exact aXN op t o kids j d hj0 hj1 hk hc
 by_cases h26:k=26
 ·subst h26;exact aXO op t o kids j d hj0 hj1 hk hc
 by_cases h27:k=27
 ·subst h27;exact aXP op t o kids j d hj0 hj1 hk hc
 by_cases h28:k=28
 ·subst h28;exact aXQ op t o kids j d hj0 hj1 hk hc
 by_cases h29:k=29
 ·subst h29;exact aXR op t o kids j d hj0 hj1 hk hc
 by_cases h30:k=30
 ·subst h30;exact aXS op t o kids j d hj0 hj1 hk hc
 by_cases h31:k=31
 ·subst h31;exact aXT op t o kids j d hj0 hj1 hk hc
 by_cases h32:k=32
 ·subst h32;exact aXU op t o kids j d hj0 hj1 hk hc
 by_cases h33:k=33
 ·subst h33;exact aXV op t o kids j d hj0 hj1 hk hc
 by_cases h34:k=34
 ·subst h34;exact aXW op t o kids j d hj0 hj1 hk hc
 by_cases h40:k=40
 ·subst h40;exact aXX op t o kids j d hj0 hj1 hk hc
 by_cases h41:k=41
 ·subst h41;exact aXY op t o kids j d hj0 hj1 hk hc
 by_cases h42:k=42
 ·subst h42;exact aXZ op t o kids j d hj0 hj1 hk hc
 by_cases h43:k=43
 ·subst h43;exact aX0 op t o kids j d hj0 hj1 hk hc
 by_cases h44:k=44
 ·subst h44;exact aX1 op t o kids j d hj0 hj1 hk hc
 by_cases h45:k=45
 ·subst h45;exact aX2 op t o kids j d hj0 hj1 hk hc
 have e1:(k==1)=false:=by simpa using h1
 have e2:(k==2)=false:=by simpa using h2
 have e3:(k==3)=false:=by simpa using h3
 have e4:(k==4)=false:=by simpa using h4
 have e5:(k==5)=false:=by simpa using h5
 have e6:(k==6)=false:=by simpa using h6
 have e7:(k==7)=false:=by simpa using h7
 have e8:(k==8)=false:=by simpa using h8
 have e9:(k==9)=false:=by simpa using h9
 have e10:(k==10)=false:=by simpa using h10
 have e11:(k==11)=false:=by simpa using h11
 have e12:(k==12)=false:=by simpa using h12
 have e13:(k==13)=false:=by simpa using h13
 have e14:(k==14)=false:=by simpa using h14
 have e15:(k==15)=false:=by simpa using h15
 have e16:(k==16)=false:=by simpa using h16
 have e20:(k==20)=false:=by simpa using h20
 have e21:(k==21)=false:=by simpa using h21
 have e22:(k==22)=false:=by simpa using h22
 have e23:(k==23)=false:=by simpa using h23
 have e24:(k==24)=false:=by simpa using h24
 have e25:(k==25)=false:=by simpa using h25
 have e26:(k==26)=false:=by simpa using h26
 have e27:(k==27)=false:=by simpa using h27
 have e28:(k==28)=false:=by simpa using h28
 have e29:(k==29)=false:=by simpa using h29
 have e30:(k==30)=false:=by simpa using h30
 have e31:(k==31)=false:=by simpa using h31
 have e32:(k==32)=false:=by simpa using h32
 have e33:(k==33)=false:=by simpa using h33
 have e34:(k==34)=false:=by simpa using h34
 have e40:(k==40)=false:=by simpa using h40
 have e41:(k==41)=false:=by simpa using h41
 have e42:(k==42)=false:=by simpa using h42
 have e43:(k==43)=false:=by simpa using h43
 have e44:(k==44)=false:=by simpa using h44
 have e45:(k==45)=false:=by simpa using h45
 simp only[Bv,M.aQ,M.aP,M.aJ,M.bF,M.aW,bU,bV,bW,aX,e1,e2,e3,e4,e5,e6,e7,e8,e9,e10,e11,e12,e13,e14,e15,e16,e20,e21,e22,e23,e24,e25,e26,e27,e28,e29,e30,e31,e32,e33,e34,e40,e41,e42,e43,e44,e45,bg,ah];exact⟨_,rfl,rfl⟩
end Go.Proofs.YtmeggnejljdlfaaGreatDoor
namespace Go.Proofs.YtmeggnejljdlfaaGreatDoor
open Go Go.Vm
open Int (reduceLE reduceLT reduceSub reduceAdd)
def RD(x lo hi:Int):M.dF x lo hi=some (decide (lo<=x) && decide (x<=hi)):=by
 simp only[M.dF,M.CX]
 by_cases h:lo<=x
 ·rw[zdt (show x>=lo from h)];rfl
 ·rw[rH (show¬x>=lo from h)];rfl
def RF(x lo hi:Int):M.bK x lo hi=some (decide (lo<=x) && decide (x<=hi)):=by
 simp only[M.bK,M.zq]
 by_cases h:lo<=x
 ·rw[zdt (show x>=lo from h)];rfl
 ·rw[rH (show¬x>=lo from h)];rfl
def aq7:∀k:List Int,an6 (encI k)=some k
 |[]=>rfl
 |x::k=>by have:encI (x::k)=[D.int .i64 x]::encI k:=rfl;rw[this];simp only[an6,aq7 k,Oa]
def nk(n:Nd):Nk:=⟨n.kind,n.op,⟨⟨n.text⟩⟩,⟨⟨n.other⟩⟩,n.kids⟩
def amC(o:Bool):∀l:List Nd,(∀n,n∈l->n.kids.length<=1048576)->Z5 (aZ o l)=some (l.map nk)
 |[],_=>rfl
 |n::l,h=>by
  have:aZ o (n::l)=NU o n::aZ o l:=rfl;rw[this,Z5];have hk:asX (NU o n)=some (nk n):=by simp only[NU,asX,aq7,ah];rw[if_pos (h n zmf)];rfl
  rw[hk,ah,amC o l (λm hm=>h m (zmm _ hm))];rfl
def aX3(l:List Nd):(l.map nk).map (·.kids)=ks l:=by simp[ks,nk]
def agY(l:List Nd)(o:Bool)(hl:l.length<=1048576)(hk:∀n,n∈l->n.kids.length<=1048576):M.BM (aZ o l)=some (J4 l):=by
 simp only[M.BM,M.Qu,M.lu,amC o l hk,ah,aX3,zaP];rw[if_pos hl,J4];cases qW (ks l) with
 |none=>rfl
 |some st=>rfl
def adN(l:List Nd)(o:Bool){i:Nat}{n:Nd}{st:List Int}(hi:l[i]? =some n)(hl:l.length<=1048576)(hkl:n.kids.length<=1048576)(hst:Zr st)(hs:st.length=i):
  ∀(j:Nat) (a:Int),j<=n.kids.length->0<=a->a<=i->M.vg (aZ o l) (i:Int) (encI st) (a,(j:Int) - 1)=some (match dV st (n.kids.take j).reverse (a - 1) with
   |none=> .inl ()
   |some r=> .inr (r+1, -1))
 |0,a,hj,h0,h1=>by rw[M.vg];apply bP;simp only[M.Hr,M.Af];rw[rH ak,bg,List.take_zero,List.reverse_nil,dV];simp
 |j+1,a,hj,h0,h1=>by
  have hlt:i<l.length:=(PN.1 hi).1;obtain⟨k,hk⟩:∃k,n.kids[j]? =some k:=⟨n.kids[j]'ak,by simp⟩
  have ht:(n.kids.take (j+1)).reverse=k::(n.kids.take j).reverse:=by rw[List.take_add_one,hk,Option.toList_some,List.reverse_append];rfl
  rw[ht,dV];have e1:(((j+1:Nat):Int) - 1)=(j:Int):=ak;rw[e1];have hstep:M.Hr (aZ o l) (i:Int) (encI st) (a,(j:Int))=if a - 1<0\/k≠a - 1 then some (.inr (.inl ())) else some (.inl (st[k.toNat]?.getD 0,(j:Int) - 1)):=by
   simp only[M.Hr,M.Af,bC,kZ,hi,Oa,ah,JM,nI,hk,NV];rw[zdt ak,aK,aB (n:=a - 1) ak ak]
   by_cases h2:k=a - 1
   ·have:(k !=a - 1)=false:=by simp[h2]
    rw[this,bg]
    by_cases h3:a=0
    ·have:(a==0)=true:=by simp[h3]
     rw[this,aK,if_pos (.inl ak)]
    ·have:(a==0)=false:=by simp[h3]
     rw[this,bg,if_neg ak];obtain⟨d,hd⟩:∃d:Nat,a - 1=(d:Int):=⟨(a - 1).toNat,ak⟩
     have hdl:d<st.length:=ak;rw[h2,hd];simp only[aiE,bC,nI,VO];rw[List.getElem?_eq_getElem hdl];simp only[Oa,ah,NV,Option.getD_some];rw[aB ak ak]
   ·have:(k !=a - 1)=true:=by simp[h2]
    rw[this,aK,if_pos (.inr h2)]
  by_cases hc:a - 1<0\/k≠a - 1
  ·rw[if_pos hc];rw[if_pos hc] at hstep;exact bP hstep
  ·rw[if_neg hc];rw[if_neg hc] at hstep;rw[M.vg,dN hstep];have hz:=Qk hst k.toNat;have:=adN l o hi hl hkl hst hs j (st[k.toNat]?.getD 0) ak hz.1 ak;rw[M.vg] at this;exact this
def abD(l:List Nd)(o:Bool)(hl:l.length<=1048576)(hk:∀n,n∈l->n.kids.length<=1048576):∀(rest:List Nd) (i:Nat) (st:List Int),l.drop i=rest->st.length=i->i<=l.length->Zr st->
  M.vk (aZ o l) ((i:Int),encI st)=some (match fZ st (ks rest) with
   |none=> .inl ()
   |some r=> .inr ((l.length:Int),encI r))
 |[],i,st,hd,hs,hi,hst=>by have:l.length<=i:=List.drop_eq_nil_iff.1 hd;rw[M.vk];apply bP;simp only[jU,M.Ht,M.Ag,fO];rw[rH ak,bg];have:i=l.length:=ak;subst this;rfl
 |n::rest,i,st,hd,hs,hi,hst=>by
  have hn:l[i]? =some n:=by
   have:(l.drop i)[0]? =some n:=by rw[hd];rfl
   simpa using this
  have hlt:i<l.length:=(PN.1 hn).1;have hd':l.drop (i+1)=rest:=by rw[<-List.drop_drop,hd];rfl
  have hkn:=hk n (AU hn);have hin:=adN l o hn hl hkn hst hs n.kids.length (i:Int) (zaO _) ak ak;rw[List.take_length] at hin;have hks:ks (n::rest)=n.kids::ks rest:=rfl;rw[hks,fZ,hs];have hstep:M.Ht (aZ o l) ((i:Int),encI st)=some (match dV st n.kids.reverse ((i:Int) - 1) with
    |none=> .inr (.inl ())
    |some a=> .inl (((i+1:Nat):Int),encI (st++[a+1]))):=by
   simp only[jU,M.Ht,M.Ag,fO,bC,kZ,hn,Oa,ah,JM,bf];rw[zdt ak,aK,aB (n:=(n.kids.length:Int) - 1) ak ak,hin];cases hw:dV st n.kids.reverse ((i:Int) - 1) with
   |none=>rfl
   |some a=>simp only[ah,rO,letE,JU];rw[aS ak,aK,aS ak,aK,aB ak ak];simp[encI]
  cases hw:dV st n.kids.reverse ((i:Int) - 1) with
  |none=>rw[hw] at hstep;exact bP hstep
  |some a=>rw[hw] at hstep;rw[M.vk,dN hstep];have hr:=DU hst _ _ _ ak ak hw;have:=abD l o hl hk rest (i+1) (st++[a+1]) hd' (by simp[hs]) hlt (VK hst hr.1 hr.2);rw[M.vk] at this;exact this
def Zi(l:List Nd)(o:Bool)(hl:l.length<=1048576)(hk:∀n,n∈l->n.kids.length<=1048576):M.vT (aZ o l)=some (J4 l):=by
 simp only[M.vT,M.QM,RD,ah,fO]
 by_cases h1:1<=l.length/\l.length<=400
 ·have hb:(decide ((1:Int)<=(l.length:Int)) && decide ((l.length:Int)<=400))=true:=by simp;omega
  rw[hb,zaN,bg];have h:=abD l o hl hk l 0 [] rfl rfl (Nat.zero_le _) V8;have e0:((0:Nat):Int)=0:=rfl;rw[e0] at h;simp only[M.D6,M.OI];rw[show([]:au)=encI [] from rfl,h,J4,qW,if_pos (by rw[SG];exact h1)];cases hs:fZ [] (ks l) with
  |none=>rfl
  |some r=>
   have hrl:r.length=l.length:=by have:=YP _ _ _ hs;rw[SG] at this;simpa using this
   simp only[ah,rO,letE,zB,aK];rw[aB ak ak,show(l.length:Int) - 1=((l.length - 1:Nat):Int) by omega];simp only[aiE,bC,nI,VO];rw[List.getElem?_eq_getElem ak];simp only[Oa,ah,NV,Option.getD_some]
 ·have hb:(decide ((1:Int)<=(l.length:Int)) && decide ((l.length:Int)<=400))=false:=by
   cases hq:(decide ((1:Int)<=(l.length:Int)) && decide ((l.length:Int)<=400)) with
   |false=>rfl
   |true=>simp at hq;omega
  rw[hb,Bool.not_false,aK,J4,qW,if_neg (by rw[SG];exact h1)]
def amD{st:List Int}(h:Zr st):∀(l:List Int) (a r:Int),a<st.length->dV st l a=some r->∀k,k∈l->0<=k/\k<st.length
 |[],a,r,h1,e,k,hk=>absurd hk List.not_mem_nil
 |x::l,a,r,h1,e,k,hk=>by
  rw[dV] at e;split at e
  ·cases e
  ·rename_i hc;have hz:=Qk h x.toNat;rcases List.mem_cons.1 hk with rfl|hk
   ·omega
   ·exact amD h l _ r ak e k hk
def afW:∀(l:List (List Int)) (st r:List Int),Zr st->fZ st l=some r->∀(i:Nat) n,l[i]? =some n->∀k,k∈n->0<=k/\k<st.length+i
 |[],st,r,h0,h,i,n,hn=>by simp at hn
 |m::l,st,r,h0,h,i,n,hn=>by
  rw[fZ] at h;split at h
  ·cases h
  ·rename_i a ha;have hr:=DU h0 _ _ _ ak ak ha;cases i with
   |zero=>simp only[List.getElem?_cons_zero,jF] at hn;subst hn;intro k hk;have:=amD h0 _ _ _ ak ha k (List.mem_reverse.2 hk);omega
   |succ i=>simp only[List.getElem?_cons_succ] at hn;intro k hk;have:=afW l _ r (VK h0 hr.1 hr.2) h i n hn k hk;simp at this;omega
def aww{l:List Nd}(h:J4 l=true):1<=l.length/\l.length<=400:=by
 unfold J4 at h;cases hs:qW (ks l) with
 |none=>rw[hs] at h;cases h
 |some r=>
  unfold qW at hs;split at hs
  ·rename_i hq;rw[SG] at hq;exact hq
  ·cases hs
def abE:∀(l:List (List Int)) (st r:List Int),fZ st l=some r->∃t,r=st++t
 |[],st,r,h=>by rw[fZ] at h;cases h;exact⟨[],by simp⟩
 |n::l,st,r,h=>by
  rw[fZ] at h;split at h
  ·cases h
  ·obtain⟨t,ht⟩:=abE l _ r h;exact⟨_,by rw[ht,JR]⟩
def aq8{st t:List Int}(h:Zr st):∀(ks:List Int) (a:Int),a<st.length->dV (st++t) ks a=dV st ks a
 |[],a,_=>rfl
 |k::ks,a,ha=>by
  rw[dV,dV];split
  ·rfl
  ·rename_i hc;have hk:k.toNat<st.length:=ak;have e:(st++t)[k.toNat]? =st[k.toNat]? :=List.getElem?_append_left hk;rw[e];have hz:=Qk h k.toNat;exact aq8 h ks _ ak
def amE:∀(l:List (List Int)) (st r:List Int),Zr st->fZ st l=some r->∀(i:Nat) n,l[i]? =some n->∃a,dV r n.reverse ((st.length:Int)+i - 1)=some a/\r[st.length+i]? =some (a+1)
 |[],st,r,h0,h,i,n,hn=>by simp at hn
 |m::l,st,r,h0,h,i,n,hn=>by
  rw[fZ] at h;split at h
  ·cases h
  ·rename_i a ha;have hr:=DU h0 _ _ _ ak ak ha;obtain⟨t,ht⟩:=abE l _ r h;cases i with
   |zero=>
    simp only[List.getElem?_cons_zero,jF] at hn;subst hn;refine⟨a, ?_, ?_⟩
    ·rw[ht,JR,aq8 h0 _ _ (by simp;omega)];simpa using ha
    ·rw[ht];simp
   |succ i=>
    simp only[List.getElem?_cons_succ] at hn;obtain⟨b,h1,h2⟩:=amE l _ r (VK h0 hr.1 hr.2) h i n hn;refine⟨b, ?_, ?_⟩
    ·rw[<-h1];congr 1;simp;omega
    ·rw[<-h2];congr 1;simp;omega
def aaq:List Int->Int
 |[]=>0
 |x::l=>x+aaq l
def afX:∀(a b:List Int),aaq (a++b)=aaq a+aaq b
 |[],b=>by simp[aaq]
 |x::a,b=>by rw[VE,aaq,aaq,afX a b];omega
def adO:∀l:List Int,aaq l.reverse=aaq l
 |[]=>rfl
 |x::l=>by rw[List.reverse_cons,afX,adO l];simp[aaq];omega
def sz(r:List Int)(k:Int):Int:=k - (r[k.toNat]?.getD 0)+1
def aq9(r:List Int):∀(ks:List Int) (a b:Int),dV r ks a=some b->aaq (ks.map (sz r))=a - b
 |[],a,b,h=>by rw[dV] at h;cases h;simp[aaq]
 |k::ks,a,b,h=>by
  rw[dV] at h;split at h
  ·cases h
  ·rename_i hc;have:=aq9 r ks _ b h;rw[PO,aaq,this,sz];omega
structure Val(l:List Nd)(r:List Int):Prop where
 st:fZ [] (ks l)=some r
 pos:1<=l.length
 le:l.length<=400
def aeT{l:List Nd}(h:J4 l=true):∃r,Val l r:=by
 have hl:=aww h;unfold J4 at h;cases hs:qW (ks l) with
 |none=>rw[hs] at h;cases h
 |some r=>
  unfold qW at hs;split at hs
  ·exact⟨r,hs,hl.1,hl.2⟩
  ·cases hs
section
variable {l:List Nd} {r:List Int}
def Val.len(h:Val l r):r.length=l.length:=by have:=YP _ _ _ h.st;rw[SG] at this;simpa using this
def Val.ok(h:Val l r):Zr r:=aex _ _ _ V8 h.st
def Val.kids(h:Val l r){i:Nat}{n:Nd}(hn:l[i]? =some n):∀k,k∈n.kids->0<=k/\k<i:=by have:=afW _ _ _ V8 h.st i n.kids (by simp[ks,hn]);simpa using this
def Val.sum(h:Val l r){i:Nat}{n:Nd}(hn:l[i]? =some n):aaq (n.kids.map (sz r))+1=sz r i:=by obtain⟨a,h1,h2⟩:=amE _ _ _ V8 h.st i n.kids (by simp[ks,hn]);have:=aq9 r _ _ _ h1;rw[List.map_reverse,adO] at this;simp at h2;rw[this,sz,VO,h2];simp;omega
def Val.aAZ(h:Val l r){k:Int}(h0:0<=k):1<=sz r k/\sz r k<=k+1:=by have:=Qk h.ok k.toNat;rw[sz];omega
end
def ajy(l:List Nd)(i:Nat):List Int:=match l[i]? with|some n=>n.kids|none=>[]
def SX{l:List Nd}{i:Nat}{n:Nd}(h:l[i]? =some n):ajy l i=n.kids:=by rw[ajy,h]
end Go.Proofs.YtmeggnejljdlfaaGreatDoor
