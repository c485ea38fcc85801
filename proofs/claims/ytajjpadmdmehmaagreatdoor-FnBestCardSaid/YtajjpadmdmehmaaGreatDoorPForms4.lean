import Derived.Test.YtajjpadmdmehmaaGreatDoorPForms3
set_option linter.defProp false
namespace Go.Proofs.YtajjpadmdmehmaaGreatDoor
open Go Go.Vm
open Go.IntKind (i64)
set_option linter.unusedVariables false
set_option linter.unusedSimpArgs false
noncomputable section
variable {R:Type}
def M.xE(v12:au)(v13:Int)(s:Int×au)(kn:Int×au->Option R)(ke:Int×au->Option R):Option R:=match s with
 |(v14,x')=>bif decide (v14<v13) then((idx v12 v14).bind λc=>ni 5 c λaVj aVk aVl aVm azn=>((M.BI aVj aVk aVl aVm azn).bind λa=>M.EL.bind λb=>jA x' [qP a,qP b] 64 λd=>kn (i64.wrap (v14+1),d))) else ke (v14,x')
def M.CZ v12 v13 s:=M.xE v12 v13 s (λs=>some (Sum.inl s)) λt=>some (Sum.inr t)
def M.G8 v12 v13 s:=dM (M.CZ v12 v13) s
def F.G8:LE X0 33:=le 5 (Ef [bH 3 (pO 300000 0),bH 12 (pL false 5),bH 13 pI,bH 14 pI] [bH 300000 zbc]) (λx=>(x.1.va.1,x.2.1)) (λx s=>(((),x.1.2.1,x.1.2.2.1,s.1,()),(s.2,()))) (λx=> .leaf (Int×au) (λt=>(Ex.exit 0,⟨[(3,V.own 300000 0),(12,Dw 5 x.1.2.1),(13,gX x.1.2.2.1),(14,gX t.1),(15,rO false)],[(300000,Cell.arr false false 0 5 t.2)]⟩))) (λx=>M.xE x.1.2.1 x.1.2.2.1) [fe C.BI,fe C.EL] [] (by rintro _ _ ⟨_,_⟩ _ _<;>simp only[jA,qP,ni,M.xE,nb]<;>rfl)
abbrev M.JD(l:au)(k:au->Option R):=(M.zI l).bind λd=>cond (!d) (k []) ((M.wX l).bind λb=>(M.G8 (aG b.2.2.2.2) ((↑(aG b.2.2.2.2).length:Int)) (0,[])).bind λc=>(M.dY c.2).bind λa=>(M.wC a.1 a.2.1 a.2.2.1 (aG a.2.2.2.1) a.2.2.2.2).bind λe=>k e)
def M.oO l:=M.JD l some
def C.oO:=fTa S.oO (λx=>M.JD x.1.1) [fe C.zI,fe C.wX,fe C.dY,fe C.wC] [F.G8]
abbrev M.xM(n':Int)(iM:aC)(k:Bool->Option R)(iL:au)(fV:Int):=cond (n'==1) ((M.strings_Contains iM [10]).bind λa=>cond (!a) (k ((↑iL.length:Int)==0)) (k false)) (cond (n'==2) (k ((↑iL.length:Int)==0)) (cond (n'==3) (k ((↑iL.length:Int)==0)) (cond (n'==4) ((M.bJ fV 0 40).bind λb=>cond b (k ((↑iL.length:Int)==1)) (k false)) (cond (n'==5) (k ((↑iL.length:Int)==1)) (cond (n'==6) (k true) (k false))))))
def M.MG(n' fV:Int)(iM:aC)(iL:au)(k:Bool->Option R):=cond (n' !=4) (cond (fV !=0) (k false) (cond (n' !=1) (cond (!iM==[]) (k false) (M.xM n' iM k iL fV)) (M.xM n' iM k iL fV))) (cond (n' !=1) (cond (!iM==[]) (k false) (M.xM n' iM k iL fV)) (M.xM n' iM k iL fV))
def M.wZ n' fV iM iL:=M.MG n' fV iM iL some
def C.wZ:S.wZ.ok X0 λx=>zbn M.wZ x.1.1:=fnS (λx=>zbn M.MG x.1.1) [fe C.strings_Contains,fe C.bJ] [] (by intros;unfold M.MG M.xM;exact zbo)
def M.yG(l:au)(i:Int)(v16:au)(v17 v18:Int)(x':au)(jG lX:Int)(rP:aC)(su:au)(s:Int×Int)(kn:Int×Int->Option R)(ke:(Unit)⊕(Int×Int)->Option R):Option R:=match s with
 |(at',j)=>bif decide (j>=0) then(bif decide (at'<0) then(ke (.inl ())) else (idx su j).bind λa=>(bK .i64 a 0).bind λc=>bif c !=at' then(ke (.inl ())) else (idx x' at').bind λe=>x'[at'.toNat]?.bind λb=>(bK .i64 b 0).bind λd=>kn (i64.wrap (d - 1),i64.wrap (j - 1))) else ke (.inr (at',j))
def M.Ez l i v16 v17 v18 x' jG lX rP su s:=M.yG l i v16 v17 v18 x' jG lX rP su s (λs=>some (Sum.inl s)) λt=>some (Sum.inr t)
def M.tV l i v16 v17 v18 x' jG lX rP su s:=dM (M.Ez l i v16 v17 v18 x' jG lX rP su) s
def F.tV:LE X0 99:=le 9 (Ef [bH 0 (pL false 4),bH 4 (pO 300000 0),bH 5 pI,bH 6 (pP 300001 0),bH 7 pI,bH 8 pI,bH 16 (pL false 4),bH 17 pI,bH 18 pI] [bH 300000 zba,bH 300001 (cB 111 zbl)]) (λx=>(x.1.va.2.1,x.1.va.2.2.1)) (λx s=>((x.1.1,(),x.1.2.2.1,(),s.1,s.2,x.1.va.va.1,x.1.va.va.2.1,x.1.wa.1,()),(x.2.1,(x.2.2.1.1,x.2.2.1.2.1,x.2.2.1.2.2.1,x.2.2.1.va.1,()),()))) (λx=> .sum (.leaf (Unit) (λt=>(Ex.ret,⟨[(2,V.nil 1),(3,rO false)],[]⟩))) (.leaf (Int×Int) (λt=>(Ex.exit 2,⟨[(0,Dw 4 x.1.1),(4,V.own 300000 0),(5,gX x.1.2.2.1),(6,V.ptr 300001 0),(7,gX t.1),(8,gX t.2),(16,Dw 4 x.1.va.va.1),(17,gX x.1.va.va.2.1),(18,gX x.1.wa.1),(30,rO false)],[(300000,Cell.arr false true 0 1 x.2.1),(300001,Cell.box 111 [gX x.2.2.1.1,gX x.2.2.1.2.1,yI x.2.2.1.2.2.1,Dw 1 x.2.2.1.va.1])]⟩)))) (λx=>zbn (M.yG x.1.1 x.1.2.2.1 x.1.va.va.1 x.1.va.va.2.1 x.1.wa.1 x.2.1) x.2.2.1) [] [] (by rintro _ _ ⟨_,_⟩ _ _<;>simp only[zbn,M.yG,nb]<;>rfl)
def M.yH(l v16:au)(v17:Int)(s:Int×au)(kn:Int×au->Option R)(ke:(Unit)⊕(Int×au)->Option R):Option R:=match s with
 |(v18,x')=>bif decide (v18<v17) then((idx v16 v18).bind λa=>(bK .i64 a 0).bind λi=>(bK .i64 a 1).bind λc=>(cStr a 2).bind λd=>(NK 1 a 3).bind λb=>(M.tV l v18 v16 v17 v18 x' i c d b (i64.wrap (v18 - 1),i64.wrap ((↑b.length:Int) - 1))).bind λg=>pz g (λj=>ke (.inl ())) λe=>letE e λf=>(idx x' v18).bind λk=>x'[v18.toNat]?.bind λh=>kn (i64.wrap (v18+1),x'.set v18.toNat (splice h 0 [D.int .i64 (i64.wrap (f.1+1))]))) else ke (.inr (v18,x'))
def M.EC l v16 v17 s:=M.yH l v16 v17 s (λs=>some (Sum.inl s)) λt=>some (Sum.inr t)
def M.tX l v16 v17 s:=dM (M.EC l v16 v17) s
def F.tX:LE X0 99:=le 5 (Ef [bH 0 (pL false 4),bH 4 (pO 300000 0),bH 16 (pL false 4),bH 17 pI,bH 18 pI] [bH 300000 zba]) (λx=>(x.1.va.2.1,x.2.1)) (λx s=>((x.1.1,(),x.1.2.2.1,x.1.va.1,s.1,()),(s.2,()))) (λx=> .sum (.leaf (Unit) (λt=>(Ex.ret,⟨[(2,V.nil 1),(3,rO false)],[]⟩))) (.leaf (Int×au) (λt=>(Ex.exit 0,⟨[(0,Dw 4 x.1.1),(4,V.own 300000 0),(16,Dw 4 x.1.2.2.1),(17,gX x.1.va.1),(18,gX t.1),(19,rO false)],[(300000,Cell.arr false true 0 1 t.2)]⟩)))) (λx=>M.yH x.1.1 x.1.2.2.1 x.1.va.1) [] [F.tV] (by rintro _ _ ⟨_,_⟩ _ _<;>simp only[M.yH,nb]<;>rfl)
abbrev M.FI(l:au)(k:au×Bool->Option R):=(M.bJ ((↑l.length:Int)) 1 4000).bind λd=>cond (!d) (k ([],false)) (cond (decide (0<=(↑l.length:Int)) && decide ((↑l.length:Int)<=(↑l.length:Int)) && decide ((↑l.length:Int) * 8<=140737488355328) && decide ((↑l.length:Int)<=140737488355328)) ((M.tX l l ((↑l.length:Int)) (0,List.replicate (↑l.length:Int).toNat [D.int .i64 0])).bind λf=>pz f (λg=>k ([],false)) λc=>letE c λa=>(idx a.2 (i64.wrap ((↑l.length:Int) - 1))).bind λh=>(a.2[(i64.wrap ((↑l.length:Int) - 1)).toNat]?).bind λb=>(bK .i64 b 0).bind λe=>cond (aA a.2) (k (a.2,e==0)) none) none)
def M.qx l:=M.FI l some
def C.qx:=fTa S.qx (λx=>M.FI x.1.1) [fe C.bJ] [F.tX]
def M.Io(l v7:au)(v8 s:Int)(kn:Int->Option R)(ke:(Unit)⊕(Int)->Option R):Option R:=match s with
 |v9=>bif decide (v9<v8) then((idx v7 v9).bind λa=>(bK .i64 a 0).bind λb=>(bK .i64 a 1).bind λd=>(cStr a 2).bind λe=>(NK 1 a 3).bind λc=>(M.wZ b d e c).bind λf=>bif !f then(ke (.inl ())) else kn (i64.wrap (v9+1))) else ke (.inr v9)
def M.O4 l v7 v8 s:=M.Io l v7 v8 s (λs=>some (Sum.inl s)) λt=>some (Sum.inr t)
def M.IK l v7 v8 s:=dM (M.O4 l v7 v8) s
def F.IK:LE X0 63:=le 2 (Ef [bH 0 (pL false 4),bH 7 (pL false 4),bH 8 pI,bH 9 pI] []) (λx=>x.1.va.1) (λx s=>((x.1.1,x.1.2.1,x.1.2.2.1,s,()),())) (λx=> .sum (.leaf (Unit) (λt=>(Ex.ret,⟨[(2,rO false)],[]⟩))) (.leaf (Int) (λt=>(Ex.exit 0,⟨[(0,Dw 4 x.1.1),(7,Dw 4 x.1.2.1),(8,gX x.1.2.2.1),(9,gX t),(10,rO false)],[]⟩)))) (λx=>M.Io x.1.1 x.1.2.1 x.1.2.2.1) [fe C.wZ] [] (by rintro _ _ _ _ _<;>simp only[M.Io,nb]<;>rfl)
abbrev M.Rk(l:au)(k:Bool->Option R):=(M.IK l l ((↑l.length:Int)) 0).bind λb=>pz b (λd=>k false) λc=>letE c λe=>(M.qx l).bind λa=>k a.2
def M.D6 l:=M.Rk l some
def C.D6:=fTa S.D6 (λx=>M.Rk x.1.1) [fe C.qx] [F.IK]
def M.Aj(v6:au)(v7:Int)(s:Int×Int)(kn:Int×Int->Option R)(ke:Int×Int->Option R):Option R:=match s with
 |(count,v8)=>bif decide (v8<v7) then((idx v6 v8).bind λa=>(bK .i64 a 0).bind λb=>(bK .i64 a 1).bind λc=>(cStr a 2).bind λd=>(NK 1 a 3).bind λe=>bif b==5 then(kn (i64.wrap (count+1),i64.wrap (v8+1))) else kn (count,i64.wrap (v8+1))) else ke (count,v8)
def M.G9 v6 v7 s:=M.Aj v6 v7 s (λs=>some (Sum.inl s)) λt=>some (Sum.inr t)
def M.MH v6 v7 s:=dM (M.G9 v6 v7) s
def F.MH:LE X0 139:=le 3 (Ef [bH 3 pI,bH 6 (pL false 4),bH 7 pI,bH 8 pI] []) (λx=>(x.1.1,x.1.va.1)) (λx s=>((s.1,x.1.2.1,x.1.2.2.1,s.2,()),())) (λx=> .leaf (Int×Int) (λt=>(Ex.exit 0,⟨[(3,gX t.1),(6,Dw 4 x.1.2.1),(7,gX x.1.2.2.1),(8,gX t.2),(9,rO false)],[]⟩))) (λx=>M.Aj x.1.2.1 x.1.2.2.1) [] [] (by rintro _ _ ⟨_,_⟩ _ _<;>simp only[M.Aj,nb]<;>rfl)
abbrev M.O5(l:au)(k:Int->Option R):=(M.MH l ((↑l.length:Int)) (0,0)).bind λa=>k a.1
def M.zk l:=M.O5 l some
def C.zk:=fTa S.zk (λx=>M.O5 x.1.1) [] [F.MH]
def M.yc(kQ:zan)(s:zaA⊕zaB)(kn:zaA⊕zaB->Option R)(ke:zaA⊕zaB->Option R):Option R:=match s with
 | .inl (l,v25,v26,v27,x',jG,lX,rP,su,PW,RN,U4)=>bif decide (v27<v26) then((idx v25 v27).bind λc=>(bK .i64 c 0).bind λe=>(kQ l e).bind λb=>kn (.inr (l,v25,v26,i64.wrap (v27+1),x',jG,lX,rP,su,PW,RN,U4,[[D.int .i64 b.1,D.int .i64 b.2.1,D.str b.2.2.1,D.sl true 5 b.2.2.2.1,D.int .i64 b.2.2.2.2]]))) else(ke (.inl (l,v25,v26,v27,x',jG,lX,rP,su,PW,RN,U4)))
 | .inr (l,v25,v26,v27,x',jG,lX,rP,su,PW,RN,U4,x'8)=>bif decide (v27<v26) then((idx v25 v27).bind λf=>(bK .i64 f 0).bind λd=>(kQ l d).bind λa=>jA x'8 [[D.int .i64 a.1,D.int .i64 a.2.1,D.str a.2.2.1,D.sl true 5 a.2.2.2.1,D.int .i64 a.2.2.2.2]] 64 λg=>kn (.inr (l,v25,v26,i64.wrap (v27+1),x',jG,lX,rP,su,PW,RN,U4,g))) else ke (.inr (l,v25,v26,v27,x',jG,lX,rP,su,PW,RN,U4,x'8))
def M.Bf kQ s:=M.yc kQ s (λs=>some (Sum.inl s)) λt=>some (Sum.inr t)
def M.Uk kQ s:=dM (M.Bf kQ) s
def F.Uk{kQ:zan}(YM:S.xX.ok X0 λx=>kQ x.1.1 x.1.2.1):LE X0 102:=le 4 (pOr (Ef [bH 0 (pL false 4),bH 4 (pP 300000 0),bH 6 (pP 300001 0),bH 25 (pL false 1),bH 26 pI,bH 27 pI] [bH 300000 zbf,bH 300001 zbf]) (Ef [bH 0 (pL false 4),bH 4 (pP 300000 0),bH 6 (pP 300001 0),bH 25 (pL false 1),bH 26 pI,bH 27 pI] [bH 300000 zbf,bH 300001 (cB 75 [pI,pI,pS,pO 300002 0,pI]),bH 300002 zbc])) (σ:=zaA⊕zaB) (λx=>(match x with| .inl x=> .inl ((x.1.1,x.1.va.1,x.1.va.2.1,x.1.va.2.2.1,x.2.1.1,x.2.1.2.1,x.2.1.2.2.1,x.2.1.va.2.1,x.2.2.1.1,x.2.2.1.2.1,x.2.2.1.2.2.1,x.2.2.1.va.2.1))| .inr x=> .inr ((x.1.1,x.1.va.1,x.1.va.2.1,x.1.va.2.2.1,x.2.1.1,x.2.1.2.1,x.2.1.2.2.1,x.2.1.va.2.1,x.2.2.1.1,x.2.2.1.2.1,x.2.2.1.2.2.1,x.2.2.1.va.2.1,x.va.1)))) (λx s=>(match s with| .inl s=> .inl (((s.1,(),(),s.2.1,s.2.2.1,s.va.1,()),((s.va.2.1,s.va.2.2.1,s.va.va.1,(),s.va.va.2.1,()),(s.wa.1,s.wa.2.1,s.wa.2.2.1,(),s.wa.va,()),())))| .inr s=> .inr (((s.1,(),(),s.2.1,s.2.2.1,s.va.1,()),((s.va.2.1,s.va.2.2.1,s.va.va.1,(),s.va.va.2.1,()),(s.wa.1,s.wa.2.1,s.wa.2.2.1,(),s.wa.va.1,()),s.wa.va.2,()))))) (λx=> .sum (.leaf zaA (λt=>(Ex.exit 0,⟨[(0,Dw 4 t.1),(4,V.ptr 300000 0),(6,V.ptr 300001 0),(25,Dw 1 t.2.1),(26,gX t.2.2.1),(27,gX t.va.1),(28,rO false)],[(300000,Cell.box 75 [gX t.va.2.1,gX t.va.2.2.1,yI t.va.va.1,V.nil 5,gX t.va.va.2.1]),(300001,Cell.box 75 [gX t.wa.1,gX t.wa.2.1,yI t.wa.2.2.1,V.nil 5,gX t.wa.va])]⟩))) (.leaf zaB (λt=>(Ex.exit 0,⟨[(0,Dw 4 t.1),(4,V.ptr 300000 0),(6,V.ptr 300001 0),(25,Dw 1 t.2.1),(26,gX t.2.2.1),(27,gX t.va.1),(28,rO false)],[(300000,Cell.box 75 [gX t.va.2.1,gX t.va.2.2.1,yI t.va.va.1,V.nil 5,gX t.va.va.2.1]),(300001,Cell.box 75 [gX t.wa.1,gX t.wa.2.1,yI t.wa.2.2.1,V.own 300002 0,gX t.wa.va.1]),(300002,Cell.arr false false 0 5 t.wa.va.2)]⟩)))) (λx=>M.yc kQ) [fe YM] [] (by rintro _ _ (⟨_,_,_,_,_,_,_,_,_,_,_,_⟩|⟨_,_,_,_,_,_,_,_,_,_,_,_,_⟩) _ _<;>simp only[jA,M.yc,nb]<;>rfl) (hE:=by intro _ _ s _;rcases s with s|s<;>kernel_rfl)
def M.Rl(kQ:zan)(l:au)(i:Int)(k:Int×Int×aC×au×Int->Option R):=(idx l i).bind λb=>(bK .i64 b 0).bind λm=>(bK .i64 b 1).bind λe=>(cStr b 2).bind λn=>(NK 1 b 3).bind λd=>(cut l 0 i).bind λf=>(M.zk f).bind λg=>(M.Uk kQ (.inl (l,d,(↑d.length:Int),0,0,0,[],0,m,e,n,g))).bind λj=>pz j (λc=>k (c.2.2.2.2.2.2.2.2.1,c.2.2.2.2.2.2.2.2.2.1,c.2.2.2.2.2.2.2.2.2.2.1,[],c.2.2.2.2.2.2.2.2.2.2.2)) λh=>letE h λa=>k (a.2.2.2.2.2.2.2.2.1,a.2.2.2.2.2.2.2.2.2.1,a.2.2.2.2.2.2.2.2.2.2.1,a.2.2.2.2.2.2.2.2.2.2.2.2,a.2.2.2.2.2.2.2.2.2.2.2.1)
def M.o8:Nat->au->Int->Option zaw
 |0=>λ_ _=>none
 |n+1=>λl i=>M.Rl (M.o8 n) l i some
def M.xX l i:=lim λn=>M.o8 n l i
def C.akY{kQ:zan}(YM:S.xX.ok X0 λx=>kQ x.1.1 x.1.2.1):S.xX.ok X0 λx=>M.Rl kQ x.1.1 x.1.2.1 some:=fnS (λx=>M.Rl kQ x.1.1 x.1.2.1) [fe C.zk] [F.Uk YM] (by intros;simp only[M.Rl,nb]<;>rfl)
def C.o8:∀n,S.xX.ok X0 λx=>M.o8 n x.1.1 x.1.2.1
 |0=>dO.zero
 |n+1=>C.akY (C.o8 n)
def C.xX:S.xX.ok X0 λx=>M.xX x.1.1 x.1.2.1:=dO.lim C.o8
def M.akZ{n:Nat}{l:au}{i:Int}{r:Int×Int×aC×au×Int}(h:M.o8 n l i=some r):M.xX l i=some r:=dO.AO C.o8 (by intro a b h;simp[S.xX,rt,sg] at h;first|exact h|simp[Prod.ext_iff,h]) (x:=((l,i,()),())) h
abbrev M.Vx(l:au)(k:Int×Int×aC×au×Int->Option R):=(M.xX l (i64.wrap ((↑l.length:Int) - 1))).bind λa=>k (a.1,a.2.1,a.2.2.1,a.2.2.2.1,a.2.2.2.2)
def M.J3 l:=M.Vx l some
def C.J3:=fTa S.J3 (λx=>M.Vx x.1.1) [fe C.xX]
def C.strings_Repeat:S.strings_Repeat.ok X0 λx=>M.strings_Repeat x.1.1 x.1.2.1:=dO.Zw (p:=Prim.strings_Repeat)
abbrev M.He(indent:Int)(c:au)(c1:Int)(c2:au)(k:au×Int×au->Option R):=cond (((c.length+1) * 1).ble 140737488355328) (cond ((c.length+1).ble 140737488355328) ((M.strings_Repeat [32] indent).bind λa=>cond ((((c++[[D.int IntKind.u8 10]]).length+(List.map byteRow a).length) * 1).ble 140737488355328) (cond (((c++[[D.int IntKind.u8 10]]).length+(List.map byteRow a).length).ble 140737488355328) (cond (aA (c++[[D.int IntKind.u8 10]]++List.map byteRow a)) (k (c++[[D.int IntKind.u8 10]]++List.map byteRow a,indent,c2)) none) none) none) none) none
def M.mQ indent c c1 c2:=M.He indent c c1 c2 some
def C.mQ:=fTa S.mQ (λx=>M.He x.1.2.1 x.2.1.1 x.2.1.2.1 x.2.1.2.2.1) [fe C.strings_Repeat]
def M.uT(indent:Int)(flat:Bool)(v x' jG:Int)(lX:aC)(rP:au)(su:Int)(PW:au)(s:Int×au)(kn:Int×au->Option R)(ke:Int×au->Option R):Option R:=match s with
 |(i,RN)=>bif decide (i>=0) then((idx rP i).bind λa=>(bK .i64 a 0).bind λb=>(bK .i64 a 1).bind λc=>(cStr a 2).bind λd=>(NK 5 a 3).bind λf=>(bK .i64 a 4).bind λe=>jA RN [[D.int .i64 b,D.int .i64 c,D.str d,D.sl false 5 f,D.int .i64 e,D.int .i64 indent,D.bool flat]] 80 λg=>kn (i64.wrap (i - 1),g)) else ke (i,RN)
def M.Aw indent flat v x' jG lX rP su PW s:=M.uT indent flat v x' jG lX rP su PW s (λs=>some (Sum.inl s)) λt=>some (Sum.inr t)
def M.ED indent flat v x' jG lX rP su PW s:=dM (M.Aw indent flat v x' jG lX rP su PW) s
def F.ED:LE X0 101:=le 2 (Ef [bH 0 (pP 100000 0),bH 2 pI,bH 3 pB,bH 5 (pP 300000 0),bH 8 pI] [bH 100000 (cB 91 [pO 300001 0,pI,pO 300002 0]),bH 300000 (cB 75 zbd),bH 300001 zba,bH 300002 (cA false false 0 7)]) (λx=>(x.1.va.2.1,x.va.2.1)) (λx s=>(((),x.1.2.1,x.1.2.2.1,(),s.1,()),(((),x.2.1.2.1,(),()),(x.2.2.1.1,x.2.2.1.2.1,x.2.2.1.2.2.1,x.2.2.1.va.1,x.2.2.1.va.2.1,()),x.va.1,s.2,()))) (λx=> .leaf (Int×au) (λt=>(Ex.exit 0,⟨[(0,V.ptr 100000 0),(2,gX x.1.2.1),(3,rO x.1.2.2.1),(5,V.ptr 300000 0),(8,gX t.1),(14,rO false)],[(100000,Cell.box 91 [V.own 300001 0,gX x.2.1.2.1,V.own 300002 0]),(300000,Cell.box 75 [gX x.2.2.1.1,gX x.2.2.1.2.1,yI x.2.2.1.2.2.1,Dw 5 x.2.2.1.va.1,gX x.2.2.1.va.2.1]),(300001,Cell.arr false true 0 1 x.va.1),(300002,Cell.arr false false 0 7 t.2)]⟩))) (λx=>M.uT x.1.2.1 x.1.2.2.1 x.2.1.2.1 x.2.2.1.1 x.2.2.1.2.1 x.2.2.1.2.2.1 x.2.2.1.va.1 x.2.2.1.va.2.1 x.va.1) [] [] (by rintro _ _ ⟨_,_⟩ _ _<;>unfold M.uT<;>exact zbo)
abbrev M.Hf(d d1:Int)(d2:aC)(d3:au)(d4 indent:Int)(flat:Bool)(c:au)(c1:Int)(c2:au)(k:au×Int×au->Option R):=(M.ED indent flat c1 d d1 d2 d3 d4 c (i64.wrap ((↑d3.length:Int) - 1),c2)).bind λa=>cond (aA c) (k (c,c1,a.2)) none
def M.jh d d1 d2 d3 d4 indent flat c c1 c2:=M.Hf d d1 d2 d3 d4 indent flat c c1 c2 some
def C.jh:=fTa S.jh (λx=>M.Hf x.1.2.1.1 x.1.2.1.2.1 x.1.2.1.2.2.1 x.1.2.1.va.1 x.1.2.1.va.2.1 x.1.2.2.1 x.1.va.1 x.2.1.1 x.2.1.2.1 x.2.1.2.2.1) [] [F.ED]
def M.uz(jf:zao)(v21:au)(v22:Int)(s:Int×au)(kn:Int×au->Option R)(ke:(Unit)⊕(Int×au)->Option R):Option R:=match s with
 |(v23,x')=>bif decide (v23<v22) then((idx v21 v23).bind λa=>(bK .i64 a 0).bind λe=>(bK .i64 a 1).bind λf=>(cStr a 2).bind λg=>(NK 5 a 3).bind λd=>(bK .i64 a 4).bind λc=>(jf e f g d c).bind λb=>bif !b.2 then(ke (.inl ())) else bif((x'.length+(List.map byteRow b.1).length) * 1).ble 140737488355328 then(bif(x'.length+(List.map byteRow b.1).length).ble 140737488355328 then(kn (i64.wrap (v23+1),x'++List.map byteRow b.1)) else none) else none) else ke (.inr (v23,x'))
def M.uD jf v21 v22 s:=M.uz jf v21 v22 s (λs=>some (Sum.inl s)) λt=>some (Sum.inr t)
def M.JE jf v21 v22 s:=dM (M.uD jf v21 v22) s
def F.JE{jf:zao}(UY:S.oP.ok X0 λx=>bP jf x.1.1):LE X0 67:=le 10 (Ef [bH 4 (pO 300000 0),bH 21 (pL false 5),bH 22 pI,bH 23 pI] [bH 300000 zba]) (λx=>(x.1.va.1,x.2.1)) (λx s=>(((),x.1.2.1,x.1.2.2.1,s.1,()),(s.2,()))) (λx=> .sum (.leaf (Unit) (λt=>(Ex.ret,⟨[(2,V.d (D.str [])),(3,rO false)],[]⟩))) (.leaf (Int×au) (λt=>(Ex.exit 1,⟨[(4,V.own 300000 0),(21,Dw 5 x.1.2.1),(22,gX x.1.2.2.1),(23,gX t.1),(24,rO false)],[(300000,Cell.arr false true 0 1 t.2)]⟩)))) (λx=>M.uz jf x.1.2.1 x.1.2.2.1) [fe UY] [] (by rintro _ _ ⟨_,_⟩ _ _<;>simp only[M.uz,nb]<;>rfl)
def M.Ip(jf:zao)(d d1:Int)(d2:aC)(d3:au)(d4:Int)(k:aC×Bool->Option R):=cond (d==1) (k (d2,true)) (cond (d==2) (k ([32],true)) (cond (d==3) (k ([],false)) ((M.JE jf d3 ((↑d3.length:Int)) (0,[])).bind λe=>pz e (λf=>k ([],false)) λb=>letE b λa=>(bytesOf a.2).bind λc=>k (c,true))))
def M.lM:Nat->Int->Int->aC->au->Int->Option (aC×Bool)
 |0=>λ_ _ _ _ _=>none
 |n+1=>λd d1 d2 d3 d4=>M.Ip (M.lM n) d d1 d2 d3 d4 some
def M.oP d d1 d2 d3 d4:=lim λn=>M.lM n d d1 d2 d3 d4
def C.aeK{jf:zao}(UY:S.oP.ok X0 λx=>bP jf x.1.1):S.oP.ok X0 λx=>bP (M.Ip jf) x.1.1 some:=fnS (λx=>M.Ip jf x.1.1.1 x.1.1.2.1 x.1.1.2.2.1 x.1.1.va.1 x.1.1.va.2.1) [] [F.JE UY] (by intros;simp only[M.Ip,nb]<;>rfl)
def C.lM:∀n,S.oP.ok X0 λx=>M.lM n x.1.1.1 x.1.1.2.1 x.1.1.2.2.1 x.1.1.va.1 x.1.1.va.2.1
 |0=>dO.zero
 |n+1=>C.aeK (C.lM n)
def C.oP:S.oP.ok X0 λx=>bP M.oP x.1.1:=dO.lim C.lM
def M.aeL{n:Nat}{d d1:Int}{d2:aC}{d3:au}{d4:Int}{r:aC×Bool}(h:M.lM n d d1 d2 d3 d4=some r):M.oP d d1 d2 d3 d4=some r:=dO.AO C.lM (by intro a b h;simp[S.oP,rp,sg] at h;first|exact h|simp[Prod.ext_iff,h]) (x:=(((d,d1,d2,d3,d4,()),()),())) h
def M.qC(w:Row)(count i jG lX:Int)(rP:aC)(su:au)(PW:Int)(s:Int×au)(kn:Int×au->Option R)(ke:Int×au->Option R):Option R:=match s with
 |(k',x')=>bif decide (k'>=0) then((idx su k').bind λa=>(bK .i64 a 0).bind λf=>(bK .i64 a 1).bind λd=>(cStr a 2).bind λb=>(NK 5 a 3).bind λc=>(bK .i64 a 4).bind λe=>jA x' [[D.int .i64 f,D.int .i64 d,D.str b,D.sl false 5 c,D.int .i64 e]] 64 λg=>kn (i64.wrap (k' - 1),g)) else ke (k',x')
def M.wH w count i jG lX rP su PW s:=M.qC w count i jG lX rP su PW s (λs=>some (Sum.inl s)) λt=>some (Sum.inr t)
def M.nK w count i jG lX rP su PW s:=dM (M.wH w count i jG lX rP su PW) s
def F.nK:LE X0 68:=le 16 (Ef [bH 0 (pR 0),bH 3 pI,bH 4 (pO 300000 0),bH 5 pI,bH 6 (pP 300001 0),bH 7 pI] [bH 300000 zbc,bH 300001 (cB 75 zbd)]) (λx=>(x.1.va.2.2.1,x.2.1)) (λx s=>((x.1.1,x.1.2.1,(),x.1.va.1,(),s.1,()),(s.2,(x.2.2.1.1,x.2.2.1.2.1,x.2.2.1.2.2.1,x.2.2.1.va.1,x.2.2.1.va.2.1,()),()))) (λx=> .leaf (Int×au) (λt=>(Ex.exit 5,⟨[(0,V.uN x.1.1 0),(3,gX x.1.2.1),(4,V.own 300000 0),(5,gX x.1.va.1),(6,V.ptr 300001 0),(7,gX t.1),(62,rO false)],[(300000,Cell.arr false false 0 5 t.2),(300001,Cell.box 75 [gX x.2.2.1.1,gX x.2.2.1.2.1,yI x.2.2.1.2.2.1,Dw 5 x.2.2.1.va.1,gX x.2.2.1.va.2.1])]⟩))) (λx=>M.qC x.1.1 x.1.2.1 x.1.va.1 x.2.2.1.1 x.2.2.1.2.1 x.2.2.1.2.2.1 x.2.2.1.va.1 x.2.2.1.va.2.1) [] [] (by rintro _ _ ⟨_,_⟩ _ _<;>simp only[jA,M.qC,nb]<;>rfl)
def M.iI(s:(Row×Int×Int×au)⊕(Row×Int×Int×Int×Bool×au×Int×Int×aC×au×Int))(kn:(Row×Int×Int×au)⊕(Row×Int×Int×Int×Bool×au×Int×Int×aC×au×Int)->Option R)(ke:(Int)⊕(Row×Int×Int×au)->Option R):Option R:=match s with
 | .inl (w,count,i,x')=>bif decide ((↑x'.length:Int)>0) then((idx x' (i64.wrap ((↑x'.length:Int) - 1))).bind λt=>(x'[(i64.wrap ((↑x'.length:Int) - 1)).toNat]?).bind λf=>(bK .i64 f 0).bind λa=>(bK .i64 f 1).bind λh=>(cStr f 2).bind λd=>(cRo 5 f 3).bind λl=>(bK .i64 f 4).bind λj=>bif decide (0<=i64.wrap ((↑x'.length:Int) - 1)) && decide (i64.wrap ((↑x'.length:Int) - 1)<=(↑x'.length:Int)) then(bif a==1 then((M.nK w (i64.wrap (count+(↑d.length:Int))) i a h d l j (i64.wrap ((↑l.length:Int) - 1),List.take (i64.wrap ((↑x'.length:Int) - 1)).toNat x')).bind λq=>kn (.inr (w,i64.wrap (count+(↑d.length:Int)),i,q.1,false,q.2,a,h,d,l,j))) else bif a==2 then(ke (.inl count)) else bif a==3 then(ke (.inl count)) else (M.nK w count i a h d l j (i64.wrap ((↑l.length:Int) - 1),List.take (i64.wrap ((↑x'.length:Int) - 1)).toNat x')).bind λn=>kn (.inr (w,count,i,n.1,false,n.2,a,h,d,l,j))) else none) else(ke (.inr (w,count,i,x')))
 | .inr (w,count,i,k',v62,x',jG,lX,rP,su,PW)=>bif decide ((↑x'.length:Int)>0) then((idx x' (i64.wrap ((↑x'.length:Int) - 1))).bind λr=>(x'[(i64.wrap ((↑x'.length:Int) - 1)).toNat]?).bind λe=>(bK .i64 e 0).bind λb=>(bK .i64 e 1).bind λg=>(cStr e 2).bind λc=>(cRo 5 e 3).bind λm=>(bK .i64 e 4).bind λk=>bif decide (0<=i64.wrap ((↑x'.length:Int) - 1)) && decide (i64.wrap ((↑x'.length:Int) - 1)<=(↑x'.length:Int)) then(bif b==1 then((M.nK w (i64.wrap (count+(↑c.length:Int))) i b g c m k (i64.wrap ((↑m.length:Int) - 1),List.take (i64.wrap ((↑x'.length:Int) - 1)).toNat x')).bind λo=>kn (.inr (w,i64.wrap (count+(↑c.length:Int)),i,o.1,false,o.2,b,g,c,m,k))) else bif b==2 then(ke (.inl count)) else bif b==3 then(ke (.inl count)) else (M.nK w count i b g c m k (i64.wrap ((↑m.length:Int) - 1),List.take (i64.wrap ((↑x'.length:Int) - 1)).toNat x')).bind λp=>kn (.inr (w,count,i,p.1,false,p.2,b,g,c,m,k))) else none) else ke (.inr (w,count,i,x'))
def M.iJ s:=M.iI s (λs=>some (Sum.inl s)) λt=>some (Sum.inr t)
def M.uU s:=dM (M.iJ) s
def F.uU:LE X0 68:=le 6 (pOr (Ef [bH 0 (pR 0),bH 3 pI,bH 4 (pO 300000 0),bH 5 pI] [bH 300000 zbc]) (Ef [bH 0 (pR 0),bH 3 pI,bH 4 (pO 300000 0),bH 5 pI,bH 6 (pP 300001 0),bH 7 pI,bH 62 pB] [bH 300000 zbc,bH 300001 (cB 75 zbd)])) (σ:=(Row×Int×Int×au)⊕(Row×Int×Int×Int×Bool×au×Int×Int×aC×au×Int)) (λx=>(match x with| .inl x=> .inl ((x.1.1,x.1.2.1,x.1.va.1,x.2.1))| .inr x=> .inr ((x.1.1,x.1.2.1,x.1.va.1,x.1.va.2.2.1,x.1.va.va.1,x.2.1,x.2.2.1.1,x.2.2.1.2.1,x.2.2.1.2.2.1,x.2.2.1.va.1,x.2.2.1.va.2.1)))) (λx s=>(match s with| .inl s=> .inl (((s.1,s.2.1,(),s.2.2.1,()),(s.va,())))| .inr s=> .inr (((s.1,s.2.1,(),s.2.2.1,(),s.va.1,s.va.2.1,()),(s.va.2.2.1,(s.va.va.1,s.va.va.2.1,s.wa.1,s.wa.2.1,s.wa.2.2,()),()))))) (λx=> .sum (.leaf (Int) (λt=>(Ex.ret,⟨[(2,gX t)],[]⟩))) (.leaf (Row×Int×Int×au) (λt=>(Ex.exit 2,⟨[(0,V.uN t.1 0),(3,gX t.2.1),(4,V.own 300000 0),(5,gX t.2.2.1),(32,rO false)],[(300000,Cell.arr false false 0 5 t.va)]⟩)))) (λx=>M.iI) [] [F.nK] (by rintro _ _ (⟨_,_,_,_⟩|⟨_,_,_,_,_,_,_,_,_,_,_⟩) _ _<;>unfold M.iI<;>exact zbo) (hE:=by intro _ _ s _;rcases s with s|s<;>kernel_rfl)
def M.rD(s:Row×Int×Int×au)(kn:Row×Int×Int×au->Option R)(ke:(Int)⊕(Row×Int×Int×au)->Option R):Option R:=match s with
 |(w,count,i,x')=>bif decide (i>=0) then((NK 7 w 2).bind λg=>(idx g i).bind λa=>(bK .i64 a 0).bind λf=>(bK .i64 a 1).bind λc=>(cStr a 2).bind λd=>(NK 5 a 3).bind λl=>(bK .i64 a 4).bind λe=>jA x' [[D.int .i64 f,D.int .i64 c,D.str d,D.sl false 5 l,D.int .i64 e]] 64 λm=>(M.uU (.inl (w,count,i,m))).bind λh=>pz h (λj=>ke (.inl j)) λk=>letE k λb=>kn (b.1,b.2.1,i64.wrap (b.2.2.1 - 1),b.2.2.2)) else ke (.inr (w,count,i,x'))
def M.rE s:=M.rD s (λs=>some (Sum.inl s)) λt=>some (Sum.inr t)
def M.Az s:=dM (M.rE) s
def F.Az:LE X0 68:=le 3 (Ef [bH 0 (pR 0),bH 3 pI,bH 4 (pO 300000 0),bH 5 pI] [bH 300000 zbc]) (λx=>(x.1.1,x.1.2.1,x.1.va.1,x.2.1)) (λx s=>((s.1,s.2.1,(),s.2.2.1,()),(s.va,()))) (λx=> .sum (.leaf (Int) (λt=>(Ex.ret,⟨[(2,gX t)],[]⟩))) (.leaf (Row×Int×Int×au) (λt=>(Ex.exit 0,⟨[(0,V.uN t.1 0),(3,gX t.2.1),(4,V.own 300000 0),(5,gX t.2.2.1),(16,rO false)],[(300000,Cell.arr false false 0 5 t.va)]⟩)))) (λx=>M.rD) [] [F.uU] (by rintro _ _ ⟨_,_,_,_⟩ _ _<;>simp only[jA,M.rD,nb]<;>rfl)
abbrev M.C9(w:Row)(k:Int->Option R):=(NK 7 w 2).bind λc=>(M.Az (w,0,i64.wrap ((↑c.length:Int) - 1),[])).bind λd=>pz d (λa=>k a) λb=>letE b λe=>k e.2.1
def M.oL w:=M.C9 w some
def C.oL:=fTa S.oL (λx=>M.C9 x.1.1) [] [F.Az]
abbrev M.MI(d d1:Int)(d2:aC)(d3:au)(d4:Int)(c:au)(c1:Int)(c2:au)(c3:Int)(k:Bool×au×Int×au×Int->Option R):=(M.oP d d1 d2 d3 d4).bind λa=>cond a.2 ((M.oL [D.sl false 1 c,D.int .i64 c1,D.sl false 7 (aG c2)]).bind λb=>cond (aA c) (k (decide (i64.wrap ((↑a.1.length:Int)+b)<=i64.wrap (c3 - c1)),c,c1,c2,c3)) none) (cond (aA c) (k (false,c,c1,c2,c3)) none)
def M.sS d d1 d2 d3 d4 c c1 c2 c3:=M.MI d d1 d2 d3 d4 c c1 c2 c3 some
def C.sS:=fTa S.sS (λx=>M.MI x.1.1.1 x.1.1.2.1 x.1.1.2.2.1 x.1.1.va.1 x.1.1.va.2.1 x.2.1.1 x.2.1.2.1 x.2.1.2.2.1 x.2.2.1.1) [fe C.oP,fe C.oL]
def M.Dc(s:Int×Int×au×au)(kn:Int×Int×au×au->Option R)(ke:Int×Int×au×au->Option R):Option R:=match s with
 |(v,v1,x',jG)=>bif decide ((↑jG.length:Int)>0) then((idx jG (i64.wrap ((↑jG.length:Int) - 1))).bind λp=>(jG[(i64.wrap ((↑jG.length:Int) - 1)).toNat]?).bind λk=>(bK .i64 k 0).bind λa=>(bK .i64 k 1).bind λc=>(cStr k 2).bind λb=>(cRo 5 k 3).bind λf=>(bK .i64 k 4).bind λg=>(bK .i64 k 5).bind λd=>(RU k 6).bind λh=>bif decide (0<=i64.wrap ((↑jG.length:Int) - 1)) && decide (i64.wrap ((↑jG.length:Int) - 1)<=(↑jG.length:Int)) then(bif a==1 then(bif((x'.length+(List.map byteRow b).length) * 1).ble 140737488355328 then(bif(x'.length+(List.map byteRow b).length).ble 140737488355328 then(kn (i64.wrap (v+(↑b.length:Int)),v1,x'++List.map byteRow b,List.take (i64.wrap ((↑jG.length:Int) - 1)).toNat jG)) else none) else none) else bif a==2 then(bif h then(bif((x'.length+1) * 1).ble 140737488355328 then(bif(x'.length+1).ble 140737488355328 then(kn (i64.wrap (v+1),v1,x'++[[D.int IntKind.u8 32]],List.take (i64.wrap ((↑jG.length:Int) - 1)).toNat jG)) else none) else none) else bif aA x' then((M.mQ d x' v (List.take (i64.wrap ((↑jG.length:Int) - 1)).toNat jG)).bind λj=>kn (j.2.1,v1,j.1,j.2.2)) else none) else bif a==3 then(bif aA x' then((M.mQ d x' v (List.take (i64.wrap ((↑jG.length:Int) - 1)).toNat jG)).bind λl=>kn (l.2.1,v1,l.1,l.2.2)) else none) else bif a==4 then(bif aA x' then((M.jh a c b f g (i64.wrap (d+c)) h x' v (List.take (i64.wrap ((↑jG.length:Int) - 1)).toNat jG)).bind λo=>kn (o.2.1,v1,o.1,o.2.2)) else none) else bif a==5 then(bif h then(bif aA x' then((M.jh a c b f g d true x' v (List.take (i64.wrap ((↑jG.length:Int) - 1)).toNat jG)).bind λn=>kn (n.2.1,v1,n.1,n.2.2)) else none) else bif aA x' then((M.sS a c b f g x' v (List.take (i64.wrap ((↑jG.length:Int) - 1)).toNat jG) v1).bind λe=>bif aA e.2.1 then((M.jh a c b f g d e.1 e.2.1 e.2.2.1 e.2.2.2.1).bind λi=>kn (i.2.1,e.2.2.2.2,i.1,i.2.2)) else none) else none) else bif aA x' then((M.jh a c b f g d h x' v (List.take (i64.wrap ((↑jG.length:Int) - 1)).toNat jG)).bind λm=>kn (m.2.1,v1,m.1,m.2.2)) else none) else none) else ke (v,v1,x',jG)
def M.rF s:=M.Dc s (λs=>some (Sum.inl s)) λt=>some (Sum.inr t)
def M.Hg s:=dM (M.rF) s
def F.Hg:LE X0 64:=le 2 (Ef [bH 0 (pP 100000 0),bH 2 (anh 66 [] [pKp (pP 100000 0),pP 100001 0])] [bH 100000 (cB 91 [pO 300000 0,pI,pO 300001 0]),bH 100001 (cB 3 [pI]),bH 300000 zba,bH 300001 (cA false false 0 7)]) (λx=>(x.2.1.2.1,x.2.2.1.1,x.va.1,x.va.2.1)) (λx s=>(((),((),((),(),())),()),(((),s.1,(),()),(s.2.1,()),s.2.2.1,s.va,()))) (λx=> .leaf (Int×Int×au×au) (λt=>(Ex.exit 0,⟨[(0,V.ptr 100000 0),(2,V.clo 66 [] [(V.ptr 100000 0).Em,V.ptr 100001 0]),(18,rO false)],[(100000,Cell.box 91 [V.own 300000 0,gX t.1,V.own 300001 0]),(100001,Cell.box 3 [gX t.2.1]),(300000,Cell.arr false true 0 1 t.2.2.1),(300001,Cell.arr false false 0 7 t.va)]⟩))) (λx=>M.Dc) [fe C.mQ,fe C.jh,fe C.sS] [] (by rintro _ _ ⟨_,_,_,_⟩ _ _<;>simp only[M.Dc,nb]<;>rfl)
abbrev M.JF(d d1:Int)(d2:aC)(d3:au)(d4:Int)(c:au)(c1:Int)(c2:au)(c3:Int)(k:au×Int×au×Int->Option R):=(M.Hg (c1,c3,c,[[D.int .i64 d,D.int .i64 d1,D.str d2,D.sl false 5 d3,D.int .i64 d4,D.int .i64 0,D.bool false]])).bind λa=>cond (aA a.2.2.1) (k (a.2.2.1,a.1,a.2.2.2,a.2.1)) none
def M.xY d d1 d2 d3 d4 c c1 c2 c3:=M.JF d d1 d2 d3 d4 c c1 c2 c3 some
def C.xY:=fTa S.xY (λx=>M.JF x.1.2.1.1 x.1.2.1.2.1 x.1.2.1.2.2.1 x.1.2.1.va.1 x.1.2.1.va.2.1 x.2.1.1 x.2.1.2.1 x.2.1.2.2.1 x.2.2.1.1) [] [F.Hg]
abbrev M.NV(l:au)(w:Int)(k:aC×Bool->Option R):=(M.D6 l).bind λe=>cond (!e) (k ([],false)) ((M.bJ w 0 10000).bind λc=>cond (!c) (k ([],false)) ((M.J3 l).bind λa=>(M.xY a.1 a.2.1 a.2.2.1 (aG a.2.2.2.1) a.2.2.2.2 [] 0 [] w).bind λb=>(bytesOf b.1).bind λd=>k (d,true)))
def M.xg l w:=M.NV l w some
def C.xg:=fTa S.xg (λx=>M.NV x.1.1 x.1.2.1) [fe C.D6,fe C.bJ,fe C.J3,fe C.xY]
abbrev M.MJ(d:au)(w:Int)(k:aC×Bool->Option R):=(M.xg d w).bind λa=>cond (!a.2) (k ([],false)) (cond (decide ((↑a.1.length:Int)>3000)) (k ([],false)) (k (a.1,true)))
def M.sU d w:=M.MJ d w some
def C.sU:=fTa S.sU (λx=>M.MJ x.1.1 x.1.2.1) [fe C.xg]
abbrev M.Vy(l:au)(w:Int)(k:aC×Bool->Option R):=(M.oO l).bind λb=>(M.sU (aG b) w).bind λa=>k (a.1,a.2)
def M.J4 l w:=M.Vy l w some
def C.J4:=fTa S.J4 (λx=>M.Vy x.1.1 x.1.2.1) [fe C.oO,fe C.sU]
def C.strings_Split:S.strings_Split.ok X0 λx=>M.strings_Split x.1.1 x.1.2.1:=dO.Zw (p:=Prim.strings_Split)
abbrev M.Rn(s':aC)(k:au->Option R):=(M.strings_Split s' [10]).bind λa=>(idx a (i64.wrap ((↑a.length:Int) - 1))).bind λd=>(a[(i64.wrap ((↑a.length:Int) - 1)).toNat]?).bind λc=>(cStr c 0).bind λb=>cond (b==[]) (cond (decide (0<=i64.wrap ((↑a.length:Int) - 1)) && decide (i64.wrap ((↑a.length:Int) - 1)<=(↑a.length:Int))) (cond (aA (List.take (i64.wrap ((↑a.length:Int) - 1)).toNat a)) (k (List.take (i64.wrap ((↑a.length:Int) - 1)).toNat a)) none) none) (cond (aA a) (k a) none)
def M.BJ s':=M.Rn s' some
def C.BJ:=fTa S.BJ (λx=>M.Rn x.1.1) [fe C.strings_Split]
abbrev M.MK(l:au)(w:Int)(k:Int->Option R):=(M.J4 l w).bind λa=>cond (!a.2) (k (-1)) ((M.BJ a.1).bind λb=>k ((↑b.length:Int)))
def M.jU l w:=M.MK l w some
def C.jU:=fTa S.jU (λx=>M.MK x.1.1 x.1.2.1) [fe C.J4,fe C.BJ]
def M.uF(l:au)(most s:Int)(kn:Int->Option R)(ke:(Int)⊕(Int)->Option R):Option R:=match s with
 |v6=>bif decide (v6<81) then((M.jU l v6).bind λb=>(M.bJ b 0 most).bind λa=>bif a then(ke (.inl v6)) else kn (i64.wrap (v6+1))) else ke (.inr v6)
def M.EF l most s:=M.uF l most s (λs=>some (Sum.inl s)) λt=>some (Sum.inr t)
def M.pY l most s:=dM (M.EF l most) s
def F.pY:LE X0 6:=le 2 (Ef [bH 0 (pL false 5),bH 1 pI,bH 6 pI] []) (λx=>x.1.2.2.1) (λx s=>((x.1.1,x.1.2.1,s,()),())) (λx=> .sum (.leaf (Int) (λt=>(Ex.ret,⟨[(4,gX t)],[]⟩))) (.leaf (Int) (λt=>(Ex.exit 0,⟨[(0,Dw 5 x.1.1),(1,gX x.1.2.1),(6,gX t),(7,rO false)],[]⟩)))) (λx=>M.uF x.1.1 x.1.2.1) [fe C.jU,fe C.bJ] [] (by rintro _ _ _ _ _<;>simp only[M.uF,nb]<;>rfl)
abbrev M.ML(l:au)(most:Int)(k:Int->Option R):=(M.pY l most 0).bind λb=>pz b (λc=>k c) λa=>letE a λd=>k (-1)
def M.xk l most:=M.ML l most some
def C.xk:=fTa S.xk (λx=>M.ML x.1.1 x.1.2.1) [] [F.pY]
def M.uG(l:au)(most s:Int)(kn:Int->Option R)(ke:(Int)⊕(Int)->Option R):Option R:=match s with
 |w=>bif decide (w<=80) then((M.qp l w).bind λa=>bif decide (a>=0) then(bif decide (a<=most) then(ke (.inl w)) else kn (i64.wrap (w+1))) else kn (i64.wrap (w+1))) else ke (.inr w)
def M.EH l most s:=M.uG l most s (λs=>some (Sum.inl s)) λt=>some (Sum.inr t)
def M.qg l most s:=dM (M.EH l most) s
def F.qg:LE X0 7:=le 2 (Ef [bH 0 (pL false 5),bH 1 pI,bH 5 pI] []) (λx=>x.1.2.2.1) (λx s=>((x.1.1,x.1.2.1,s,()),())) (λx=> .sum (.leaf (Int) (λt=>(Ex.ret,⟨[(4,gX t)],[]⟩))) (.leaf (Int) (λt=>(Ex.exit 0,⟨[(0,Dw 5 x.1.1),(1,gX x.1.2.1),(5,gX t),(8,rO false)],[]⟩)))) (λx=>M.uG x.1.1 x.1.2.1) [fe C.qp] [] (by rintro _ _ _ _ _<;>simp only[M.uG,nb]<;>rfl)
abbrev M.MN(l:au)(most:Int)(k:Int->Option R):=(M.qg l most 0).bind λc=>pz c (λb=>k b) λa=>letE a λd=>k (-1)
def M.xq l most:=M.MN l most some
def C.xq:=fTa S.xq (λx=>M.MN x.1.1 x.1.2.1) [] [F.qg]
abbrev M.Ro(c:au)(c1 c2:Int)(k:Int×aC×Int×au×Int×Int->Option R):=(M.bF 10 c c1 c2).bind λa=>cond (a.1==0) ((M.Dy a.2.1 a.2.2.1 a.2.2.2).bind λh=>k (3,h.1,0,h.2.1,h.2.2.1,h.2.2.2)) (cond (a.1==1) ((M.Dz a.2.1 a.2.2.1 a.2.2.2).bind λf=>k (4,f.1,0,f.2.1,f.2.2.1,f.2.2.2)) (cond (a.1==2) ((M.DC a.2.1 a.2.2.1 a.2.2.2).bind λe=>k (5,e.1,0,e.2.1,e.2.2.1,e.2.2.2)) (cond (a.1==3) ((M.iW a.2.1 a.2.2.1 a.2.2.2).bind λi=>k (6,i.1,0,i.2.1,i.2.2.1,i.2.2.2)) (cond (a.1==4) ((M.iW a.2.1 a.2.2.1 a.2.2.2).bind λj=>k (6,j.1,0,j.2.1,j.2.2.1,j.2.2.2)) (cond (a.1==5) (M.oM.bind λl=>(M.iG l a.2.1 a.2.2.1 a.2.2.2).bind λg=>k (8,g.1,0,g.2.1,g.2.2.1,g.2.2.2)) (cond (a.1==6) ((M.bF 17 a.2.1 a.2.2.1 a.2.2.2).bind λd=>(M.jr (i64.wrap (10+d.1))).bind λn=>k (i64.wrap (10+d.1),n,0,d.2.1,d.2.2.1,d.2.2.2)) ((M.bF 39 a.2.1 a.2.2.1 a.2.2.2).bind λb=>(M.jr (i64.wrap (30+b.1))).bind λm=>k (i64.wrap (30+b.1),m,0,b.2.1,b.2.2.1,b.2.2.2))))))))
def M.sV c c1 c2:=M.Ro c c1 c2 some
def C.sV:=fTa S.sV (λx=>M.Ro x.2.1.1 x.2.1.2.1 x.2.1.2.2.1) [fe C.bF,fe C.Dy,fe C.Dz,fe C.DC,fe C.iW,fe C.oM,fe C.iG,fe C.jr]
abbrev M.Hl(kind:Int)(k:Bool->Option R):=cond (kind==3) (k true) (cond (kind==4) (k true) (cond (kind==5) (k true) (cond (kind==6) (k true) (cond (kind==8) (k true) (cond (kind==33) (k true) (cond (kind==35) (k true) (cond (kind==51) (k true) (cond (kind==52) (k true) (k false)))))))))
def M.iH kind:=M.Hl kind some
def C.iH:=fTa S.iH (λx=>M.Hl x.1.1)
abbrev M.iU(x':au)(kn:Int×au×Int×Int×au->Option R)(n':Int)(nX:Int×aC×Int×au×Int×Int):=cond (((x'.length+1) * 32).ble 140737488355328) (cond ((x'.length+1).ble 140737488355328) (kn (i64.wrap (n' - 1),nX.2.2.2.1,nX.2.2.2.2.1,nX.2.2.2.2.2,x'++[[D.int .i64 1,D.str [10],D.int .i64 0]])) none) none
abbrev M.tY(adG:Bool×au×Int×Int)(x':au)(kn:Int×au×Int×Int×au->Option R)(n':Int)(nX:Int×aC×Int×au×Int×Int):=cond adG.1 ((M.iG ([[D.str [35]],[D.str [35,32,97]],[D.str [35,34,120]]]) adG.2.1 adG.2.2.1 adG.2.2.2).bind λa=>cond (((x'.length+[[D.int .i64 2,D.str a.1,D.int .i64 0]].length) * 32).ble 140737488355328) (cond ((x'.length+[[D.int .i64 2,D.str a.1,D.int .i64 0]].length).ble 140737488355328) (cond ((((x'++[[D.int .i64 2,D.str a.1,D.int .i64 0]]).length+1) * 32).ble 140737488355328) (cond (((x'++[[D.int .i64 2,D.str a.1,D.int .i64 0]]).length+1).ble 140737488355328) (kn (i64.wrap (n' - 1),a.2.1,a.2.2.1,a.2.2.2,x'++[[D.int .i64 2,D.str a.1,D.int .i64 0]]++[[D.int .i64 1,D.str [10],D.int .i64 0]])) none) none) none) none) (cond (((x'.length+[[D.int .i64 nX.1,D.str nX.2.1,D.int .i64 nX.2.2.1]].length) * 32).ble 140737488355328) (cond ((x'.length+[[D.int .i64 nX.1,D.str nX.2.1,D.int .i64 nX.2.2.1]].length).ble 140737488355328) (kn (i64.wrap (n' - 1),adG.2.1,adG.2.2.1,adG.2.2.2,x'++[[D.int .i64 nX.1,D.str nX.2.1,D.int .i64 nX.2.2.1]])) none) none)
abbrev M.gQ(nX:Int×aC×Int×au×Int×Int)(x':au)(kn:Int×au×Int×Int×au->Option R)(n':Int):=cond (nX.1==6) ((M.jD 4 nX.2.2.2.1 nX.2.2.2.2.1 nX.2.2.2.2.2).bind λa=>cond a.1 (cond (((x'.length+[[D.int .i64 7,D.str nX.2.1,D.int .i64 nX.2.2.1]].length) * 32).ble 140737488355328) (cond ((x'.length+[[D.int .i64 7,D.str nX.2.1,D.int .i64 nX.2.2.1]].length).ble 140737488355328) (cond ((((x'++[[D.int .i64 7,D.str nX.2.1,D.int .i64 nX.2.2.1]]).length+1) * 32).ble 140737488355328) (cond (((x'++[[D.int .i64 7,D.str nX.2.1,D.int .i64 nX.2.2.1]]).length+1).ble 140737488355328) (kn (i64.wrap (n' - 1),a.2.1,a.2.2.1,a.2.2.2,x'++[[D.int .i64 7,D.str nX.2.1,D.int .i64 nX.2.2.1]]++[[D.int .i64 32,D.str [40],D.int .i64 0]])) none) none) none) none) ((M.jD 20 a.2.1 a.2.2.1 a.2.2.2).bind λc=>M.tY c x' kn n' nX)) ((M.jD 20 nX.2.2.2.1 nX.2.2.2.2.1 nX.2.2.2.2.2).bind λb=>M.tY b x' kn n' nX)
def M.Am(s:Int×au×Int×Int×au)(kn:Int×au×Int×Int×au->Option R)(ke:Int×au×Int×Int×au->Option R):Option R:=match s with
 |(n',v,v1,v2,x')=>bif decide (n'>0) then(bif decide ((↑x'.length:Int)>0) then((idx x' (i64.wrap ((↑x'.length:Int) - 1))).bind λo=>(x'[(i64.wrap ((↑x'.length:Int) - 1)).toNat]?).bind λl=>(bK .i64 l 0).bind λc=>(M.sV v v1 v2).bind λa=>bif a.1==5 then((M.iH c).bind λk=>bif k then(M.iU x' kn n' a) else bif a.1==58 then((M.iH c).bind λn=>bif !n then(M.iU x' kn n' a) else M.gQ a x' kn n') else bif a.1==41 then((M.iH c).bind λe=>bif !e then(M.iU x' kn n' a) else M.gQ a x' kn n') else M.gQ a x' kn n') else bif a.1==58 then((M.iH c).bind λd=>bif !d then(M.iU x' kn n' a) else M.gQ a x' kn n') else bif a.1==41 then((M.iH c).bind λf=>bif !f then(M.iU x' kn n' a) else M.gQ a x' kn n') else M.gQ a x' kn n') else (M.sV v v1 v2).bind λb=>bif b.1==5 then((M.iH 0).bind λi=>bif i then(M.iU x' kn n' b) else bif b.1==58 then((M.iH 0).bind λj=>bif !j then(M.iU x' kn n' b) else M.gQ b x' kn n') else bif b.1==41 then((M.iH 0).bind λm=>bif !m then(M.iU x' kn n' b) else M.gQ b x' kn n') else M.gQ b x' kn n') else bif b.1==58 then((M.iH 0).bind λh=>bif !h then(M.iU x' kn n' b) else M.gQ b x' kn n') else bif b.1==41 then((M.iH 0).bind λg=>bif !g then(M.iU x' kn n' b) else M.gQ b x' kn n') else M.gQ b x' kn n') else ke (n',v,v1,v2,x')
def M.Ho s:=M.Am s (λs=>some (Sum.inl s)) λt=>some (Sum.inr t)
def M.vM s:=dM (M.Ho) s
def F.vM:LE X0 17:=le 3 (Ef [bH 0 (pP 100000 0),bH 5 (pO 300000 0),bH 6 pI] [bH 100000 (cB 48 zbe),bH 300000 zbj]) (λx=>(x.1.2.2.1,x.2.1.1,x.2.1.2.1,x.2.1.2.2.1,x.2.2.1)) (λx s=>(((),(),s.1,()),((s.2.1,s.2.2.1,s.va.1,()),s.va.2,()))) (λx=> .leaf zax (λt=>(Ex.exit 0,⟨[(0,V.ptr 100000 0),(5,V.own 300000 0),(6,gX t.1),(15,rO false)],[(100000,Cell.box 48 [Dw 1 t.2.1,gX t.2.2.1,gX t.va.1]),(300000,Cell.arr false true 0 3 t.va.2)]⟩))) (λx=>M.Am) [fe C.sV,fe C.iH,fe C.jD,fe C.iG] [] (by rintro _ _ ⟨_,_,_,_,_⟩ _ _<;>unfold M.Am M.gQ M.tY M.iU<;>exact zbo)
abbrev M.O6(most:Int)(c:au)(c1 c2:Int)(k:au×au×Int×Int->Option R):=(M.bF (i64.wrap (most+1)) c c1 c2).bind λf=>(M.vM (f.1,f.2.1,f.2.2.1,f.2.2.2,[])).bind λb=>cond (decide ((↑b.2.2.2.2.length:Int)>0)) ((M.jD 10 b.2.1 b.2.2.1 b.2.2.2.1).bind λe=>cond e.1 ((M.bF ((↑b.2.2.2.2.length:Int)) e.2.1 e.2.2.1 e.2.2.2).bind λd=>(M.sV d.2.1 d.2.2.1 d.2.2.2).bind λa=>(idx b.2.2.2.2 d.1).bind λh=>b.2.2.2.2[d.1.toNat]?.bind λg=>cond (aA (b.2.2.2.2.set d.1.toNat (splice g 0 [D.int .i64 a.1,D.str a.2.1,D.int .i64 a.2.2.1]))) (k (b.2.2.2.2.set d.1.toNat (splice g 0 [D.int .i64 a.1,D.str a.2.1,D.int .i64 a.2.2.1]),a.2.2.2.1,a.2.2.2.2.1,a.2.2.2.2.2)) none) (cond (aA b.2.2.2.2) (k (b.2.2.2.2,e.2.1,e.2.2.1,e.2.2.2)) none)) (cond (aA b.2.2.2.2) (k (b.2.2.2.2,b.2.1,b.2.2.1,b.2.2.2.1)) none)
def M.wE most c c1 c2:=M.O6 most c c1 c2 some
def C.wE:=fTa S.wE (λx=>M.O6 x.1.2.1 x.2.1.1 x.2.1.2.1 x.2.1.2.2.1) [fe C.bF,fe C.jD,fe C.sV] [F.vM]
abbrev M.Hq(code:au)(k:au->Option R):=(M.Dx code).bind λa=>(M.wE 12 a.1 a.2.1 a.2.2).bind λb=>cond (aA b.1) (k b.1) none
def M.qY code:=M.Hq code some
def C.qY:=fTa S.qY (λx=>M.Hq x.1.1) [fe C.Dx,fe C.wE]
abbrev M.JG(t':Int)(gG:aC)(iC c:Int)(k:Bool×Int->Option R):=k (t'==c,c)
def M.xZ t' gG iC c:=M.JG t' gG iC c some
def C.xZ:=fTa S.xZ (λx=>M.JG x.1.1.1 x.1.1.2.1 x.1.1.2.2.1 x.2.1.1)
def M.uV(s':au)(v7:Int)(s:Int×Int)(kn:Int×Int->Option R)(ke:(Int×Int)⊕(Int×Int)->Option R):Option R:=match s with
 |(v8,v)=>bif decide (v8<v7) then((idx s' v8).bind λb=>(bK .i64 b 0).bind λe=>(cStr b 1).bind λd=>(bK .i64 b 2).bind λc=>(M.xZ e d c v).bind λa=>bif a.1 then(ke (.inl (v8,a.2))) else kn (i64.wrap (v8+1),a.2)) else ke (.inr (v8,v))
def M.AA s' v7 s:=M.uV s' v7 s (λs=>some (Sum.inl s)) λt=>some (Sum.inr t)
def M.EI s' v7 s:=dM (M.AA s' v7) s
def F.EI:LE X0 31:=le 2 (Ef [bH 0 (pL false 3),bH 1 (anh 19 [] [pP 100000 0]),bH 7 pI,bH 8 pI] [bH 100000 (cB 3 [pI])]) (λx=>(x.1.va.1,x.2.1.1)) (λx s=>((x.1.1,((),((),())),x.1.2.2.1,s.1,()),((s.2,()),()))) (λx=> .sum (.leaf (Int×Int) (λt=>(Ex.ret,⟨[(4,gX t.1)],[(100000,Cell.box 3 [gX t.2])]⟩))) (.leaf (Int×Int) (λt=>(Ex.exit 0,⟨[(0,Dw 3 x.1.1),(1,V.clo 19 [] [V.ptr 100000 0]),(7,gX x.1.2.2.1),(8,gX t.1),(9,rO false)],[(100000,Cell.box 3 [gX t.2])]⟩)))) (λx=>M.uV x.1.1 x.1.2.2.1) [fe C.xZ] [] (by rintro _ _ ⟨_,_⟩ _ _<;>simp only[M.uV,nb]<;>rfl)
abbrev M.Hr(s':au)(c:Int)(k:Int×Int->Option R):=(M.EI s' ((↑s'.length:Int)) (0,c)).bind λe=>pz e (λa=>k (a.1,a.2)) λd=>letE d λb=>k (-1,b.2)
def M.slices_IndexFunc s' c:=M.Hr s' c some
def C.slices_IndexFunc:=fTa S.slices_IndexFunc (λx=>M.Hr x.1.1 x.2.1.1) [] [F.EI]
abbrev M.AB(s':au)(c:Int)(k:Bool×Int->Option R):=(M.slices_IndexFunc s' c).bind λa=>k (decide (a.1>=0),a.2)
def M.slices_ContainsFunc(s':au)(c:Int):Option (Bool×Int):=M.AB s' c some
def C.slices_ContainsFunc:=fTa S.slices_ContainsFunc (λx=>M.AB x.1.1 x.2.1.1) [fe C.slices_IndexFunc]
def M.Df(l:au)(s:Int×au)(kn:Int×au->Option R)(ke:Int×au->Option R):Option R:=match s with
 |(v6,x')=>bif decide (v6<69) then((M.slices_ContainsFunc l v6).bind λa=>bif a.1 then(jA x' [[D.int .i64 a.2]] 8 λb=>kn (i64.wrap (v6+1),b)) else kn (i64.wrap (v6+1),x')) else ke (v6,x')
def M.JH l s:=M.Df l s (λs=>some (Sum.inl s)) λt=>some (Sum.inr t)
def M.O7 l s:=dM (M.JH l) s
def F.O7:LE X0 9:=le 3 (Ef [bH 0 (pL false 3),bH 3 (pO 300000 0),bH 6 pI] [bH 300000 zba]) (λx=>(x.1.2.2.1,x.2.1)) (λx s=>((x.1.1,(),s.1,()),(s.2,()))) (λx=> .leaf (Int×au) (λt=>(Ex.exit 0,⟨[(0,Dw 3 x.1.1),(3,V.own 300000 0),(6,gX t.1),(7,rO false)],[(300000,Cell.arr false true 0 1 t.2)]⟩))) (λx=>M.Df x.1.1) [fe C.slices_ContainsFunc] [] (by rintro _ _ ⟨_,_⟩ _ _<;>simp only[jA,M.Df,nb]<;>rfl)
abbrev M.Rq(l:au)(k:au->Option R):=(M.O7 l (0,[])).bind λa=>cond (aA a.2) (k a.2) none
def M.BK l:=M.Rq l some
def C.BK:=fTa S.BK (λx=>M.Rq x.1.1) [] [F.O7]
def M.IL(l:au)(x' s:Int)(kn:Int->Option R)(ke:(Unit)⊕(Int)->Option R):Option R:=match s with
 |i=>bif decide (i<(↑l.length:Int)) then((idx l i).bind λa=>(bK .i64 a 0).bind λb=>bif b==x' then(ke (.inl ())) else kn (i64.wrap (i+1))) else ke (.inr i)
def M.NW l x' s:=M.IL l x' s (λs=>some (Sum.inl s)) λt=>some (Sum.inr t)
def M.Xf l x' s:=dM (M.NW l x') s
def F.Xf:LE X0 10:=le 2 (Ef [bH 0 (pL false 1),bH 1 pI,bH 5 pI] []) (λx=>x.1.2.2.1) (λx s=>((x.1.1,x.1.2.1,s,()),())) (λx=> .sum (.leaf (Unit) (λt=>(Ex.ret,⟨[(4,rO true)],[]⟩))) (.leaf (Int) (λt=>(Ex.exit 0,⟨[(0,Dw 1 x.1.1),(1,gX x.1.2.1),(5,gX t),(9,rO false)],[]⟩)))) (λx=>M.IL x.1.1 x.1.2.1) [] [] (by rintro _ _ _ _ _<;>simp only[M.IL,nb]<;>rfl)
abbrev M.YO(l:au)(x':Int)(k:Bool->Option R):=(M.Xf l x' 0).bind λb=>pz b (λc=>k true) λa=>letE a λd=>k false
def M.UA l x':=M.YO l x' some
def C.UA:=fTa S.UA (λx=>M.YO x.1.1 x.1.2.1) [] [F.Xf]
def M.Dh(n' w:Int)(x' jG lX:au)(s:Int)(kn:Int->Option R)(ke:(Unit)⊕(Int)->Option R):Option R:=match s with
 |i=>bif decide (i<(↑jG.length:Int)) then((idx jG i).bind λd=>jG[i.toNat]?.bind λb=>(bK .i64 b 0).bind λc=>(M.UA lX c).bind λa=>bif !a then(ke (.inl ())) else kn (i64.wrap (i+1))) else ke (.inr i)
def M.JI n' w x' jG lX s:=M.Dh n' w x' jG lX s (λs=>some (Sum.inl s)) λt=>some (Sum.inr t)
def M.O8 n' w x' jG lX s:=dM (M.JI n' w x' jG lX) s
def F.O8:LE X0 3:=le 10 (Ef [bH 3 (pO 300000 0),bH 4 pI,bH 5 pI,bH 6 (pO 300001 0),bH 7 (pO 300002 0),bH 8 pI] [bH 300000 zbc,bH 300001 zbj,bH 300002 zba]) (λx=>x.1.va.2.2.1) (λx s=>(((),x.1.2.1,x.1.2.2.1,(),(),s,()),(x.2.1,x.2.2.1,x.va.1,()))) (λx=> .sum (.leaf (Unit) (λt=>(Ex.ret,⟨[(2,rO false)],[]⟩))) (.leaf (Int) (λt=>(Ex.exit 0,⟨[(3,V.own 300000 0),(4,gX x.1.2.1),(5,gX x.1.2.2.1),(6,V.own 300001 0),(7,V.own 300002 0),(8,gX t),(33,rO false)],[(300000,Cell.arr false false 0 5 x.2.1),(300001,Cell.arr false true 0 3 x.2.2.1),(300002,Cell.arr false true 0 1 x.va.1)]⟩)))) (λx=>M.Dh x.1.2.1 x.1.2.2.1 x.2.1 x.2.2.1 x.va.1) [fe C.UA] [] (by rintro _ _ _ _ _<;>simp only[M.Dh,nb]<;>rfl)
def M.xO(n' w:Int)(x' jG:au)(s:Int)(kn:Int->Option R)(ke:(Unit)⊕(Int)->Option R):Option R:=match s with
 |i=>bif decide (i<(↑jG.length:Int)) then((idx jG i).bind λe=>jG[i.toNat]?.bind λc=>(bK .i64 c 0).bind λd=>(idx jG (i64.wrap (i - 1))).bind λf=>(jG[(i64.wrap (i - 1)).toNat]?).bind λa=>(bK .i64 a 0).bind λb=>bif decide (d<=b) then(ke (.inl ())) else kn (i64.wrap (i+1))) else ke (.inr i)
def M.Di n' w x' jG s:=M.xO n' w x' jG s (λs=>some (Sum.inl s)) λt=>some (Sum.inr t)
def M.Iq n' w x' jG s:=dM (M.Di n' w x' jG) s
def F.Iq:LE X0 3:=le 15 (Ef [bH 3 (pO 300000 0),bH 4 pI,bH 5 pI,bH 7 (pO 300001 0),bH 9 pI] [bH 300000 zbc,bH 300001 zba]) (λx=>x.1.va.2.1) (λx s=>(((),x.1.2.1,x.1.2.2.1,(),s,()),(x.2.1,x.2.2.1,()))) (λx=> .sum (.leaf (Unit) (λt=>(Ex.ret,⟨[(2,rO false)],[]⟩))) (.leaf (Int) (λt=>(Ex.exit 2,⟨[(3,V.own 300000 0),(4,gX x.1.2.1),(5,gX x.1.2.2.1),(7,V.own 300001 0),(9,gX t),(47,rO false)],[(300000,Cell.arr false false 0 5 x.2.1),(300001,Cell.arr false true 0 1 x.2.2.1)]⟩)))) (λx=>M.xO x.1.2.1 x.1.2.2.1 x.2.1 x.2.2.1) [] [] (by rintro _ _ _ _ _<;>simp only[M.xO,nb]<;>rfl)
abbrev M.Ul(code:au)(k:Bool->Option R):=(M.VY code).bind λr=>cond r (k true) ((M.oK code).bind λb=>(M.xk (aG b.1) b.2).bind λa=>(M.xq (aG b.1) b.2).bind λi=>cond (a !=i) (k false) ((M.qY code).bind λd=>(M.BK d).bind λc=>cond ([[D.sl true 1 c]].all bg) ((M.O8 b.2 a b.1 d c 0).bind λf=>pz f (λs=>k false) λn=>letE n λq=>(M.Iq b.2 a b.1 c 1).bind λj=>pz j (λt=>k false) λo=>letE o λp=>cond (decide (a<0)) ((M.jU (aG b.1) 80).bind λh=>cond (decide (h<0)) (k true) ((M.jU (aG b.1) 80).bind λm=>k (decide (m>b.2)))) ((M.jU (aG b.1) a).bind λe=>cond (decide (e>=0)) (cond (decide (e<=b.2)) (cond (a==0) (k true) ((M.jU (aG b.1) (i64.wrap (a - 1))).bind λg=>cond (decide (g>b.2)) (k true) ((M.jU (aG b.1) (i64.wrap (a - 1))).bind λl=>k (decide (l<0))))) (k false)) (k false))) none))
def M.J5 code:=M.Ul code some
def C.J5:=fTa S.J5 (λx=>M.Ul x.1.1) [fe C.VY,fe C.oK,fe C.xk,fe C.xq,fe C.qY,fe C.BK,fe C.jU] [F.O8,F.Iq]
end
end Go.Proofs.YtajjpadmdmehmaaGreatDoor
