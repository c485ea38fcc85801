import Derived.Test.YtcallmiaialhkaaGreatDoorPForms
set_option linter.defProp false
namespace Go.Proofs.YtcallmiaialhkaaGreatDoor
open Go Go.Vm
open Go.IntKind (i64)
set_option linter.unusedVariables false
set_option linter.unusedSimpArgs false
noncomputable section
variable {R:Type}
def M.jX(dR:zah)(s:zaq⊕zar)(kn:zaq⊕zar->Option R)(ke:zaq⊕zar->Option R):Option R:=match s with
 | .inl (v18,v19,v20,x',KG,MO,MP,OD)=>bif decide (v20<v19) then((idx v18 v20).bind λd=>jF 5 d λayD ayE ayF ayG ajM=>((dR ayD ayE ayF ayG ajM x').bind λa=>kn (.inr (v18,v19,i64.wrap (v20+1),a,KG,MO,MP,OD,[[D.int .i64 (i64.wrap ((↑a.length:Int) - 1))]])))) else(ke (.inl (v18,v19,v20,x',KG,MO,MP,OD)))
 | .inr (v18,v19,v20,x',KG,MO,MP,OD,x'5)=>bif decide (v20<v19) then((idx v18 v20).bind λc=>jF 5 c λayH ayI ayJ ayK ajN=>((dR ayH ayI ayJ ayK ajN x').bind λb=>uM x'5 [[D.int .i64 (i64.wrap ((↑b.length:Int) - 1))]] 8 λe=>kn (.inr (v18,v19,i64.wrap (v20+1),b,KG,MO,MP,OD,e)))) else ke (.inr (v18,v19,v20,x',KG,MO,MP,OD,x'5))
def M.lW dR s:=M.jX dR s (λs=>some (Sum.inl s)) λt=>some (Sum.inr t)
def M.zq dR s:=fG (M.lW dR) s
def F.zq{dR:zah}(FY:S.jy.ok X0 λx=>wF dR x.1.1 x.1.2.1):LE X0 69:=le 3 (pOr (Ia zaJ [dZ 300000 zaD,dZ 300001 (cB 56 [pI,pI,pS,pS,af5 1])]) (Ia zaJ zaL)) (σ:=zaq⊕zar) (λx=>(match x with| .inl x=> .inl ((x.1.2.2.1,x.1.va.1,x.1.va.2.1,x.2.1,x.2.2.1.1,x.2.2.1.2.1,x.2.2.1.2.2.1,x.2.2.1.va.1))| .inr x=> .inr ((x.1.2.2.1,x.1.va.1,x.1.va.2.1,x.2.1,x.2.2.1.1,x.2.2.1.2.1,x.2.2.1.2.2.1,x.2.2.1.va.1,x.va.1)))) (λx s=>(match s with| .inl s=> .inl ((((),(),s.1,s.2.1,s.2.2.1,()),(s.va.1,(s.va.2.1,s.va.2.2.1,s.va.va.1,s.va.va.2,(),()),())))| .inr s=> .inr ((((),(),s.1,s.2.1,s.2.2.1,()),(s.va.1,(s.va.2.1,s.va.2.2.1,s.va.va.1,s.va.va.2.1,(),()),s.wa,()))))) (λx=> .sum (.leaf zaq (λt=>(Ex.exit 0,⟨[(1,V.own 300000 0),(5,V.ptr 300001 0),(18,Gl 5 t.1),(19,kY t.2.1),(20,kY t.2.2.1),(21,DN false)],[(300000,Cell.arr false false 0 5 t.va.1),(300001,Cell.box 56 [kY t.va.2.1,kY t.va.2.2.1,Jz t.va.va.1,Jz t.va.va.2,V.nil 1])]⟩))) (.leaf zar (λt=>(Ex.exit 0,⟨[(1,V.own 300000 0),(5,V.ptr 300001 0),(18,Gl 5 t.1),(19,kY t.2.1),(20,kY t.2.2.1),(21,DN false)],[(300000,Cell.arr false false 0 5 t.va.1),(300001,Cell.box 56 [kY t.va.2.1,kY t.va.2.2.1,Jz t.va.va.1,Jz t.va.va.2.1,V.own 300002 0]),(300002,Cell.arr false true 0 1 t.wa)]⟩)))) (λx=>M.jX dR) [fe FY] [] (by rintro _ _ (⟨_,_,_,_,_,_,_,_⟩|⟨_,_,_,_,_,_,_,_,_⟩) _ _<;>simp only[uM,jF,M.jX,nb]<;>rfl) (hE:=by intro _ _ s _;rcases s with s|s<;>kernel_rfl)
def M.wL(dR:zah)(t' rY:Int)(D7 Ib:aT)(DI l:ay)(k:ay->Option R):=(M.zq dR (.inl (DI,(↑DI.length:Int),0,l,t',rY,D7,Ib))).bind λc=>qy c (λb=>uM b.2.2.2.1 [[D.int .i64 b.2.2.2.2.1,D.int .i64 b.2.2.2.2.2.1,D.str b.2.2.2.2.2.2.1,D.str b.2.2.2.2.2.2.2,D.sl true 1 []]] 72 λza=>k za) λd=>letE d λa=>cond (jO a.2.2.2.2.2.2.2.2) (uM a.2.2.2.1 [[D.int .i64 a.2.2.2.2.1,D.int .i64 a.2.2.2.2.2.1,D.str a.2.2.2.2.2.2.1,D.str a.2.2.2.2.2.2.2.1,D.sl true 1 a.2.2.2.2.2.2.2.2]] 72 λza=>k za) none
def M.gV:Nat->Int->Int->aT->aT->ay->ay->Option (ay)
 |0=>λ_ _ _ _ _ _=>none
 |n+1=>λt' rY D7 Ib DI l=>M.wL (M.gV n) t' rY D7 Ib DI l some
def M.jy t' rY D7 Ib DI l:=lim λn=>M.gV n t' rY D7 Ib DI l
def C.QI{dR:zah}(FY:S.jy.ok X0 λx=>wF dR x.1.1 x.1.2.1):S.jy.ok X0 λx=>wF (M.wL dR) x.1.1 x.1.2.1 some:=fnS (λx=>M.wL dR x.1.1.1 x.1.1.2.1 x.1.1.2.2.1 x.1.1.va.1 x.1.1.va.2.1 x.1.2.1) [] [F.zq FY] (by intros;simp only[uM,M.wL,nb]<;>rfl)
def C.gV:∀n,S.jy.ok X0 λx=>M.gV n x.1.1.1 x.1.1.2.1 x.1.1.2.2.1 x.1.1.va.1 x.1.1.va.2.1 x.1.2.1
 |0=>fK.zero
 |n+1=>C.QI (C.gV n)
def C.jy:S.jy.ok X0 λx=>wF M.jy x.1.1 x.1.2.1:=fK.lim C.gV
def M.QJ{n:Nat}{t' rY:Int}{D7 Ib:aT}{DI l r:ay}(h:M.gV n t' rY D7 Ib DI l=some r):M.jy t' rY D7 Ib DI l=some r:=fK.yj C.gV (by intro a b h;simp[S.jy,rb,sg] at h;first|exact h|simp[Prod.ext_iff,h]) (x:=(((t',rY,D7,Ib,DI,()),l,()),())) h
abbrev M.zu(t' rY:Int)(D7 Ib:aT)(DI:ay)(k:ay->Option R):=(M.jy t' rY D7 Ib DI []).bind λa=>k a
def M.nG t' rY D7 Ib DI:=M.zu t' rY D7 Ib DI some
def C.nG:=fTa S.nG (λx=>M.zu x.1.1.1 x.1.1.2.1 x.1.1.2.2.1 x.1.1.va.1 x.1.1.va.2.1) [fe C.jy]
abbrev M.FC(l:ay)(i:Int)(c:aT)(c1:ay)(k:ay×Bool×aT×ay->Option R):=(M.nD l).bind λg=>cond (!g) ((M.iH l).bind λd=>k (d,false,c,aF c1)) ((M.aQ i 0 (i64.wrap ((↑l.length:Int) - 1))).bind λh=>cond (!h) ((M.iH l).bind λf=>k (f,false,c,aF c1)) ((M.lD l (i64.wrap ((↑l.length:Int) - 1)) c (aF c1)).bind λa=>cond ((↑(aF a.1).length:Int) !=1) ((M.iH l).bind λe=>k (e,false,a.2.1,aF a.2.2)) ((idx (aF a.1) 0).bind λm=>jF 5 m λayT ayU ayV ayW ajO=>((M.nG ayT ayU ayV ayW ajO).bind λb=>(M.nD (aF b)).bind λj=>cond (!j) ((M.iH l).bind λn=>k (n,false,a.2.1,aF a.2.2)) (k (b,true,a.2.1,aF a.2.2))))))
def M.Bl l i c c1:=M.FC l i c c1 some
def C.Bl:=fTa S.Bl (λx=>M.FC x.1.1 x.1.2.1 x.2.1.1 x.2.2.1.1) [fe C.nD,fe C.iH,fe C.aQ,fe C.lD,fe C.nG]
abbrev M.Gt(l:ay)(name:aT)(x':ay)(k:ay×Bool->Option R):=(M.oO x').bind λd=>cond (!d) ((M.iH l).bind λe=>k (e,false)) ((M.jm l name).bind λc=>cond c ((M.iH l).bind λb=>k (b,false)) ((M.Bl l 0 name x').bind λa=>k (a.1,a.2.1)))
def M.vN l name x':=M.Gt l name x' some
def C.vN:=fTa S.vN (λx=>M.Gt x.1.1 x.1.2.1 x.1.2.2.1) [fe C.oO,fe C.iH,fe C.jm,fe C.Bl]
abbrev M.qY(x' low high:Int)(k:Bool->Option R):=cond (decide (x'>=low)) (k (decide (x'<=high))) (k false)
def M.bK x' low high:=M.qY x' low high some
def C.bK:=fTa S.bK (λx=>M.qY x.1.1 x.1.2.1 x.1.2.2.1)
def M.pJ(l:ay)(i:Int)(x':ay)(s:Int×Int)(kn:Int×Int->Option R)(ke:(Unit)⊕(Int×Int)->Option R):Option R:=match s with
 |(at',k')=>bif decide (k'>=0) then((idx l i).bind λd=>(SE 1 d 4).bind λb=>(idx b k').bind λe=>(gW .i64 e 0).bind λa=>bif a !=i64.wrap (at' - 1) then(ke (.inl ())) else bif at'==0 then(ke (.inl ())) else (idx x' (i64.wrap (at' - 1))).bind λg=>(x'[(i64.wrap (at' - 1)).toNat]?).bind λc=>(gW .i64 c 0).bind λf=>kn (f,i64.wrap (k' - 1))) else ke (.inr (at',k'))
def M.vZ l i x' s:=M.pJ l i x' s (λs=>some (Sum.inl s)) λt=>some (Sum.inr t)
def M.lX l i x' s:=fG (M.vZ l i x') s
def F.lX:LE X0 52:=le 7 (Ia [dZ 0 (pL false 5),dZ 4 (pO 300000 0),dZ 5 pI,dZ 6 pI,dZ 7 pI] [dZ 300000 zaH]) (λx=>(x.1.va.1,x.1.va.2.1)) (λx s=>((x.1.1,(),x.1.2.2.1,s.1,s.2,()),(x.2.1,()))) (λx=> .sum (.leaf (Unit) (λt=>(Ex.ret,⟨[(2,V.own 300000 0),(3,DN false)],[(300000,Cell.arr false true 0 1 [])]⟩))) (.leaf (Int×Int) (λt=>(Ex.exit 2,⟨[(0,Gl 5 x.1.1),(4,V.own 300000 0),(5,kY x.1.2.2.1),(6,kY t.1),(7,kY t.2),(24,DN false)],[(300000,Cell.arr false true 0 1 x.2.1)]⟩)))) (λx=>M.pJ x.1.1 x.1.2.2.1 x.2.1) [] [] (by rintro _ _ ⟨_,_⟩ _ _<;>simp only[M.pJ,nb]<;>rfl)
def M.pR(l:ay)(s:Int×ay)(kn:Int×ay->Option R)(ke:(Unit)⊕(Int×ay)->Option R):Option R:=match s with
 |(i,x')=>bif decide (i<(↑l.length:Int)) then((idx l i).bind λa=>(SE 1 a 4).bind λd=>(M.lX l i x' (i,i64.wrap ((↑d.length:Int) - 1))).bind λc=>qy c (λg=>ke (.inl ())) λe=>letE e λb=>uM x' [[D.int .i64 b.1]] 8 λf=>kn (i64.wrap (i+1),f)) else ke (.inr (i,x'))
def M.wo l s:=M.pR l s (λs=>some (Sum.inl s)) λt=>some (Sum.inr t)
def M.lY l s:=fG (M.wo l) s
def F.lY:LE X0 52:=le 3 (Ia [dZ 0 (pL false 5),dZ 4 (pO 300000 0),dZ 5 pI] [dZ 300000 zaH]) (λx=>(x.1.2.2.1,x.2.1)) (λx s=>((x.1.1,(),s.1,()),(s.2,()))) (λx=> .sum (.leaf (Unit) (λt=>(Ex.ret,⟨[(2,V.own 300000 0),(3,DN false)],[(300000,Cell.arr false true 0 1 [])]⟩))) (.leaf (Int×ay) (λt=>(Ex.exit 0,⟨[(0,Gl 5 x.1.1),(4,V.own 300000 0),(5,kY t.1),(12,DN false)],[(300000,Cell.arr false true 0 1 t.2)]⟩)))) (λx=>M.pR x.1.1) [] [F.lX] (by rintro _ _ ⟨_,_⟩ _ _<;>simp only[uM,M.pR,nb]<;>rfl)
abbrev M.Ar(l:ay)(k:ay×Bool->Option R):=(M.lY l (0,[])).bind λc=>qy c (λd=>k ([],false)) λb=>letE b λa=>cond (jO a.2) (k (a.2,true)) none
def M.rU l:=M.Ar l some
def C.rU:=fTa S.rU (λx=>M.Ar x.1.1) [] [F.lY]
abbrev M.CS(l:ay)(k:Bool->Option R):=(M.bK ((↑l.length:Int)) 1 400).bind λc=>cond (!c) (k false) ((M.rU l).bind λa=>cond a.2 ((idx a.1 (i64.wrap ((↑l.length:Int) - 1))).bind λe=>(a.1[(i64.wrap ((↑l.length:Int) - 1)).toNat]?).bind λd=>(gW .i64 d 0).bind λb=>k (b==0)) (k false))
def M.mP l:=M.CS l some
def C.mP:=fTa S.mP (λx=>M.CS x.1.1) [fe C.bK,fe C.rU]
def M.qZ(l:ay)(i:Int)(x':ay)(s:Int×Int)(kn:Int×Int->Option R)(ke:Int×Int->Option R):Option R:=match s with
 |(n',k')=>(idx l i).bind λc=>(SE 1 c 4).bind λe=>bif decide (k'<(↑e.length:Int)) then((idx l i).bind λh=>(SE 1 h 4).bind λf=>(idx f k').bind λg=>(gW .i64 g 0).bind λb=>(idx x' b).bind λj=>x'[b.toNat]?.bind λd=>(gW .i64 d 0).bind λa=>kn (bif decide (n'<i64.wrap (1+a)) then i64.wrap (1+a) else n',i64.wrap (k'+1))) else ke (n',k')
def M.xK l i x' s:=M.qZ l i x' s (λs=>some (Sum.inl s)) λt=>some (Sum.inr t)
def M.wM l i x' s:=fG (M.xK l i x') s
def F.wM:LE X0 35:=le 9 (Ia [dZ 0 (pL false 5),dZ 3 (pO 300000 0),dZ 4 pI,dZ 5 pI,dZ 6 pI] [dZ 300000 zaH]) (λx=>(x.1.va.1,x.1.va.2.1)) (λx s=>((x.1.1,(),x.1.2.2.1,s.1,s.2,()),(x.2.1,()))) (λx=> .leaf (Int×Int) (λt=>(Ex.exit 2,⟨[(0,Gl 5 x.1.1),(3,V.own 300000 0),(4,kY x.1.2.2.1),(5,kY t.1),(6,kY t.2),(24,DN false)],[(300000,Cell.arr false true 0 1 x.2.1)]⟩))) (λx=>M.qZ x.1.1 x.1.2.2.1 x.2.1) [] [] (by rintro _ _ ⟨_,_⟩ _ _<;>simp only[M.qZ,nb]<;>rfl)
def M.ru(l:ay)(s:Int×ay)(kn:Int×ay->Option R)(ke:Int×ay->Option R):Option R:=match s with
 |(i,x')=>bif decide (i<(↑l.length:Int)) then((M.wM l i x' (1,0)).bind λa=>uM x' [[D.int .i64 a.1]] 8 λb=>kn (i64.wrap (i+1),b)) else ke (i,x')
def M.xM l s:=M.ru l s (λs=>some (Sum.inl s)) λt=>some (Sum.inr t)
def M.Au l s:=fG (M.xM l) s
def F.Au:LE X0 35:=le 5 (Ia [dZ 0 (pL false 5),dZ 3 (pO 300000 0),dZ 4 pI] [dZ 300000 zaH]) (λx=>(x.1.2.2.1,x.2.1)) (λx s=>((x.1.1,(),s.1,()),(s.2,()))) (λx=> .leaf (Int×ay) (λt=>(Ex.exit 0,⟨[(0,Gl 5 x.1.1),(3,V.own 300000 0),(4,kY t.1),(14,DN false)],[(300000,Cell.arr false true 0 1 t.2)]⟩))) (λx=>M.ru x.1.1) [] [F.wM] (by rintro _ _ ⟨_,_⟩ _ _<;>simp only[uM,M.ru,nb]<;>rfl)
abbrev M.CU(l:ay)(k:Int->Option R):=(M.mP l).bind λb=>cond (!b) (k 0) ((M.Au l (0,[])).bind λa=>(idx a.2 (i64.wrap ((↑l.length:Int) - 1))).bind λe=>(a.2[(i64.wrap ((↑l.length:Int) - 1)).toNat]?).bind λc=>(gW .i64 c 0).bind λd=>k d)
def M.qK l:=M.CU l some
def C.qK:=fTa S.qK (λx=>M.CU x.1.1) [fe C.mP] [F.Au]
abbrev M.bC(n' jq:Int)(kM nK:aT)(pG:ay)(k:Int×Int->Option R):=cond (n'==5) (k (1,6)) (cond (n'==13) (k (1,6)) (cond (n'==7) (k (0,6)) (cond (n'==8) (k (0,6)) (cond (n'==27) (k (0,6)) (cond (n'==6) (k (1,1)) (cond (n'==9) (k (1,1)) (cond (n'==10) (k (1,1)) (cond (n'==11) (k (1,1)) (cond (n'==20) (k (1,1)) (cond (n'==32) (k (1,1)) (cond (n'==40) (k (1,1)) (cond (n'==41) (k (1,1)) (cond (n'==12) (k (2,2)) (cond (n'==15) (k (2,2)) (cond (n'==29) (k (2,2)) (cond (n'==30) (k (2,2)) (cond (n'==14) (k (3,3)) (cond (n'==21) (cond (!nK==[]) (k (i64.wrap (jq+1),7)) (k (jq,6))) (cond (n'==23) (k (0,1)) (cond (n'==24) (k (0,1)) (cond (n'==28) (k (2,3)) (cond (n'==31) (k (4,4)) (cond (n'==33) (k (0,(↑pG.length:Int))) (cond (n'==45) (k (0,(↑pG.length:Int))) (cond (n'==42) (k (i64.wrap (1+i64.wrap (jq.tdiv 3)),i64.wrap (1+i64.wrap (jq.tdiv 3)))) (cond (n'==43) (k (i64.wrap (2+i64.wrap (jq.tdiv 3)),i64.wrap (2+i64.wrap (jq.tdiv 3)))) (cond (n'==44) (k (1,7)) (k (0,0)))))))))))))))))))))))))))))
def M.bI n' jq kM nK pG:=M.bC n' jq kM nK pG some
def C.bI:=fTa S.bI (λx=>M.bC x.1.1.1 x.1.1.2.1 x.1.1.2.2.1 x.1.1.va.1 x.1.1.va.2.1)
abbrev M.CV(op':Int)(k:Bool->Option R):=cond (op'==60) (k true) (cond (op'==57) (k true) (cond (op'==58) (k true) (cond (op'==59) (k true) (cond (op'==55) (k true) (cond (op'==56) (k true) (cond (op'==99) (k true) (cond (op'==63) (k true) (cond (op'==48) (k true) (cond (op'==47) (k true) (cond (op'==50) (k true) (cond (op'==62) (k true) (cond (op'==49) (k true) (cond (op'==67) (k true) (cond (op'==46) (k true) (cond (op'==45) (k true) (cond (op'==44) (k true) (k false)))))))))))))))))
def M.qL op':=M.CV op' some
def C.qL:=fTa S.qL (λx=>M.CV x.1.1)
abbrev M.xO(op':Int)(k:Bool->Option R):=cond (op'==54) (k true) ((M.bK op' 38 43).bind λa=>k a)
def M.lF op':=M.xO op' some
def C.lF:=fTa S.lF (λx=>M.xO x.1.1) [fe C.bK]
abbrev M.bQ(n' jq:Int)(kM nK:aT)(pG:ay)(k:Bool->Option R):=cond (n'==9) (cond (jq==51) (k true) (k (jq==52))) (cond (n'==10) (cond (jq==51) (k true) (k (jq==52))) (cond (n'==11) (cond (jq==55) (k true) (cond (jq==56) (k true) (k (jq==61)))) (cond (n'==12) ((M.qL jq).bind λc=>k c) (cond (n'==15) ((M.lF jq).bind λa=>k a) (cond (n'==21) ((M.bK jq 0 1).bind λb=>k b) (cond (n'==42) ((M.bK jq 1 3).bind λd=>k d) (cond (n'==43) (cond (jq==1) (k true) (k (jq==3))) (k (jq==0)))))))))
def M.cu n' jq kM nK pG:=M.bQ n' jq kM nK pG some
def C.cu:=fTa S.cu (λx=>M.bQ x.1.1.1 x.1.1.2.1 x.1.1.2.2.1 x.1.1.va.1 x.1.1.va.2.1) [fe C.qL,fe C.lF,fe C.bK]
abbrev M.Aw(b:Int)(k:Bool->Option R):=(M.bK b 97 122).bind λc=>cond c (k true) ((M.bK b 65 90).bind λa=>cond a (k true) (k (b==95)))
def M.kJ b:=M.Aw b some
def C.kJ:=fTa S.kJ (λx=>M.Aw x.1.1) [fe C.bK]
abbrev M.CW(b:Int)(k:Bool->Option R):=(M.bK b 48 57).bind λa=>k a
def M.mQ b:=M.CW b some
def C.mQ:=fTa S.mQ (λx=>M.CW x.1.1) [fe C.bK]
abbrev M.xP(b:Int)(k:Bool->Option R):=(M.kJ b).bind λa=>cond a (k true) ((M.mQ b).bind λc=>k c)
def M.lG b:=M.xP b some
def C.lG:=fTa S.lG (λx=>M.xP x.1.1) [fe C.kJ,fe C.mQ]
def M.oC(s':aT)(s:Int)(kn:Int->Option R)(ke:(Unit)⊕(Int)->Option R):Option R:=match s with
 |i=>bif decide (i<(↑s'.length:Int)) then((idx s' i).bind λa=>(M.lG (i64.wrap (↑a.toNat:Int))).bind λb=>bif !b then(ke (.inl ())) else kn (i64.wrap (i+1))) else ke (.inr i)
def M.sO s' s:=M.oC s' s (λs=>some (Sum.inl s)) λt=>some (Sum.inr t)
def M.xQ s' s:=fG (M.sO s') s
def F.xQ:LE X0 96:=le 2 (Ia [dZ 0 pS,dZ 3 pI] []) (λx=>x.1.2.1) (λx s=>((x.1.1,s,()),())) (λx=> .sum (.leaf (Unit) (λt=>(Ex.ret,⟨[(2,DN false)],[]⟩))) (.leaf (Int) (λt=>(Ex.exit 0,⟨[(0,Jz x.1.1),(3,kY t),(7,DN false)],[]⟩)))) (λx=>M.oC x.1.1) [fe C.lG] [] (by rintro _ _ _ _ _<;>simp only[M.oC,nb]<;>rfl)
abbrev M.zx(s':aT)(k:Bool->Option R):=(M.xQ s' 0).bind λb=>qy b (λg=>k false) λa=>letE a λf=>(M.bK ((↑s'.length:Int)) 1 12).bind λd=>cond d ((idx s' 0).bind λc=>(M.kJ (i64.wrap (↑c.toNat:Int))).bind λe=>k e) (k false)
def M.nH s':=M.zx s' some
def C.nH:=fTa S.nH (λx=>M.zx x.1.1) [fe C.bK,fe C.kJ] [F.xQ]
abbrev M.Hq(k:ay->Option R):=k ([[D.str [66,69,71,73,78]],[D.str [69,78,68]],[D.str [102,117,110,99,116,105,111,110]],[D.str [105,102]],[D.str [101,108,115,101]],[D.str [119,104,105,108,101]],[D.str [102,111,114]],[D.str [100,111]],[D.str [98,114,101,97,107]],[D.str [99,111,110,116,105,110,117,101]],[D.str [110,101,120,116]],[D.str [101,120,105,116]],[D.str [114,101,116,117,114,110]],[D.str [100,101,108,101,116,101]],[D.str [105,110]],[D.str [112,114,105,110,116]],[D.str [112,114,105,110,116,102]]])
def M.oI:Option (ay):=M.Hq some
def C.oI:=fTa S.oI (λx=>M.Hq)
def M.uf(l:ay)(s':aT)(s:Int)(kn:Int->Option R)(ke:(Int)⊕(Int)->Option R):Option R:=match s with
 |i=>bif decide (i<(↑l.length:Int)) then((idx l i).bind λb=>(cStr b 0).bind λa=>bif a==s' then(ke (.inl i)) else kn (i64.wrap (i+1))) else ke (.inr i)
def M.zy l s' s:=M.uf l s' s (λs=>some (Sum.inl s)) λt=>some (Sum.inr t)
def M.CX l s' s:=fG (M.zy l s') s
def F.CX:LE X0 103:=le 2 (Ia [dZ 0 (pL false 1),dZ 1 pS,dZ 5 pI] []) (λx=>x.1.2.2.1) (λx s=>((x.1.1,x.1.2.1,s,()),())) (λx=> .sum (.leaf (Int) (λt=>(Ex.ret,⟨[(4,kY t)],[]⟩))) (.leaf (Int) (λt=>(Ex.exit 0,⟨[(0,Gl 1 x.1.1),(1,Jz x.1.2.1),(5,kY t),(9,DN false)],[]⟩)))) (λx=>M.uf x.1.1 x.1.2.1) [] [] (by rintro _ _ _ _ _<;>simp only[M.uf,nb]<;>rfl)
abbrev M.EO(l:ay)(s':aT)(k:Int->Option R):=(M.CX l s' 0).bind λa=>qy a (λb=>k b) λc=>letE c λd=>k (-1)
def M.oP l s':=M.EO l s' some
def C.oP:=fTa S.oP (λx=>M.EO x.1.1 x.1.2.1) [] [F.CX]
abbrev M.zA(s':aT)(k:Int->Option R):=M.oI.bind λb=>(M.oP b s').bind λa=>cond (decide (a<0)) (k 0) (k (i64.wrap (10+a)))
def M.nI s':=M.zA s' some
def C.nI:=fTa S.nI (λx=>M.zA x.1.1) [fe C.oI,fe C.oP]
abbrev M.CY(k:ay->Option R):=k ([[D.str [97,116,97,110,50]],[D.str [99,108,111,115,101]],[D.str [99,111,115]],[D.str [101,120,112]],[D.str [103,115,117,98]],[D.str [105,110,100,101,120]],[D.str [105,110,116]],[D.str [108,101,110,103,116,104]],[D.str [108,111,103]],[D.str [109,97,116,99,104]],[D.str [114,97,110,100]],[D.str [115,105,110]],[D.str [115,112,108,105,116]],[D.str [115,112,114,105,110,116,102]],[D.str [115,113,114,116]],[D.str [115,114,97,110,100]],[D.str [115,117,98]],[D.str [115,117,98,115,116,114]],[D.str [115,121,115,116,101,109]],[D.str [116,111,108,111,119,101,114]],[D.str [116,111,117,112,112,101,114]]])
def M.nU:Option (ay):=M.CY some
def C.nU:=fTa S.nU (λx=>M.CY)
abbrev M.zB(s':aT)(k:Bool->Option R):=M.nU.bind λb=>(M.oP b s').bind λa=>k (decide (a>=0))
def M.iP s':=M.zB s' some
def C.iP:=fTa S.iP (λx=>M.zB x.1.1) [fe C.nU,fe C.oP]
abbrev M.EP(s':aT)(k:Bool->Option R):=(M.nH s').bind λa=>cond a ((M.nI s').bind λb=>cond (b==0) ((M.iP s').bind λc=>k !c) (k false)) (k false)
def M.fU s':=M.EP s' some
def C.fU:=fTa S.fU (λx=>M.EP x.1.1) [fe C.nH,fe C.nI,fe C.iP]
def M.rC(s':aT)(s:Int)(kn:Int->Option R)(ke:(Unit)⊕(Int)->Option R):Option R:=match s with
 |i=>bif decide (i<(↑s'.length:Int)) then((idx s' i).bind λa=>bif(↑a.toNat:Int)==10 then(ke (.inl ())) else kn (i64.wrap (i+1))) else ke (.inr i)
def M.rD s' s:=M.rC s' s (λs=>some (Sum.inl s)) λt=>some (Sum.inr t)
def M.Az s' s:=fG (M.rD s') s
def F.Az:LE X0 98:=le 2 (Ia [dZ 0 pS,dZ 3 pI] []) (λx=>x.1.2.1) (λx s=>((x.1.1,s,()),())) (λx=> .sum (.leaf (Unit) (λt=>(Ex.ret,⟨[(2,DN false)],[]⟩))) (.leaf (Int) (λt=>(Ex.exit 0,⟨[(0,Jz x.1.1),(3,kY t),(7,DN false)],[]⟩)))) (λx=>M.rC x.1.1) [] [] (by rintro _ _ _ _ _<;>simp only[M.rC,nb]<;>rfl)
abbrev M.CZ(s':aT)(k:Bool->Option R):=(M.Az s' 0).bind λb=>qy b (λd=>k false) λa=>letE a λc=>k true
def M.qM s':=M.CZ s' some
def C.qM:=fTa S.qM (λx=>M.CZ x.1.1) [] [F.Az]
abbrev M.ER(s':aT)(at':Int)(k:Int->Option R):=cond (decide (at'<0)) (k (-1)) (cond (decide (at'>=(↑s'.length:Int))) (k (-1)) ((idx s' at').bind λa=>k (i64.wrap (↑a.toNat:Int))))
def M.dh s' at':=M.ER s' at' some
def C.dh:=fTa S.dh (λx=>M.ER x.1.1 x.1.2.1)
def M.wu(s':aT)(s:Int)(kn:Int->Option R)(ke:Int->Option R):Option R:=match s with
 |at'=>(M.dh s' at').bind λb=>(M.mQ b).bind λa=>bif a then(kn (i64.wrap (at'+1))) else ke at'
def M.Hr s' s:=M.wu s' s (λs=>some (Sum.inl s)) λt=>some (Sum.inr t)
def M.zC s' s:=fG (M.Hr s') s
def F.zC:LE X0 124:=le 1 (Ia [dZ 0 pS,dZ 1 pI] []) (λx=>x.1.2.1) (λx s=>((x.1.1,s,()),())) (λx=> .leaf (Int) (λt=>(Ex.exit 0,⟨[(0,Jz x.1.1),(1,kY t),(8,DN false)],[]⟩))) (λx=>M.wu x.1.1) [fe C.dh,fe C.mQ] [] (by rintro _ _ _ _ _<;>simp only[M.wu,nb]<;>rfl)
abbrev M.AA(s':aT)(at':Int)(k:Int->Option R):=(M.zC s' at').bind λa=>k a
def M.aK s' at':=M.AA s' at' some
def C.aK:=fTa S.aK (λx=>M.AA x.1.1 x.1.2.1) [] [F.zC]
abbrev M.ES(s':aT)(at':Int)(k:Int->Option R):=cond (decide (at'<0)) (k (-1)) ((M.aK s' at').bind λb=>(M.dh s' b).bind λX=>cond (X==46) ((M.aK s' (i64.wrap (b+1))).bind λa=>cond (b==at') (cond (a==i64.wrap (b+1)) (k (-1)) (cond (a==at') (k (-1)) ((M.dh s' a).bind λK=>cond (K==101) ((M.dh s' (i64.wrap (a+1))).bind λazT=>cond (azT==43) ((M.aK s' (i64.wrap (i64.wrap (a+1)+1))).bind λm=>cond (decide (m>i64.wrap (i64.wrap (a+1)+1))) ((M.aK s' (i64.wrap (i64.wrap (a+1)+1))).bind λu=>k u) (k a)) ((M.dh s' (i64.wrap (a+1))).bind λp=>cond (p==45) ((M.aK s' (i64.wrap (i64.wrap (a+1)+1))).bind λQ=>cond (decide (Q>i64.wrap (i64.wrap (a+1)+1))) ((M.aK s' (i64.wrap (i64.wrap (a+1)+1))).bind λT=>k T) (k a)) ((M.aK s' (i64.wrap (a+1))).bind λr=>cond (decide (r>i64.wrap (a+1))) ((M.aK s' (i64.wrap (a+1))).bind λL=>k L) (k a)))) ((M.dh s' a).bind λU=>cond (U==69) ((M.dh s' (i64.wrap (a+1))).bind λaz2=>cond (az2==43) ((M.aK s' (i64.wrap (i64.wrap (a+1)+1))).bind λN=>cond (decide (N>i64.wrap (i64.wrap (a+1)+1))) ((M.aK s' (i64.wrap (i64.wrap (a+1)+1))).bind λaz4=>k az4) (k a)) ((M.dh s' (i64.wrap (a+1))).bind λJ=>cond (J==45) ((M.aK s' (i64.wrap (i64.wrap (a+1)+1))).bind λD=>cond (decide (D>i64.wrap (i64.wrap (a+1)+1))) ((M.aK s' (i64.wrap (i64.wrap (a+1)+1))).bind λc=>k c) (k a)) ((M.aK s' (i64.wrap (a+1))).bind λV=>cond (decide (V>i64.wrap (a+1))) ((M.aK s' (i64.wrap (a+1))).bind λH=>k H) (k a)))) (k a))))) (cond (a==at') (k (-1)) ((M.dh s' a).bind λe=>cond (e==101) ((M.dh s' (i64.wrap (a+1))).bind λW=>cond (W==43) ((M.aK s' (i64.wrap (i64.wrap (a+1)+1))).bind λx=>cond (decide (x>i64.wrap (i64.wrap (a+1)+1))) ((M.aK s' (i64.wrap (i64.wrap (a+1)+1))).bind λG=>k G) (k a)) ((M.dh s' (i64.wrap (a+1))).bind λB=>cond (B==45) ((M.aK s' (i64.wrap (i64.wrap (a+1)+1))).bind λY=>cond (decide (Y>i64.wrap (i64.wrap (a+1)+1))) ((M.aK s' (i64.wrap (i64.wrap (a+1)+1))).bind λh=>k h) (k a)) ((M.aK s' (i64.wrap (a+1))).bind λaAh=>cond (decide (aAh>i64.wrap (a+1))) ((M.aK s' (i64.wrap (a+1))).bind λZ=>k Z) (k a)))) ((M.dh s' a).bind λaAj=>cond (aAj==69) ((M.dh s' (i64.wrap (a+1))).bind λO=>cond (O==43) ((M.aK s' (i64.wrap (i64.wrap (a+1)+1))).bind λI=>cond (decide (I>i64.wrap (i64.wrap (a+1)+1))) ((M.aK s' (i64.wrap (i64.wrap (a+1)+1))).bind λy=>k y) (k a)) ((M.dh s' (i64.wrap (a+1))).bind λF=>cond (F==45) ((M.aK s' (i64.wrap (i64.wrap (a+1)+1))).bind λj=>cond (decide (j>i64.wrap (i64.wrap (a+1)+1))) ((M.aK s' (i64.wrap (i64.wrap (a+1)+1))).bind λv=>k v) (k a)) ((M.aK s' (i64.wrap (a+1))).bind λn=>cond (decide (n>i64.wrap (a+1))) ((M.aK s' (i64.wrap (a+1))).bind λE=>k E) (k a)))) (k a))))) (cond (b==at') (k (-1)) ((M.dh s' b).bind λq=>cond (q==101) ((M.dh s' (i64.wrap (b+1))).bind λC=>cond (C==43) ((M.aK s' (i64.wrap (i64.wrap (b+1)+1))).bind λt=>cond (decide (t>i64.wrap (i64.wrap (b+1)+1))) ((M.aK s' (i64.wrap (i64.wrap (b+1)+1))).bind λs=>k s) (k b)) ((M.dh s' (i64.wrap (b+1))).bind λl=>cond (l==45) ((M.aK s' (i64.wrap (i64.wrap (b+1)+1))).bind λo=>cond (decide (o>i64.wrap (i64.wrap (b+1)+1))) ((M.aK s' (i64.wrap (i64.wrap (b+1)+1))).bind λz=>k z) (k b)) ((M.aK s' (i64.wrap (b+1))).bind λP=>cond (decide (P>i64.wrap (b+1))) ((M.aK s' (i64.wrap (b+1))).bind λaAA=>k aAA) (k b)))) ((M.dh s' b).bind λA=>cond (A==69) ((M.dh s' (i64.wrap (b+1))).bind λaAC=>cond (aAC==43) ((M.aK s' (i64.wrap (i64.wrap (b+1)+1))).bind λaAD=>cond (decide (aAD>i64.wrap (i64.wrap (b+1)+1))) ((M.aK s' (i64.wrap (i64.wrap (b+1)+1))).bind λi=>k i) (k b)) ((M.dh s' (i64.wrap (b+1))).bind λg=>cond (g==45) ((M.aK s' (i64.wrap (i64.wrap (b+1)+1))).bind λaAG=>cond (decide (aAG>i64.wrap (i64.wrap (b+1)+1))) ((M.aK s' (i64.wrap (i64.wrap (b+1)+1))).bind λd=>k d) (k b)) ((M.aK s' (i64.wrap (b+1))).bind λf=>cond (decide (f>i64.wrap (b+1))) ((M.aK s' (i64.wrap (b+1))).bind λw=>k w) (k b)))) (k b)))))
def M.uZ s' at':=M.ES s' at' some
def C.uZ:=fTa S.uZ (λx=>M.ES x.1.1 x.1.2.1) [fe C.aK,fe C.dh]
def M.lZ(s':aT)(sign s:Int)(kn:Int->Option R)(ke:(Int)⊕(Int)->Option R):Option R:=match s with
 |i=>bif decide (i<(↑s'.length:Int)) then((idx s' i).bind λa=>bif i64.wrap (↑a.toNat:Int)==sign then(ke (.inl (i64.wrap (i+1)))) else bif i64.wrap (↑a.toNat:Int)==10 then(ke (.inl (-1))) else bif i64.wrap (↑a.toNat:Int)==92 then((M.dh s' (i64.wrap (i+1))).bind λb=>bif b==10 then(ke (.inl (-1))) else kn (i64.wrap (i64.wrap (i+1)+1))) else kn (i64.wrap (i+1))) else ke (.inr i)
def M.pU s' sign s:=M.lZ s' sign s (λs=>some (Sum.inl s)) λt=>some (Sum.inr t)
def M.l9 s' sign s:=fG (M.pU s' sign) s
def F.l9:LE X0 126:=le 4 (Ia [dZ 0 pS,dZ 2 pI,dZ 7 pI] []) (λx=>x.1.2.2.1) (λx s=>((x.1.1,x.1.2.1,s,()),())) (λx=> .sum (.leaf (Int) (λt=>(Ex.ret,⟨[(6,kY t)],[]⟩))) (.leaf (Int) (λt=>(Ex.exit 0,⟨[(0,Jz x.1.1),(2,kY x.1.2.1),(7,kY t),(18,DN false)],[]⟩)))) (λx=>M.lZ x.1.1 x.1.2.1) [fe C.dh] [] (by rintro _ _ _ _ _<;>simp only[M.lZ,nb]<;>rfl)
abbrev M.AB(s':aT)(at' sign:Int)(k:Int->Option R):=(M.dh s' at').bind λc=>cond (c !=sign) (k (-1)) ((M.l9 s' sign (i64.wrap (at'+1))).bind λa=>qy a (λd=>k d) λb=>letE b λe=>k (-1))
def M.kK s' at' sign:=M.AB s' at' sign some
def C.kK:=fTa S.kK (λx=>M.AB x.1.1 x.1.2.1 x.1.2.2.1) [fe C.dh] [F.l9]
abbrev M.ET(s':aT)(at':Int)(k:Int->Option R):=(M.kK s' at' 34).bind λa=>k a
def M.vg s' at':=M.ET s' at' some
def C.vg:=fTa S.vg (λx=>M.ET x.1.1 x.1.2.1) [fe C.kK]
abbrev M.EU(s':aT)(at':Int)(k:Int->Option R):=(M.kK s' at' 47).bind λa=>cond (a==i64.wrap (at'+2)) (k (-1)) (k a)
def M.vk s' at':=M.EU s' at' some
def C.vk:=fTa S.vk (λx=>M.EU x.1.1 x.1.2.1) [fe C.kK]
abbrev M.Ht(k:ay->Option R):=k ([[D.str [123]],[D.str [125]],[D.str [40]],[D.str [41]],[D.str [91]],[D.str [93]],[D.str [44]],[D.str [59]],[D.str [43,61]],[D.str [45,61]],[D.str [42,61]],[D.str [47,61]],[D.str [37,61]],[D.str [94,61]],[D.str [124,124]],[D.str [38,38]],[D.str [33,126]],[D.str [61,61]],[D.str [60,61]],[D.str [62,61]],[D.str [33,61]],[D.str [43,43]],[D.str [45,45]],[D.str [62,62]],[D.str [61]],[D.str [43]],[D.str [45]],[D.str [42]],[D.str [47]],[D.str [37]],[D.str [94]],[D.str [33]],[D.str [62]],[D.str [60]],[D.str [124]],[D.str [63]],[D.str [58]],[D.str [126]],[D.str [36]]])
def M.vO:Option (ay):=M.Ht some
def C.vO:=fTa S.vO (λx=>M.Ht)
abbrev M.C9(kind:Int)(k:aT->Option R):=cond (kind==1) (k [10]) ((M.bK kind 10 26).bind λe=>cond e (M.oI.bind λb=>(idx b (i64.wrap (kind - 10))).bind λi=>(b[(i64.wrap (kind - 10)).toNat]?).bind λh=>(cStr h 0).bind λf=>k f) ((M.bK kind 30 68).bind λd=>cond d (M.vO.bind λa=>(idx a (i64.wrap (kind - 30))).bind λj=>(a[(i64.wrap (kind - 30)).toNat]?).bind λc=>(cStr c 0).bind λg=>k g) (k [])))
def M.qN kind:=M.C9 kind some
def C.qN:=fTa S.qN (λx=>M.C9 x.1.1) [fe C.bK,fe C.oI,fe C.vO]
abbrev M.Dc(t':Int)(rY:aT)(D7:Int)(k:Bool->Option R):=cond (t'==2) (cond (decide ((↑rY.length:Int)>0)) ((idx rY 0).bind λa=>cond ((↑a.toNat:Int)==35) ((M.qM rY).bind λc=>k c) (k false)) (k false)) (cond (t'==3) (cond (decide ((↑rY.length:Int)>0)) ((M.uZ rY 0).bind λb=>k (b==(↑rY.length:Int))) (k false)) (cond (t'==4) ((M.vg rY 0).bind λd=>k (d==(↑rY.length:Int))) (cond (t'==5) ((M.vk rY 0).bind λh=>k (h==(↑rY.length:Int))) (cond (t'==6) ((M.fU rY).bind λe=>k e) (cond (t'==7) ((M.fU rY).bind λg=>k g) (cond (t'==8) ((M.iP rY).bind λi=>k i) (cond (!rY==[]) ((M.qN t').bind λf=>k (f==rY)) (k false))))))))
def M.iY t' rY D7:=M.Dc t' rY D7 some
def C.iY:=fTa S.iY (λx=>M.Dc x.1.1.1 x.1.1.2.1 x.1.1.2.2.1) [fe C.qM,fe C.uZ,fe C.vg,fe C.vk,fe C.fU,fe C.iP,fe C.qN]
abbrev M.bF(n' jq:Int)(kM nK:aT)(pG:ay)(k:Bool->Option R):=cond (n'==1) ((M.fU kM).bind λi=>cond i (k (nK==[])) (k false)) (cond (n'==5) ((M.fU kM).bind λf=>cond f (k (nK==[])) (k false)) (cond (n'==7) ((M.fU kM).bind λb=>cond b (k (nK==[])) (k false)) (cond (n'==13) ((M.fU kM).bind λd=>cond d (k (nK==[])) (k false)) (cond (n'==27) ((M.fU kM).bind λa=>cond a (k (nK==[])) (k false)) (cond (n'==44) ((M.fU kM).bind λe=>cond e (k (nK==[])) (k false)) (cond (n'==2) ((M.iY 3 kM 0).bind λh=>cond h (k (nK==[])) (k false)) (cond (n'==3) ((M.iY 4 kM 0).bind λg=>cond g (k (nK==[])) (k false)) (cond (n'==4) ((M.iY 5 kM 0).bind λc=>cond c (k (nK==[])) (k false)) (cond (n'==34) ((M.iY 2 kM 0).bind λm=>cond m (k (nK==[])) (k false)) (cond (n'==8) ((M.iP kM).bind λj=>cond j (k (nK==[])) (k false)) (cond (n'==32) ((M.fU kM).bind λl=>cond l ((M.fU nK).bind λn=>k n) (k false)) (cond (n'==21) (cond (kM==[]) (cond (nK==[]) (k true) (cond (nK==[62]) (k true) (cond (nK==[62,62]) (k true) (k (nK==[124]))))) (k false)) (cond (kM==[]) (k (nK==[])) (k false))))))))))))))
def M.bJ n' jq kM nK pG:=M.bF n' jq kM nK pG some
def C.bJ:=fTa S.bJ (λx=>M.bF x.1.1.1 x.1.1.2.1 x.1.1.2.2.1 x.1.1.va.1 x.1.1.va.2.1) [fe C.fU,fe C.iY,fe C.iP]
abbrev M.aS(n' jq:Int)(kM nK:aT)(pG:ay)(k:Bool->Option R):=(M.bI n' jq kM nK pG).bind λa=>(M.bK n' 1 16).bind λc=>cond c ((M.cu n' jq kM nK pG).bind λn=>cond n ((M.bJ n' jq kM nK pG).bind λd=>cond d ((M.bK ((↑pG.length:Int)) a.1 a.2).bind λl=>k l) (k false)) (k false)) ((M.bK n' 20 34).bind λb=>cond b ((M.cu n' jq kM nK pG).bind λi=>cond i ((M.bJ n' jq kM nK pG).bind λe=>cond e ((M.bK ((↑pG.length:Int)) a.1 a.2).bind λf=>k f) (k false)) (k false)) ((M.bK n' 40 45).bind λm=>cond m ((M.cu n' jq kM nK pG).bind λg=>cond g ((M.bJ n' jq kM nK pG).bind λh=>cond h ((M.bK ((↑pG.length:Int)) a.1 a.2).bind λj=>k j) (k false)) (k false)) (k false)))
def M.aA n' jq kM nK pG:=M.aS n' jq kM nK pG some
def C.aA:=fTa S.aA (λx=>M.aS x.1.1.1 x.1.1.2.1 x.1.1.2.2.1 x.1.1.va.1 x.1.1.va.2.1) [fe C.bI,fe C.bK,fe C.cu,fe C.bJ]
abbrev M.AL(kind:Int)(k:Bool->Option R):=cond (kind==1) (k true) (cond (kind==5) (k true) (k (kind==6)))
def M.kL kind:=M.AL kind some
def C.kL:=fTa S.kL (λx=>M.AL x.1.1)
abbrev M.zW(kind:Int)(k:Bool->Option R):=(M.bK kind 1 15).bind λa=>k a
def M.dO kind:=M.zW kind some
def C.dO:=fTa S.dO (λx=>M.zW x.1.1) [fe C.bK]
abbrev M.EW(kind:Int)(k:Bool->Option R):=(M.bK kind 20 34).bind λa=>k a
def M.vC kind:=M.EW kind some
def C.vC:=fTa S.vC (λx=>M.EW x.1.1) [fe C.bK]
abbrev M.aI(n' jq:Int)(kM nK:aT)(pG:ay)(k' kind:Int)(k:Bool->Option R):=cond (n'==9) ((M.kL kind).bind λs=>k s) (cond (n'==10) ((M.kL kind).bind λb=>k b) (cond (n'==15) ((M.dO kind).bind λp=>cond p (cond (decide (k'>0)) (k true) ((M.kL kind).bind λa=>k a)) (k false)) (cond (n'==28) (cond (k'==0) ((M.dO kind).bind λf=>cond f (k true) (cond (decide (k'>0)) (k (kind==33)) (k false))) (cond (decide (k'>0)) (k (kind==33)) (k false))) (cond (n'==29) (cond (k'==0) ((M.dO kind).bind λe=>cond e (k true) (cond (k'==1) (k (kind==33)) (k false))) (cond (k'==1) (k (kind==33)) (k false))) (cond (n'==30) (cond (k'==0) (cond (kind==33) (k true) (cond (k'==1) ((M.dO kind).bind λr=>k r) (k false))) (cond (k'==1) ((M.dO kind).bind λn=>k n) (k false))) (cond (n'==31) (cond (decide (k'<3)) ((M.dO kind).bind λm=>cond m (k true) (cond (kind==16) (k true) (cond (k'==3) (k (kind==33)) (k false)))) (cond (k'==3) (k (kind==33)) (k false))) (cond (n'==32) (k (kind==33)) (cond (n'==40) (k (kind==33)) (cond (n'==41) (k (kind==33)) (cond (n'==33) ((M.vC kind).bind λi=>k i) (cond (n'==42) (cond (jq==1) ((M.dO kind).bind λv=>cond v (k true) (cond (jq==2) (cond (kind==33) (k true) (cond (jq==3) (cond (k'==i64.wrap ((↑pG.length:Int) - 1)) (cond (kind==33) (k true) (cond (!k'==i64.wrap ((↑pG.length:Int) - 1)) ((M.dO kind).bind λc=>k c) (k false))) (cond (!k'==i64.wrap ((↑pG.length:Int) - 1)) ((M.dO kind).bind λd=>k d) (k false))) (k false))) (cond (jq==3) (cond (k'==i64.wrap ((↑pG.length:Int) - 1)) (cond (kind==33) (k true) (cond (!k'==i64.wrap ((↑pG.length:Int) - 1)) ((M.dO kind).bind λu=>k u) (k false))) (cond (!k'==i64.wrap ((↑pG.length:Int) - 1)) ((M.dO kind).bind λh=>k h) (k false))) (k false)))) (cond (jq==2) (cond (kind==33) (k true) (cond (jq==3) (cond (k'==i64.wrap ((↑pG.length:Int) - 1)) (cond (kind==33) (k true) (cond (!k'==i64.wrap ((↑pG.length:Int) - 1)) ((M.dO kind).bind λo=>k o) (k false))) (cond (!k'==i64.wrap ((↑pG.length:Int) - 1)) ((M.dO kind).bind λg=>k g) (k false))) (k false))) (cond (jq==3) (cond (k'==i64.wrap ((↑pG.length:Int) - 1)) (cond (kind==33) (k true) (cond (!k'==i64.wrap ((↑pG.length:Int) - 1)) ((M.dO kind).bind λl=>k l) (k false))) (cond (!k'==i64.wrap ((↑pG.length:Int) - 1)) ((M.dO kind).bind λj=>k j) (k false))) (k false)))) (cond (n'==43) (cond (decide (k'<2)) ((M.dO kind).bind λw=>cond w (k true) (cond (k'==2) (k (kind==33)) (k false))) (cond (k'==2) (k (kind==33)) (k false))) (cond (n'==44) (cond (k'==i64.wrap ((↑pG.length:Int) - 1)) (cond (kind==33) (k true) (cond (!k'==i64.wrap ((↑pG.length:Int) - 1)) (k (kind==1)) (k false))) (cond (!k'==i64.wrap ((↑pG.length:Int) - 1)) (k (kind==1)) (k false))) (cond (n'==45) ((M.bK kind 40 44).bind λt=>cond t (k true) (k (kind==34))) ((M.dO kind).bind λq=>k q)))))))))))))))
def M.aJ n' jq kM nK pG k' kind:=M.aI n' jq kM nK pG k' kind some
def C.aJ:=fTa S.aJ (λx=>M.aI x.1.1.1 x.1.1.2.1 x.1.1.2.2.1 x.1.1.va.1 x.1.1.va.2.1 x.1.2.1 x.1.2.2.1) [fe C.kL,fe C.dO,fe C.vC,fe C.bK]
def M.ug(l:ay)(i s:Int)(kn:Int->Option R)(ke:(Unit)⊕(Int)->Option R):Option R:=match s with
 |k'=>(idx l i).bind λj=>(SE 1 j 4).bind λe=>bif decide (k'<(↑e.length:Int)) then((idx l i).bind λk=>jF 1 k λaBT aBU aBV aBW ajU=>((idx l i).bind λg=>(SE 1 g 4).bind λb=>(idx b k').bind λf=>(gW .i64 f 0).bind λa=>(idx l a).bind λd=>(gW .i64 d 0).bind λc=>(M.aJ aBT aBU aBV aBW ajU k' c).bind λh=>bif !h then(ke (.inl ())) else kn (i64.wrap (k'+1)))) else ke (.inr k')
def M.Ea l i s:=M.ug l i s (λs=>some (Sum.inl s)) λt=>some (Sum.inr t)
def M.yJ l i s:=fG (M.Ea l i) s
def F.yJ:LE X0 14:=le 9 (Ia [dZ 0 (pL false 5),dZ 3 pI,dZ 4 pI] []) (λx=>x.1.2.2.1) (λx s=>((x.1.1,x.1.2.1,s,()),())) (λx=> .sum (.leaf (Unit) (λt=>(Ex.ret,⟨[(2,DN false)],[]⟩))) (.leaf (Int) (λt=>(Ex.exit 2,⟨[(0,Gl 5 x.1.1),(3,kY x.1.2.1),(4,kY t),(32,DN false)],[]⟩)))) (λx=>M.ug x.1.1 x.1.2.1) [fe C.aJ] [] (by rintro _ _ _ _ _<;>simp only[jF,M.ug,nb]<;>rfl)
def M.uh(l:ay)(s:Int)(kn:Int->Option R)(ke:(Unit)⊕(Int)->Option R):Option R:=match s with
 |i=>bif decide (i<(↑l.length:Int)) then((idx l i).bind λa=>jF 1 a λaB0 aB1 aB2 aB3 ajW=>((M.aA aB0 aB1 aB2 aB3 ajW).bind λc=>bif !c then(ke (.inl ())) else (M.yJ l i 0).bind λb=>qy b (λf=>ke (.inl ())) λd=>letE d λe=>kn (i64.wrap (i+1)))) else ke (.inr i)
def M.Eb l s:=M.uh l s (λs=>some (Sum.inl s)) λt=>some (Sum.inr t)
def M.yK l s:=fG (M.Eb l) s
def F.yK:LE X0 14:=le 4 (Ia [dZ 0 (pL false 5),dZ 3 pI] []) (λx=>x.1.2.1) (λx s=>((x.1.1,s,()),())) (λx=> .sum (.leaf (Unit) (λt=>(Ex.ret,⟨[(2,DN false)],[]⟩))) (.leaf (Int) (λt=>(Ex.exit 0,⟨[(0,Gl 5 x.1.1),(3,kY t),(16,DN false)],[]⟩)))) (λx=>M.uh x.1.1) [fe C.aA] [F.yJ] (by rintro _ _ _ _ _<;>simp only[jF,M.uh,nb]<;>rfl)
abbrev M.EY(l:ay)(k:Bool->Option R):=(M.mP l).bind λb=>cond (!b) (k false) ((M.qK l).bind λc=>cond (decide (c>40)) (k false) ((M.yK l 0).bind λd=>qy d (λe=>k false) λa=>letE a λf=>k true))
def M.ji l:=M.EY l some
def C.ji:=fTa S.ji (λx=>M.EY x.1.1) [fe C.mP,fe C.qK] [F.yK]
abbrev M.EZ(l:ay)(k:ay->Option R):=(M.jD l 0).bind λa=>k a
def M.jJ l:=M.EZ l some
def C.jJ:=fTa S.jJ (λx=>M.EZ x.1.1) [fe C.jD]
abbrev M.E5(l:ay)(k:Bool->Option R):=(M.ji l).bind λb=>cond b ((idx l (i64.wrap ((↑l.length:Int) - 1))).bind λa=>(gW .i64 a 0).bind λc=>(M.dO c).bind λd=>k d) (k false)
def M.kE l:=M.E5 l some
def C.kE:=fTa S.kE (λx=>M.E5 x.1.1) [fe C.ji,fe C.dO]
def M.oD(l:ay)(name:aT)(s:Int)(kn:Int->Option R)(ke:(Unit)⊕(Int)->Option R):Option R:=match s with
 |i=>bif decide (i<(↑l.length:Int)) then((idx l i).bind λy=>jF 1 y λacC _ aCf _ pW=>(bif acC==32 then(bif aCf==name then(ke (.inl ())) else bif acC==15 then(bif decide ((↑pW.length:Int)>0) then((idx pW 0).bind λF=>(gW .i64 F 0).bind λG=>(M.bK G 0 (i64.wrap ((↑l.length:Int) - 1))).bind λL=>bif L then((idx pW 0).bind λB=>(gW .i64 B 0).bind λO=>(idx l O).bind λC=>jF 1 C λaCj _ aCk _ _=>(bif aCj==1 then(bif aCk==name then(ke (.inl ())) else kn (i64.wrap (i+1))) else kn (i64.wrap (i+1)))) else kn (i64.wrap (i+1))) else kn (i64.wrap (i+1))) else bif acC==9 then(bif decide ((↑pW.length:Int)>0) then((idx pW 0).bind λa=>(gW .i64 a 0).bind λo=>(M.bK o 0 (i64.wrap ((↑l.length:Int) - 1))).bind λK=>bif K then((idx pW 0).bind λE=>(gW .i64 E 0).bind λm=>(idx l m).bind λh=>jF 1 h λaCo _ aCp _ _=>(bif aCo==1 then(bif aCp==name then(ke (.inl ())) else kn (i64.wrap (i+1))) else kn (i64.wrap (i+1)))) else kn (i64.wrap (i+1))) else kn (i64.wrap (i+1))) else bif acC==10 then(bif decide ((↑pW.length:Int)>0) then((idx pW 0).bind λg=>(gW .i64 g 0).bind λc=>(M.bK c 0 (i64.wrap ((↑l.length:Int) - 1))).bind λd=>bif d then((idx pW 0).bind λk=>(gW .i64 k 0).bind λj=>(idx l j).bind λf=>jF 1 f λaCt _ aCu _ _=>(bif aCt==1 then(bif aCu==name then(ke (.inl ())) else kn (i64.wrap (i+1))) else kn (i64.wrap (i+1)))) else kn (i64.wrap (i+1))) else kn (i64.wrap (i+1))) else kn (i64.wrap (i+1))) else bif acC==15 then(bif decide ((↑pW.length:Int)>0) then((idx pW 0).bind λD=>(gW .i64 D 0).bind λJ=>(M.bK J 0 (i64.wrap ((↑l.length:Int) - 1))).bind λz=>bif z then((idx pW 0).bind λe=>(gW .i64 e 0).bind λA=>(idx l A).bind λr=>jF 1 r λaCy _ aCz _ _=>(bif aCy==1 then(bif aCz==name then(ke (.inl ())) else kn (i64.wrap (i+1))) else kn (i64.wrap (i+1)))) else kn (i64.wrap (i+1))) else kn (i64.wrap (i+1))) else bif acC==9 then(bif decide ((↑pW.length:Int)>0) then((idx pW 0).bind λI=>(gW .i64 I 0).bind λw=>(M.bK w 0 (i64.wrap ((↑l.length:Int) - 1))).bind λt=>bif t then((idx pW 0).bind λu=>(gW .i64 u 0).bind λb=>(idx l b).bind λN=>jF 1 N λaCD _ aCE _ _=>(bif aCD==1 then(bif aCE==name then(ke (.inl ())) else kn (i64.wrap (i+1))) else kn (i64.wrap (i+1)))) else kn (i64.wrap (i+1))) else kn (i64.wrap (i+1))) else bif acC==10 then(bif decide ((↑pW.length:Int)>0) then((idx pW 0).bind λn=>(gW .i64 n 0).bind λH=>(M.bK H 0 (i64.wrap ((↑l.length:Int) - 1))).bind λq=>bif q then((idx pW 0).bind λx=>(gW .i64 x 0).bind λp=>(idx l p).bind λv=>jF 1 v λaCI _ aCJ _ _=>(bif aCI==1 then(bif aCJ==name then(ke (.inl ())) else kn (i64.wrap (i+1))) else kn (i64.wrap (i+1)))) else kn (i64.wrap (i+1))) else kn (i64.wrap (i+1))) else kn (i64.wrap (i+1)))) else ke (.inr i)
def M.oG l name s:=M.oD l name s (λs=>some (Sum.inl s)) λt=>some (Sum.inr t)
def M.xR l name s:=fG (M.oG l name) s
def F.xR:LE X0 10:=le 2 (Ia [dZ 0 (pL false 5),dZ 1 pS,dZ 5 pI] []) (λx=>x.1.2.2.1) (λx s=>((x.1.1,x.1.2.1,s,()),())) (λx=> .sum (.leaf (Unit) (λt=>(Ex.ret,⟨[(4,DN true)],[]⟩))) (.leaf (Int) (λt=>(Ex.exit 0,⟨[(0,Gl 5 x.1.1),(1,Jz x.1.2.1),(5,kY t),(11,DN false)],[]⟩)))) (λx=>M.oD x.1.1 x.1.2.1) [fe C.bK] [] (by rintro _ _ _ _ _<;>unfold M.oD<;>exact zaO)
abbrev M.zD(l:ay)(name:aT)(k:Bool->Option R):=(M.xR l name 0).bind λa=>qy a (λd=>k true) λb=>letE b λc=>k false
def M.jo l name:=M.zD l name some
def C.jo:=fTa S.jo (λx=>M.zD x.1.1 x.1.2.1) [] [F.xR]
def M.uj(fF:zai)(l:ay)(i:Int)(name:aT)(x':ay)(s:Int×ay)(kn:Int×ay->Option R)(ke:Int×ay->Option R):Option R:=match s with
 |(k',KG)=>(idx l i).bind λa=>(SE 1 a 4).bind λg=>bif decide (k'<(↑g.length:Int)) then((idx l i).bind λf=>(SE 1 f 4).bind λd=>(idx d k').bind λc=>(gW .i64 c 0).bind λb=>(fF l b name x').bind λe=>uM KG [[D.sl true 5 e]] 24 λh=>kn (i64.wrap (k'+1),h)) else ke (k',KG)
def M.zF fF l i name x' s:=M.uj fF l i name x' s (λs=>some (Sum.inl s)) λt=>some (Sum.inr t)
def M.yL fF l i name x' s:=fG (M.zF fF l i name x') s
def F.yL{fF:zai}(IU:S.lH.ok X0 λx=>fF x.1.1 x.1.2.1 x.1.2.2.1 x.1.va.1):LE X0 28:=le 5 (Ia [dZ 0 (pL false 5),dZ 1 pI,dZ 2 pS,dZ 3 (pL false 5),dZ 9 (pO 300000 0),dZ 10 pI] [dZ 300000 (cA false false 0 1)]) (λx=>(x.1.va.2.2.1,x.2.1)) (λx s=>((x.1.1,x.1.2.1,x.1.2.2.1,x.1.va.1,(),s.1,()),(s.2,()))) (λx=> .leaf (Int×ay) (λt=>(Ex.exit 0,⟨[(0,Gl 5 x.1.1),(1,kY x.1.2.1),(2,Jz x.1.2.2.1),(3,Gl 5 x.1.va.1),(9,V.own 300000 0),(10,kY t.1),(36,DN false)],[(300000,Cell.arr false false 0 1 t.2)]⟩))) (λx=>zaN (M.uj fF) x.1) [fe IU] [] (by rintro _ _ ⟨_,_⟩ _ _<;>simp only[zaN,uM,M.uj,nb]<;>rfl)
def M.zX(fF:zai)(l:ay)(i:Int)(name:aT)(x':ay)(k:ay->Option R):=(idx l i).bind λj=>(gW .i64 j 0).bind λe=>cond (e==1) ((idx l i).bind λg=>(cStr g 2).bind λh=>cond (h==name) ((M.jJ x').bind λc=>k c) ((M.yL fF l i name x' (0,[])).bind λf=>(idx l i).bind λd=>jF 1 d λaCS aCT aCU aCV ajZ=>((M.aN aCS aCT aCU aCV ajZ (aF f.2)).bind λa=>cond ([[D.sl true 5 a]].all bY) (k a) none))) ((M.yL fF l i name x' (0,[])).bind λn=>(idx l i).bind λm=>jF 1 m λaCX aCY aCZ aC0 aj0=>((M.aN aCX aCY aCZ aC0 aj0 (aF n.2)).bind λb=>cond ([[D.sl true 5 b]].all bY) (k b) none))
def M.iV:Nat->ay->Int->aT->ay->Option (ay)
 |0=>λ_ _ _ _=>none
 |n+1=>λl i name x'=>M.zX (M.iV n) l i name x' some
def M.lH l i name x':=lim λn=>M.iV n l i name x'
def C.VE{fF:zai}(IU:S.lH.ok X0 λx=>fF x.1.1 x.1.2.1 x.1.2.2.1 x.1.va.1):S.lH.ok X0 λx=>M.zX fF x.1.1 x.1.2.1 x.1.2.2.1 x.1.va.1 some:=fnS (λx=>zaN (M.zX fF) x.1) [fe C.jJ,fe C.aN] [F.yL IU] (by intros;simp only[zaN,jF,M.zX,nb]<;>rfl)
def C.iV:∀n,S.lH.ok X0 λx=>zaN (M.iV n) x.1
 |0=>fK.zero
 |n+1=>C.VE (C.iV n)
def C.lH:S.lH.ok X0 λx=>zaN M.lH x.1:=fK.lim C.iV
def M.VF{n:Nat}{l:ay}{i:Int}{name:aT}{x' r:ay}(h:M.iV n l i name x'=some r):M.lH l i name x'=some r:=fK.yj C.iV (by intro a b h;simp[S.lH,rb,sg] at h;first|exact h|simp[Prod.ext_iff,h]) (x:=((l,i,name,x',()),())) h
abbrev M.Gu(l:ay)(name:aT)(x':ay)(k:ay×Bool->Option R):=(M.ji l).bind λi=>cond (!i) ((M.jJ l).bind λf=>k (f,false)) ((M.kE x').bind λb=>cond (!b) ((M.jJ l).bind λh=>k (h,false)) ((M.jo l name).bind λg=>cond g ((M.jJ l).bind λe=>k (e,false)) ((M.lH l (i64.wrap ((↑l.length:Int) - 1)) name x').bind λa=>(M.ji (aF a)).bind λc=>cond (!c) ((M.jJ l).bind λd=>k (d,false)) (k (a,true)))))
def M.vP l name x':=M.Gu l name x' some
def C.vP:=fTa S.vP (λx=>M.Gu x.1.1 x.1.2.1 x.1.2.2.1) [fe C.ji,fe C.jJ,fe C.kE,fe C.jo,fe C.lH]
def M.um(a b:ay)(s:Int)(kn:Int->Option R)(ke:(Unit)⊕(Int)->Option R):Option R:=match s with
 |i=>bif decide (i<(↑a.length:Int)) then((idx a i).bind λe=>(gW .i64 e 0).bind λc=>(idx b i).bind λf=>(gW .i64 f 0).bind λd=>bif c !=d then(ke (.inl ())) else kn (i64.wrap (i+1))) else ke (.inr i)
def M.zG a b s:=M.um a b s (λs=>some (Sum.inl s)) λt=>some (Sum.inr t)
def M.Df a b s:=fG (M.zG a b) s
def F.Df:LE X0 29:=le 4 (Ia [dZ 0 (pL false 1),dZ 1 (pL false 1),dZ 5 pI] []) (λx=>x.1.2.2.1) (λx s=>((x.1.1,x.1.2.1,s,()),())) (λx=> .sum (.leaf (Unit) (λt=>(Ex.ret,⟨[(4,DN false)],[]⟩))) (.leaf (Int) (λt=>(Ex.exit 0,⟨[(0,Gl 1 x.1.1),(1,Gl 1 x.1.2.1),(5,kY t),(14,DN false)],[]⟩)))) (λx=>M.um x.1.1 x.1.2.1) [] [] (by rintro _ _ _ _ _<;>simp only[M.um,nb]<;>rfl)
abbrev M.E8(a b:ay)(k:Bool->Option R):=cond ((↑a.length:Int) !=(↑b.length:Int)) (k false) ((M.Df a b 0).bind λc=>qy c (λe=>k false) λd=>letE d λf=>k true)
def M.vF a b:=M.E8 a b some
def C.vF:=fTa S.vF (λx=>M.E8 x.1.1 x.1.2.1) [] [F.Df]
def M.pV(a b:ay)(s:Int)(kn:Int->Option R)(ke:(Unit)⊕(Int)->Option R):Option R:=match s with
 |i=>bif decide (i<(↑a.length:Int)) then((idx a i).bind λf=>(gW .i64 f 0).bind λw=>(idx b i).bind λo=>(gW .i64 o 0).bind λt=>bif w !=t then(ke (.inl ())) else (idx a i).bind λd=>(gW .i64 d 1).bind λr=>(idx b i).bind λh=>(gW .i64 h 1).bind λx=>bif r !=x then(ke (.inl ())) else (idx a i).bind λp=>(cStr p 2).bind λn=>(idx b i).bind λq=>(cStr q 2).bind λe=>bif !n==e then(ke (.inl ())) else (idx a i).bind λj=>(cStr j 3).bind λk=>(idx b i).bind λm=>(cStr m 3).bind λu=>bif !k==u then(ke (.inl ())) else (idx a i).bind λl=>(SE 1 l 4).bind λv=>(idx b i).bind λg=>(SE 1 g 4).bind λy=>(M.vF v y).bind λc=>bif !c then(ke (.inl ())) else kn (i64.wrap (i+1))) else ke (.inr i)
def M.wz a b s:=M.pV a b s (λs=>some (Sum.inl s)) λt=>some (Sum.inr t)
def M.zH a b s:=fG (M.wz a b) s
def F.zH:LE X0 8:=le 4 (Ia [dZ 0 (pL false 5),dZ 1 (pL false 5),dZ 5 pI] []) (λx=>x.1.2.2.1) (λx s=>((x.1.1,x.1.2.1,s,()),())) (λx=> .sum (.leaf (Unit) (λt=>(Ex.ret,⟨[(4,DN false)],[]⟩))) (.leaf (Int) (λt=>(Ex.exit 0,⟨[(0,Gl 5 x.1.1),(1,Gl 5 x.1.2.1),(5,kY t),(14,DN false)],[]⟩)))) (λx=>M.pV x.1.1 x.1.2.1) [fe C.vF] [] (by rintro _ _ _ _ _<;>simp only[M.pV,nb]<;>rfl)
abbrev M.AO(a b:ay)(k:Bool->Option R):=cond ((↑a.length:Int) !=(↑b.length:Int)) (k false) ((M.zH a b 0).bind λd=>qy d (λe=>k false) λc=>letE c λf=>k true)
def M.oQ a b:=M.AO a b some
def C.oQ:=fTa S.oQ (λx=>M.AO x.1.1 x.1.2.1) [] [F.zH]
abbrev M.MI(code:ay)(i:Int)(k:Int->Option R):=cond (decide (i<(↑code.length:Int))) ((idx code i).bind λa=>(gW IntKind.u8 a 0).bind λb=>k (i64.wrap b)) (k ((i64.wrap (i64.wrap (i * 37)+i64.wrap ((↑code.length:Int) * 11))).tmod 256))
def M.yX code i:=M.MI code i some
def C.yX:=fTa S.yX (λx=>M.MI x.1.1 x.1.2.1)
def M.wO(env:ay)(name:aT)(s:Int)(kn:Int->Option R)(ke:(Int)⊕(Int)->Option R):Option R:=match s with
 |i=>bif decide (i<(↑env.length:Int)) then((idx env i).bind λc=>(cStr c 0).bind λd=>bif d==name then((idx env i).bind λb=>(gW .i64 b 1).bind λa=>ke (.inl a)) else kn (i64.wrap (i+1))) else ke (.inr i)
def M.AP env name s:=M.wO env name s (λs=>some (Sum.inl s)) λt=>some (Sum.inr t)
def M.E9 env name s:=fG (M.AP env name) s
def F.E9:LE X0 70:=le 2 (Ia [dZ 0 (pL false 2),dZ 1 pS,dZ 5 pI] []) (λx=>x.1.2.2.1) (λx s=>((x.1.1,x.1.2.1,s,()),())) (λx=> .sum (.leaf (Int) (λt=>(Ex.ret,⟨[(4,kY t)],[]⟩))) (.leaf (Int) (λt=>(Ex.exit 0,⟨[(0,Gl 2 x.1.1),(1,Jz x.1.2.1),(5,kY t),(9,DN false)],[]⟩)))) (λx=>M.wO x.1.1 x.1.2.1) [] [] (by rintro _ _ _ _ _<;>simp only[M.wO,nb]<;>rfl)
abbrev M.Gv(env:ay)(name:aT)(k:Int->Option R):=(M.E9 env name 0).bind λb=>qy b (λc=>k c) λa=>letE a λd=>k 0
def M.yC env name:=M.Gv env name some
def C.yC:=fTa S.yC (λx=>M.Gv x.1.1 x.1.2.1) [] [F.E9]
def M.zY(neg:Bool)(s:Int×aT)(kn:Int×aT->Option R)(ke:Int×aT->Option R):Option R:=match s with
 |(n',out')=>bif n' !=0 then(bif decide (n'.tmod 10<0) then(bif([UInt8.ofNat (IntKind.u8.wrap (i64.wrap (48+i64.wrap (0 - n'.tmod 10)))).toNat].length+out'.length).ble 9223372036854775807 then(kn (i64.wrap (n'.tdiv 10),[UInt8.ofNat (IntKind.u8.wrap (i64.wrap (48+i64.wrap (0 - n'.tmod 10)))).toNat]++out')) else none) else bif([UInt8.ofNat (IntKind.u8.wrap (i64.wrap (48+n'.tmod 10))).toNat].length+out'.length).ble 9223372036854775807 then(kn (i64.wrap (n'.tdiv 10),[UInt8.ofNat (IntKind.u8.wrap (i64.wrap (48+n'.tmod 10))).toNat]++out')) else none) else ke (n',out')
def M.zZ neg s:=M.zY neg s (λs=>some (Sum.inl s)) λt=>some (Sum.inr t)
def M.vH neg s:=fG (M.zZ neg) s
def F.vH:LE X0 120:=le 5 (Ia [dZ 0 pI,dZ 3 pS,dZ 4 pB] []) (λx=>(x.1.1,x.1.2.1)) (λx s=>((s.1,s.2,x.1.2.2.1,()),())) (λx=> .leaf (Int×aT) (λt=>(Ex.exit 0,⟨[(0,kY t.1),(3,Jz t.2),(4,DN x.1.2.2.1),(11,DN false)],[]⟩))) (λx=>M.zY x.1.2.2.1) [] [] (by rintro _ _ ⟨_,_⟩ _ _<;>unfold M.zY<;>exact zaO)
abbrev M.JY(n':Int)(k:aT->Option R):=cond (n'==0) (k [48]) ((M.vH (decide (n'<0)) (n',[])).bind λa=>cond (decide (n'<0)) (cond ((1+a.2.length).ble 9223372036854775807) (k ([45]++a.2)) none) (k a.2))
def M.yD n':=M.JY n' some
def C.yD:=fTa S.yD (λx=>M.JY x.1.1) [] [F.vH]
def M.rE(s':aT)(s:Int×Int×Int)(kn:Int×Int×Int->Option R)(ke:Int×Int×Int->Option R):Option R:=match s with
 |(n',k',i)=>bif decide (i<(↑s'.length:Int)) then(bif decide (i<11) then((idx s' i).bind λc=>bif decide ((↑c.toNat:Int)>=48) then((idx s' i).bind λb=>bif decide ((↑b.toNat:Int)<=57) then((idx s' i).bind λa=>kn (i64.wrap (i64.wrap (n' * 10)+i64.wrap (IntKind.u8.wrap ((↑a.toNat:Int) - 48))),i64.wrap (k'+1),i64.wrap (i+1))) else kn (n',k',i64.wrap (i+1))) else kn (n',k',i64.wrap (i+1))) else ke (n',k',i)) else ke (n',k',i)
def M.xU s' s:=M.rE s' s (λs=>some (Sum.inl s)) λt=>some (Sum.inr t)
def M.AQ s' s:=fG (M.xU s') s
def F.AQ:LE X0 95:=le 4 (Ia [dZ 0 pS,dZ 4 pI,dZ 5 pI,dZ 6 pI] []) (λx=>(x.1.2.1,x.1.2.2.1,x.1.va.1)) (λx s=>((x.1.1,s.1,s.2.1,s.2.2,()),())) (λx=> .leaf (Int×Int×Int) (λt=>(Ex.exit 0,⟨[(0,Jz x.1.1),(4,kY t.1),(5,kY t.2.1),(6,kY t.2.2),(14,DN false)],[]⟩))) (λx=>M.rE x.1.1) [] [] (by rintro _ _ ⟨_,_,_⟩ _ _<;>simp only[M.rE,nb]<;>rfl)
abbrev M.Dh(s':aT)(k:Int×Bool->Option R):=(M.AQ s' (0,0,0)).bind λa=>cond (decide ((↑s'.length:Int)>0)) ((idx s' 0).bind λc=>cond ((↑c.toNat:Int)==45) (cond (decide (a.2.1>9)) (k (0,false)) (cond (decide ((↑s'.length:Int)>10)) (k (0,false)) ((M.yD (i64.wrap (0 - a.1))).bind λd=>cond (!d==s') (k (0,false)) (k (i64.wrap (0 - a.1),true))))) (cond (decide (a.2.1>9)) (k (0,false)) (cond (decide ((↑s'.length:Int)>10)) (k (0,false)) ((M.yD a.1).bind λb=>cond (!b==s') (k (0,false)) (k (a.1,true)))))) (cond (decide (a.2.1>9)) (k (0,false)) (cond (decide ((↑s'.length:Int)>10)) (k (0,false)) ((M.yD a.1).bind λe=>cond (!e==s') (k (0,false)) (k (a.1,true)))))
def M.qO s':=M.Dh s' some
def C.qO:=fTa S.qO (λx=>M.Dh x.1.1) [fe C.yD] [F.AQ]
abbrev M.Di(s':aT)(k:Int×Bool->Option R):=(M.qO s').bind λa=>cond (!a.2) (k (0,false)) (cond (decide (a.1<0)) (k (0,false)) (k (a.1,true)))
def M.oJ s':=M.Di s' some
def C.oJ:=fTa S.oJ (λx=>M.Di x.1.1) [fe C.qO]
abbrev M.Hu(b:Bool)(k:Int->Option R):=cond b (k 1) (k 0)
def M.gX b:=M.Hu b some
def C.gX:=fTa S.gX (λx=>M.Hu x.1.1)
def M.uo(eF:zad)(l:ay)(n' jq:Int)(kM nK:aT)(pG env:ay)(k:Int×Bool->Option R):=(idx pG 0).bind λe=>(gW .i64 e 0).bind λh=>(eF l h env).bind λa=>cond (!a.2) (k (0,false)) (cond ((a.1 !=0)==(jq==44)) ((M.gX (a.1 !=0)).bind λc=>k (c,true)) ((idx pG 1).bind λd=>(gW .i64 d 0).bind λf=>(eF l f env).bind λb=>(M.gX (b.1 !=0)).bind λg=>k (g,b.2)))
def C.SX{eF:zad}(JZ:S.nV.ok X0 λx=>eF x.1.1 x.1.2.1 x.1.2.2.1):S.vS.ok X0 λx=>wF (M.uo eF x.1.1) x.1.2.1 x.1.2.2.1 some:=fnS (λx=>M.uo eF x.1.1 x.1.2.1.1 x.1.2.1.2.1 x.1.2.1.2.2.1 x.1.2.1.va.1 x.1.2.1.va.2.1 x.1.2.2.1) [fe JZ,fe C.gX] [] (by intros;simp only[M.uo,nb]<;>rfl)
abbrev M.Fa(op' a b:Int)(k:Int×Bool->Option R):=cond (op'==55) (k (i64.wrap (a+b),true)) (cond (op'==56) (k (i64.wrap (a - b),true)) (cond (op'==57) (k (i64.wrap (a * b),true)) (cond (op'==59) (cond (b==0) (k (0,false)) (cond (!decide (b=0)) (k (a.tmod b,true)) none)) (cond (op'==63) ((M.gX (decide (a<b))).bind λc=>k (c,true)) (cond (op'==48) ((M.gX (decide (a<=b))).bind λd=>k (d,true)) (cond (op'==47) ((M.gX (a==b)).bind λf=>k (f,true)) (cond (op'==50) ((M.gX (a !=b)).bind λe=>k (e,true)) (cond (op'==62) ((M.gX (decide (a>b))).bind λh=>k (h,true)) (cond (op'==49) ((M.gX (decide (a>=b))).bind λg=>k (g,true)) (k (0,false)))))))))))
def M.vG op' a b:=M.Fa op' a b some
def C.vG:=fTa S.vG (λx=>M.Fa x.1.1 x.1.2.1 x.1.2.2.1) [fe C.gX]
def M.uq(eF:zad)(oZ:zac)(l:ay)(n' jq:Int)(kM nK:aT)(pG env:ay)(k:Int×Bool->Option R):=cond (n'==1) ((M.yC env kM).bind λt=>k (t,true)) (cond (n'==2) ((M.oJ kM).bind λd=>k (d.1,d.2)) (cond (n'==11) ((idx pG 0).bind λn=>(gW .i64 n 0).bind λv=>(eF l v env).bind λb=>cond (jq==61) (cond (b.1==0) ((M.gX b.2).bind λz=>k (z,b.2)) ((M.gX false).bind λp=>k (p,b.2))) (cond (jq==56) (k (i64.wrap (0 - b.1),b.2)) (k (b.1,b.2)))) (cond (n'==14) ((idx pG 0).bind λA=>(gW .i64 A 0).bind λr=>(eF l r env).bind λc=>cond (c.1 !=0) (cond (!c.2) (k (0,false)) ((idx pG 1).bind λw=>(gW .i64 w 0).bind λy=>(eF l y env).bind λj=>k (j.1,j.2))) (cond (!c.2) (k (0,false)) ((idx pG 2).bind λs=>(gW .i64 s 0).bind λo=>(eF l o env).bind λi=>k (i.1,i.2)))) (cond (n'==12) (cond (jq==45) ((oZ l n' jq kM nK pG env).bind λf=>k (f.1,f.2)) (cond (jq==44) ((oZ l n' jq kM nK pG env).bind λg=>k (g.1,g.2)) ((idx pG 0).bind λm=>(gW .i64 m 0).bind λx=>(eF l x env).bind λe=>(idx pG 1).bind λq=>(gW .i64 q 0).bind λu=>(eF l u env).bind λh=>(M.vG jq e.1 h.1).bind λa=>cond a.2 (cond e.2 (k (a.1,h.2)) (k (a.1,false))) (k (a.1,false))))) (k (0,false))))))
def C.SY{eF:zad}{oZ:zac}(JZ:S.nV.ok X0 λx=>eF x.1.1 x.1.2.1 x.1.2.2.1)(VG:S.vS.ok X0 λx=>wF (oZ x.1.1) x.1.2.1 x.1.2.2.1):S.vT.ok X0 λx=>wF (M.uq eF oZ x.1.1) x.1.2.1 x.1.2.2.1 some:=fnS (λx=>M.uq eF oZ x.1.1 x.1.2.1.1 x.1.2.1.2.1 x.1.2.1.2.2.1 x.1.2.1.va.1 x.1.2.1.va.2.1 x.1.2.2.1) [fe C.yC,fe C.oJ,fe JZ,fe C.gX,fe VG,fe C.vG] [] (by intros;unfold M.uq;exact zaO)
def M.zI(uw:zac)(l:ay)(i:Int)(env:ay)(k:Int×Bool->Option R):=(idx l i).bind λc=>jF 1 c λaDz aDA aDB aDC ake=>((uw l aDz aDA aDB aDC ake env).bind λa=>cond (!a.2) (k (0,false)) ((M.bK a.1 (-1000000000) 1000000000).bind λb=>cond (!b) (k (0,false)) (k (a.1,true))))
def C.Xa{uw:zac}(VH:S.vT.ok X0 λx=>wF (uw x.1.1) x.1.2.1 x.1.2.2.1):S.nV.ok X0 λx=>M.zI uw x.1.1 x.1.2.1 x.1.2.2.1 some:=fnS (λx=>M.zI uw x.1.1 x.1.2.1 x.1.2.2.1) [fe VH,fe C.bK] [] (by intros;simp only[jF,M.zI,nb]<;>rfl)
def M.oL:Nat->(zad)×(zac)×(zac):=Nat.rec (λ_ _ _=>none,λ_ _ _ _ _ _ _=>none,λ_ _ _ _ _ _ _=>none) λ_ qz=>(λl i env=>M.zI qz.2.2 l i env some,λl n' jq kM nK pG env=>M.uo qz.1 l n' jq kM nK pG env some,λl n' jq kM nK pG env=>M.uq qz.1 qz.2.1 l n' jq kM nK pG env some)
def M.mW n:=(M.oL n).1
def M.yM n:=(M.oL n).2.1
def M.yN n:=(M.oL n).2.2
def M.Zn(n:Nat):M.mW (n+1)=λl i env=>M.zI (M.yN n) l i env some:=rfl
def M.VI(n:Nat):M.yM (n+1)=λl n' jq kM nK pG env=>M.uo (M.mW n) l n' jq kM nK pG env some:=rfl
def M.VJ(n:Nat):M.yN (n+1)=λl n' jq kM nK pG env=>M.uq (M.mW n) (M.yM n) l n' jq kM nK pG env some:=rfl
def M.nV l i env:=lim λn=>M.mW n l i env
def M.vS l n' jq kM nK pG env:=lim λn=>M.yM n l n' jq kM nK pG env
def M.vT l n' jq kM nK pG env:=lim λn=>M.yN n l n' jq kM nK pG env
def C.oL:∀n,(S.nV.ok X0 λx=>M.mW n x.1.1 x.1.2.1 x.1.2.2.1)/\(S.vS.ok X0 λx=>wF (M.yM n x.1.1) x.1.2.1 x.1.2.2.1)/\(S.vT.ok X0 λx=>wF (M.yN n x.1.1) x.1.2.1 x.1.2.2.1)
 |0=>⟨fK.zero,fK.zero,fK.zero⟩
 |n+1=>have h:=C.oL n;⟨C.Xa h.2.2,C.SX h.1,C.SY h.1 h.2.1⟩
def C.nV:S.nV.ok X0 λx=>M.nV x.1.1 x.1.2.1 x.1.2.2.1:=fK.lim λn=>(C.oL n).1
def M.Xb{n:Nat}{l:ay}{i:Int}{env:ay}{r:Int×Bool}(h:M.mW n l i env=some r):M.nV l i env=some r:=fK.yj (λn=>(C.oL n).1) (by intro a b h;simp[S.nV,rl,sg] at h;first|exact h|simp[Prod.ext_iff,h]) (x:=((l,i,env,()),())) h
def C.vS:S.vS.ok X0 λx=>wF (M.vS x.1.1) x.1.2.1 x.1.2.2.1:=fK.lim λn=>(C.oL n).2.1
def C.vT:S.vT.ok X0 λx=>wF (M.vT x.1.1) x.1.2.1 x.1.2.2.1:=fK.lim λn=>(C.oL n).2.2
abbrev M.Iq(l env:ay)(k:Int×Bool->Option R):=(M.kE l).bind λb=>cond (!b) (k (0,false)) ((M.nV l (i64.wrap ((↑l.length:Int) - 1)) env).bind λa=>k (a.1,a.2))
def M.sW l env:=M.Iq l env some
def C.sW:=fTa S.sW (λx=>M.Iq x.1.1 x.1.2.1) [fe C.kE,fe C.nV]
def M.wP(name:aT)(v7:ay)(v8 s:Int)(kn:Int->Option R)(ke:(Int)⊕(Int)->Option R):Option R:=match s with
 |v9=>bif decide (v9<v8) then((idx v7 v9).bind λa=>(cStr a 0).bind λc=>(gW .i64 a 1).bind λb=>bif c==name then(ke (.inl b)) else kn (i64.wrap (v9+1))) else ke (.inr v9)
def M.AU name v7 v8 s:=M.wP name v7 v8 s (λs=>some (Sum.inl s)) λt=>some (Sum.inr t)
def M.Fb name v7 v8 s:=fG (M.AU name v7 v8) s
def F.Fb:LE X0 58:=le 2 (Ia [dZ 1 pS,dZ 7 (pL false 2),dZ 8 pI,dZ 9 pI] []) (λx=>x.1.va.1) (λx s=>((x.1.1,x.1.2.1,x.1.2.2.1,s,()),())) (λx=> .sum (.leaf (Int) (λt=>(Ex.ret,⟨[(4,kY t)],[]⟩))) (.leaf (Int) (λt=>(Ex.exit 0,⟨[(1,Jz x.1.1),(7,Gl 2 x.1.2.1),(8,kY x.1.2.2.1),(9,kY t),(10,DN false)],[]⟩)))) (λx=>M.wP x.1.1 x.1.2.1 x.1.2.2.1) [] [] (by rintro _ _ _ _ _<;>simp only[M.wP,nb]<;>rfl)
abbrev M.Gw(env:ay)(name:aT)(k:Int->Option R):=(M.Fb name env ((↑env.length:Int)) 0).bind λa=>qy a (λc=>k c) λb=>letE b λd=>k 0
def M.yE env name:=M.Gw env name some
def C.yE:=fTa S.yE (λx=>M.Gw x.1.1 x.1.2.1) [] [F.Fb]
def C.iK:S.iK.ok X0 λx=>M.iK x.1.1:=fK.MN (p:=Prim.iK)
abbrev M.Dj(s':aT)(k:Int×Bool->Option R):=(M.iK s').bind λa=>cond (!a.2) (k (0,false)) (cond (decide (a.1<0)) (k (0,false)) (k (a.1,true)))
def M.oK s':=M.Dj s' some
def C.oK:=fTa S.oK (λx=>M.Dj x.1.1) [fe C.iK]
abbrev M.LD(is:Bool)(k:Int->Option R):=cond is (k 1) (k 0)
def M.jE is:=M.LD is some
def C.jE:=fTa S.jE (λx=>M.LD x.1.1)
abbrev M.Dk(op' a b:Int)(k:Int×Bool->Option R):=cond (op'==55) ((M.aQ (i64.wrap (a+b)) (-1000000000) 1000000000).bind λp=>cond (!p) (k (0,false)) (k (i64.wrap (a+b),true))) (cond (op'==56) ((M.aQ (i64.wrap (a - b)) (-1000000000) 1000000000).bind λl=>cond (!l) (k (0,false)) (k (i64.wrap (a - b),true))) (cond (op'==57) ((M.aQ (i64.wrap (a * b)) (-1000000000) 1000000000).bind λs=>cond (!s) (k (0,false)) (k (i64.wrap (a * b),true))) (cond (op'==59) (cond (b==0) (k (0,false)) (cond (!decide (b=0)) ((M.aQ (a.tmod b) (-1000000000) 1000000000).bind λr=>cond (!r) (k (0,false)) (k (a.tmod b,true))) none)) (cond (op'==63) ((M.jE (decide (a<b))).bind λh=>(M.aQ h (-1000000000) 1000000000).bind λn=>cond (!n) (k (0,false)) (k (h,true))) (cond (op'==48) ((M.jE (decide (a<=b))).bind λf=>(M.aQ f (-1000000000) 1000000000).bind λo=>cond (!o) (k (0,false)) (k (f,true))) (cond (op'==47) ((M.jE (a==b)).bind λg=>(M.aQ g (-1000000000) 1000000000).bind λj=>cond (!j) (k (0,false)) (k (g,true))) (cond (op'==50) ((M.jE (a !=b)).bind λc=>(M.aQ c (-1000000000) 1000000000).bind λm=>cond (!m) (k (0,false)) (k (c,true))) (cond (op'==62) ((M.jE (decide (a>b))).bind λd=>(M.aQ d (-1000000000) 1000000000).bind λi=>cond (!i) (k (0,false)) (k (d,true))) (cond (op'==49) ((M.jE (decide (a>=b))).bind λe=>(M.aQ e (-1000000000) 1000000000).bind λq=>cond (!q) (k (0,false)) (k (e,true))) (k (0,false)))))))))))
def M.qP op' a b:=M.Dk op' a b some
def C.qP:=fTa S.qP (λx=>M.Dk x.1.1 x.1.2.1 x.1.2.2.1) [fe C.aQ,fe C.jE]
def M.uy(gq:zab)(t' rY:Int)(D7 Ib:aT)(DI env:ay)(k:Int×Bool->Option R):=(idx DI 0).bind λj=>jF 5 j λar4 ar5 ar6 ar7 agL=>((gq ar4 ar5 ar6 ar7 agL env).bind λa=>cond (!a.2) (k (0,false)) (cond (rY==45) (cond ((a.1 !=0)==(rY==44)) ((M.jE (a.1 !=0)).bind λm=>k (m,true)) ((idx DI 1).bind λi=>jF 5 i λar9 asa asb asc agM=>((gq ar9 asa asb asc agM env).bind λd=>cond (!d.2) (k (0,false)) ((M.jE (d.1 !=0)).bind λn=>k (n,true))))) (cond (rY==44) (cond ((a.1 !=0)==(rY==44)) ((M.jE (a.1 !=0)).bind λh=>k (h,true)) ((idx DI 1).bind λl=>jF 5 l λash asi asj asl agN=>((gq ash asi asj asl agN env).bind λb=>cond (!b.2) (k (0,false)) ((M.jE (b.1 !=0)).bind λg=>k (g,true))))) ((idx DI 1).bind λf=>jF 5 f λaso asq asr asu agO=>((gq aso asq asr asu agO env).bind λe=>cond (!e.2) (k (0,false)) ((M.qP rY a.1 e.1).bind λc=>k (c.1,c.2)))))))
def C.S9{gq:zab}(LG:S.ql.ok X0 λx=>wF gq x.1.1 x.1.2.1):S.vU.ok X0 λx=>wF (M.uy gq) x.1.1 x.1.2.1 some:=fnS (λx=>M.uy gq x.1.1.1 x.1.1.2.1 x.1.1.2.2.1 x.1.1.va.1 x.1.1.va.2.1 x.1.2.1) [fe LG,fe C.jE,fe C.qP] [] (by intros;simp only[jF,M.uy,nb]<;>rfl)
def M.Bo(gq:zab)(uz:zab)(t' rY:Int)(D7 Ib:aT)(DI env:ay)(k:Int×Bool->Option R):=cond (t'==1) ((M.yE env D7).bind λb=>(M.aQ b (-1000000000) 1000000000).bind λj=>cond (!j) (k (0,false)) (k (b,true))) (cond (t'==2) ((M.oK D7).bind λe=>k (e.1,e.2)) (cond (t'==11) ((idx DI 0).bind λn=>jF 5 n λasw asx asy asz agP=>((gq asw asx asy asz agP env).bind λa=>cond (!a.2) (k (0,false)) (cond (rY==56) (k (i64.wrap (0 - a.1),true)) (cond (rY==61) ((M.jE (a.1==0)).bind λl=>k (l,true)) (k (a.1,true)))))) (cond (t'==14) ((idx DI 0).bind λi=>jF 5 i λasB asC asD asE agQ=>((gq asB asC asD asE agQ env).bind λf=>cond (!f.2) (k (0,false)) (cond (f.1 !=0) ((idx DI 1).bind λh=>jF 5 h λasF asG asH asI agR=>((gq asF asG asH asI agR env).bind λd=>k (d.1,d.2))) ((idx DI 2).bind λm=>jF 5 m λasJ asK asL asM agS=>((gq asJ asK asL asM agS env).bind λg=>k (g.1,g.2)))))) (cond (t'==12) ((uz t' rY D7 Ib DI env).bind λc=>k (c.1,c.2)) (k (0,false))))))
def C.Zo{gq:zab}{uz:zab}(LG:S.ql.ok X0 λx=>wF gq x.1.1 x.1.2.1)(VK:S.vU.ok X0 λx=>wF uz x.1.1 x.1.2.1):S.ql.ok X0 λx=>wF (M.Bo gq uz) x.1.1 x.1.2.1 some:=fnS (λx=>M.Bo gq uz x.1.1.1 x.1.1.2.1 x.1.1.2.2.1 x.1.1.va.1 x.1.1.va.2.1 x.1.2.1) [fe C.yE,fe C.aQ,fe C.oK,fe LG,fe C.jE,fe VK] [] (by intros;simp only[jF,M.Bo,nb]<;>rfl)
def M.yO:Nat->(zab)×(zab):=Nat.rec (λ_ _ _ _ _ _=>none,λ_ _ _ _ _ _=>none) λ_ qz=>(λt' rY D7 Ib DI env=>M.Bo qz.1 qz.2 t' rY D7 Ib DI env some,λt' rY D7 Ib DI env=>M.uy qz.1 t' rY D7 Ib DI env some)
def M.rF n:=(M.yO n).1
def M.Dl n:=(M.yO n).2
def M.aaQ(n:Nat):M.rF (n+1)=λt' rY D7 Ib DI env=>M.Bo (M.rF n) (M.Dl n) t' rY D7 Ib DI env some:=rfl
def M.VL(n:Nat):M.Dl (n+1)=λt' rY D7 Ib DI env=>M.uy (M.rF n) t' rY D7 Ib DI env some:=rfl
def M.ql t' rY D7 Ib DI env:=lim λn=>M.rF n t' rY D7 Ib DI env
def M.vU t' rY D7 Ib DI env:=lim λn=>M.Dl n t' rY D7 Ib DI env
def C.yO:∀n,(S.ql.ok X0 λx=>wF (M.rF n) x.1.1 x.1.2.1)/\(S.vU.ok X0 λx=>wF (M.Dl n) x.1.1 x.1.2.1)
 |0=>⟨fK.zero,fK.zero⟩
 |n+1=>have h:=C.yO n;⟨C.Zo h.1 h.2,C.S9 h.1⟩
def C.ql:S.ql.ok X0 λx=>wF M.ql x.1.1 x.1.2.1:=fK.lim λn=>(C.yO n).1
def M.Zp{n:Nat}{t' rY:Int}{D7 Ib:aT}{DI env:ay}{r:Int×Bool}(h:M.rF n t' rY D7 Ib DI env=some r):M.ql t' rY D7 Ib DI env=some r:=fK.yj (λn=>(C.yO n).1) (by intro a b h;simp[S.ql,rl,sg] at h;first|exact h|simp[Prod.ext_iff,h]) (x:=(((t',rY,D7,Ib,DI,()),env,()),())) h
def C.vU:S.vU.ok X0 λx=>wF M.vU x.1.1 x.1.2.1:=fK.lim λn=>(C.yO n).2
abbrev M.Ir(l env:ay)(k:Int×Bool->Option R):=(M.oO l).bind λc=>cond (!c) (k (0,false)) ((M.kD l).bind λa=>(M.ql a.1 a.2.1 a.2.2.1 a.2.2.2.1 (aF a.2.2.2.2) env).bind λb=>k (b.1,b.2))
def M.yY l env:=M.Ir l env some
def C.yY:=fTa S.yY (λx=>M.Ir x.1.1 x.1.2.1) [fe C.oO,fe C.kD,fe C.ql]
abbrev M.Dn(code:ay)(k:Bool->Option R):=(M.Hf code).bind λB=>cond B (k true) ((M.ni code).bind λa=>(M.vN (aF a.2.1) a.2.2.1 (aF a.2.2.2.2)).bind λb=>(M.vP (aF a.2.1) a.2.2.1 (aF a.2.2.2.2)).bind λr=>cond (!b.2==r.2) (k false) (cond (!b.2) ((M.oQ (aF b.1) (aF a.2.1)).bind λA=>cond (!A) (k false) ((M.jm (aF a.2.1) a.2.2.1).bind λu=>(M.jo (aF a.2.1) a.2.2.1).bind λq=>cond (!u==q) (k false) (cond (!b.2) (k true) ((M.yX code 0).bind λc=>(M.yX code 1).bind λg=>(M.yX code 2).bind λh=>(M.sW (aF a.2.2.2.2) ([[D.str [110],D.int .i64 (c.tmod 5)],[D.str [120],D.int .i64 g],[D.str [121],D.int .i64 (i64.wrap (h - 128))]])).bind λn=>cond (!n.2) ((M.ji (aF b.1)).bind λw=>k w) ((M.kE (aF a.2.1)).bind λs=>cond (!s) ((M.ji (aF b.1)).bind λz=>k z) ((M.yY (aF b.1) ([[D.str [110],D.int .i64 (c.tmod 5)],[D.str [120],D.int .i64 g],[D.str [121],D.int .i64 (i64.wrap (h - 128))]])).bind λo=>(M.sW (aF a.2.1) ([[D.str a.2.2.1,D.int .i64 n.1]]++[[D.str [110],D.int .i64 (c.tmod 5)],[D.str [120],D.int .i64 g],[D.str [121],D.int .i64 (i64.wrap (h - 128))]])).bind λj=>cond (o.1==j.1) (k (o.2==j.2)) (k false))))))) ((M.jm (aF a.2.1) a.2.2.1).bind λp=>(M.jo (aF a.2.1) a.2.2.1).bind λy=>cond (!p==y) (k false) (cond (!b.2) (k true) ((M.yX code 0).bind λd=>(M.yX code 1).bind λe=>(M.yX code 2).bind λf=>(M.sW (aF a.2.2.2.2) ([[D.str [110],D.int .i64 (d.tmod 5)],[D.str [120],D.int .i64 e],[D.str [121],D.int .i64 (i64.wrap (f - 128))]])).bind λm=>cond (!m.2) ((M.ji (aF b.1)).bind λt=>k t) ((M.kE (aF a.2.1)).bind λv=>cond (!v) ((M.ji (aF b.1)).bind λx=>k x) ((M.yY (aF b.1) ([[D.str [110],D.int .i64 (d.tmod 5)],[D.str [120],D.int .i64 e],[D.str [121],D.int .i64 (i64.wrap (f - 128))]])).bind λi=>(M.sW (aF a.2.1) ([[D.str a.2.2.1,D.int .i64 m.1]]++[[D.str [110],D.int .i64 (d.tmod 5)],[D.str [120],D.int .i64 e],[D.str [121],D.int .i64 (i64.wrap (f - 128))]])).bind λl=>cond (i.1==l.1) (k (i.2==l.2)) (k false))))))))
def M.vV code:=M.Dn code some
def C.vV:=fTa S.vV (λx=>M.Dn x.1.1) [fe C.Hf,fe C.ni,fe C.vN,fe C.vP,fe C.oQ,fe C.jm,fe C.jo,fe C.yX,fe C.sW,fe C.ji,fe C.kE,fe C.yY]
end
end Go.Proofs.YtcallmiaialhkaaGreatDoor
