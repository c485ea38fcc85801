import Derived.Test.YtoaeipkhadpbiaaGreatDoorPForms4
set_option linter.defProp false
namespace Go.Proofs.YtoaeipkhadpbiaaGreatDoor
open Go Go.Vm
open Go.IntKind (i64)
set_option linter.unusedVariables false
set_option linter.unusedSimpArgs false
noncomputable section
variable {R:Type}
abbrev M.Oe(l:ak)(k:Int×Int×aK×aK×ak->Option R):=(M.wF l (i64.wrap ((↑l.length:Int) - 1))).bind λa=>k (a)
def M.Ae l:=M.Oe l some
def C.Ae:=fTa S.Ae (λx=>M.Oe x.1.1) [fe C.wF]
def M.Ik(l v10:ak)(v11 v12:Int)(v20:ak)(v21 x' kN:Int)(pR rF:aK)(qY:ak)(s:Int)(kn:Int->Option R)(ke:(Unit)⊕(Int)->Option R):Option R:=match s with
 |v22=>bif decide (v22<v21) then((idx v20 v22).bind λc=>(kP .i64 c 0).bind λa=>(idx l a).bind λe=>(kP .i64 e 0).bind λd=>(M.dH x' kN pR rF qY v22 d).bind λb=>bif !b then(ke (.inl ())) else kn (i64.wrap (v22+1))) else ke (.inr v22)
def M.SG l v10 v11 v12 v20 v21 x' kN pR rF qY s:=M.Ik l v10 v11 v12 v20 v21 x' kN pR rF qY s (λs=>some (Sum.inl s)) λt=>some (Sum.inr t)
def M.L6 l v10 v11 v12 v20 v21 x' kN pR rF qY s:=gU (M.SG l v10 v11 v12 v20 v21 x' kN pR rF qY) s
def F.L6:LE X0 85:=le 9 (Iu [dO 0 (pL false 5),dO 4 (pP 300000 0),dO 10 (pL false 5),dO 11 pI,dO 12 pI,dO 20 (pL false 1),dO 21 pI,dO 22 pI] [dO 300000 (cB 57 zbp)]) (λx=>x.1.va.va.2.1) (λx s=>((x.1.1,(),x.1.2.2.1,x.1.va.1,x.1.va.2.1,x.1.va.2.2.1,x.1.va.va.1,s,()),((x.2.1.1,x.2.1.2.1,x.2.1.2.2.1,x.2.1.va.1,x.2.1.va.2.1,()),()))) (λx=> .sum (.leaf (Unit) (λt=>(Ex.ret,⟨[(2,lW false)],[]⟩))) (.leaf (Int) (λt=>(Ex.exit 2,⟨[(0,CP 5 x.1.1),(4,V.ptr 300000 0),(10,CP 5 x.1.2.2.1),(11,iR x.1.va.1),(12,iR x.1.va.2.1),(20,CP 1 x.1.va.2.2.1),(21,iR x.1.va.va.1),(22,iR t),(23,lW false)],[(300000,Cell.box 57 [iR x.2.1.1,iR x.2.1.2.1,rE x.2.1.2.2.1,rE x.2.1.va.1,CP 1 x.2.1.va.2.1])]⟩)))) (λx=>M.Ik x.1.1 x.1.2.2.1 x.1.va.1 x.1.va.2.1 x.1.va.2.2.1 x.1.va.va.1 x.2.1.1 x.2.1.2.1 x.2.1.2.2.1 x.2.1.va.1 x.2.1.va.2.1) [fe C.dH] [] (by rintro _ _ _ _ _<;>simp only[M.Ik,nb]<;>rfl)
def M.Il(l v10:ak)(v11 s:Int)(kn:Int->Option R)(ke:(Unit)⊕(Int)->Option R):Option R:=match s with
 |v12=>bif decide (v12<v11) then((idx v10 v12).bind λc=>Hf 1 c λaEk aEl aEm aEn afG=>((M.jG aEk aEl aEm aEn afG).bind λd=>bif !d then(ke (.inl ())) else (M.L6 l v10 v11 v12 afG ((↑afG.length:Int)) aEk aEl aEm aEn afG 0).bind λb=>jg b (λe=>ke (.inl ())) λa=>letE a λf=>kn (i64.wrap (v12+1)))) else ke (.inr v12)
def M.SH l v10 v11 s:=M.Il l v10 v11 s (λs=>some (Sum.inl s)) λt=>some (Sum.inr t)
def M.L8 l v10 v11 s:=gU (M.SH l v10 v11) s
def F.L8:LE X0 85:=le 4 (Iu [dO 0 (pL false 5),dO 10 (pL false 5),dO 11 pI,dO 12 pI] []) (λx=>x.1.va.1) (λx s=>((x.1.1,x.1.2.1,x.1.2.2.1,s,()),())) (λx=> .sum (.leaf (Unit) (λt=>(Ex.ret,⟨[(2,lW false)],[]⟩))) (.leaf (Int) (λt=>(Ex.exit 0,⟨[(0,CP 5 x.1.1),(10,CP 5 x.1.2.1),(11,iR x.1.2.2.1),(12,iR t),(13,lW false)],[]⟩)))) (λx=>M.Il x.1.1 x.1.2.1 x.1.2.2.1) [fe C.jG] [F.L6] (by rintro _ _ _ _ _<;>simp only[Hf,M.Il,nb]<;>rfl)
abbrev M.TW(l:ak)(k:Bool->Option R):=(M.E5 l).bind λd=>cond (!d) (k false) ((M.L8 l l ((↑l.length:Int)) 0).bind λe=>jg e (λf=>k false) λb=>letE b λg=>(M.Ae l).bind λa=>(M.lH a.1 a.2.1 a.2.2.1 a.2.2.2.1 (au a.2.2.2.2)).bind λc=>k (decide (c<=40)))
def M.II l:=M.TW l some
def C.II:=fTa S.II (λx=>M.TW x.1.1) [fe C.E5,fe C.Ae,fe C.lH] [F.L8]
abbrev M.Nz(t' GL:Int)(Rl UJ:aK)(Ro kids:ak)(k:Int×Int×aK×aK×ak->Option R):=k (t',GL,Rl,UJ,kids)
def M.DL t' GL Rl UJ Ro kids:=M.Nz t' GL Rl UJ Ro kids some
def C.DL:=fTa S.DL (λx=>M.Nz x.1.1.1 x.1.1.2.1 x.1.1.2.2.1 x.1.1.va.1 x.1.1.va.2.1 x.1.2.1)
def M.Ba(jd:zan)(v8:ak)(v9 x' kN:Int)(pR rF:aK)(qY:ak)(wU Dw:Int)(JF Kw:aK)(s:Int×ak)(kn:Int×ak->Option R)(ke:Int×ak->Option R):Option R:=match s with
 |(v10,Ru)=>bif decide (v10<v9) then((idx v8 v10).bind λb=>Hf 5 b λaEo aP8 aP9 aQa azD=>(bif aEo !=34 then((jd aEo aP8 aP9 aQa azD).bind λa=>Dz Ru [[D.int .i64 a.1,D.int .i64 a.2.1,D.str a.2.2.1,D.str a.2.2.2.1,D.sl false 5 (au a.2.2.2.2)]] 72 λc=>kn (i64.wrap (v10+1),c)) else kn (i64.wrap (v10+1),Ru))) else ke (v10,Ru)
def M.Gf jd v8 v9 x' kN pR rF qY wU Dw JF Kw s:=M.Ba jd v8 v9 x' kN pR rF qY wU Dw JF Kw s (λs=>some (Sum.inl s)) λt=>some (Sum.inr t)
def M.Ju jd v8 v9 x' kN pR rF qY wU Dw JF Kw s:=gU (M.Gf jd v8 v9 x' kN pR rF qY wU Dw JF Kw) s
def F.Ju{jd:zan}(Q8:S.oM.ok X0 λx=>lS jd x.1.1):LE X0 87:=le 3 (Iu [dO 1 (pP 300000 0),dO 2 (pP 300001 0),dO 3 (pO 300002 0),dO 8 (pL false 5),dO 9 pI,dO 10 pI] [dO 300000 (cB 68 zbx),dO 300001 zbt,dO 300002 zbv]) (λx=>(x.1.va.2.2.1,x.va.1)) (λx s=>(((),(),(),x.1.va.1,x.1.va.2.1,s.1,()),((x.2.1.1,x.2.1.2.1,x.2.1.2.2.1,x.2.1.va.1,x.2.1.va.2.1,()),(x.2.2.1.1,x.2.2.1.2.1,x.2.2.1.2.2.1,x.2.2.1.va.1,(),()),s.2,()))) (λx=> .leaf (Int×ak) (λt=>(Ex.exit 0,⟨[(1,V.ptr 300000 0),(2,V.ptr 300001 0),(3,V.own 300002 0),(8,CP 5 x.1.va.1),(9,iR x.1.va.2.1),(10,iR t.1),(11,lW false)],[(300000,Cell.box 68 [iR x.2.1.1,iR x.2.1.2.1,rE x.2.1.2.2.1,rE x.2.1.va.1,CP 5 x.2.1.va.2.1]),(300001,Cell.box 68 [iR x.2.2.1.1,iR x.2.2.1.2.1,rE x.2.2.1.2.2.1,rE x.2.2.1.va.1,V.nil 5]),(300002,Cell.arr false false 0 5 t.2)]⟩))) (λx=>zbL (M.Ba jd x.1.va.1 x.1.va.2.1 x.2.1.1 x.2.1.2.1 x.2.1.2.2.1 x.2.1.va.1 x.2.1.va.2.1) x.2.2.1) [fe Q8] [] (by rintro _ _ ⟨_,_⟩ _ _<;>simp only[zbL,Dz,Hf,M.Ba,nb]<;>rfl)
def M.Gg(jd:zan)(t' GL:Int)(Rl UJ:aK)(Ro:ak)(k:Int×Int×aK×aK×ak->Option R):=(M.Ju jd Ro ((↑Ro.length:Int)) t' GL Rl UJ Ro 0 0 [] [] (0,[])).bind λb=>(M.DL t' GL Rl UJ Ro (au b.2)).bind λa=>k (a.1,a.2.1,a.2.2.1,a.2.2.2.1,au a.2.2.2.2)
def M.kG:Nat->Int->Int->aK->aK->ak->Option zaI
 |0=>λ_ _ _ _ _=>none
 |n+1=>λt' GL Rl UJ Ro=>M.Gg (M.kG n) t' GL Rl UJ Ro some
def M.oM t' GL Rl UJ Ro:=lim λn=>M.kG n t' GL Rl UJ Ro
def C.aeI{jd:zan}(Q8:S.oM.ok X0 λx=>lS jd x.1.1):S.oM.ok X0 λx=>lS (M.Gg jd) x.1.1 some:=fnS (λx=>M.Gg jd x.1.1.1 x.1.1.2.1 x.1.1.2.2.1 x.1.1.va.1 x.1.1.va.2.1) [fe C.DL] [F.Ju Q8] (by intros;simp only[M.Gg,nb]<;>rfl)
def C.kG:∀n,S.oM.ok X0 λx=>M.kG n x.1.1.1 x.1.1.2.1 x.1.1.2.2.1 x.1.1.va.1 x.1.1.va.2.1
 |0=>fF.zero
 |n+1=>C.aeI (C.kG n)
def C.oM:S.oM.ok X0 λx=>lS M.oM x.1.1:=fF.lim C.kG
def M.aeJ{n:Nat}{t' GL:Int}{Rl UJ:aK}{Ro:ak}{r:Int×Int×aK×aK×ak}(h:M.kG n t' GL Rl UJ Ro=some r):M.oM t' GL Rl UJ Ro=some r:=fF.IY C.kG (by intro a b h;simp[S.oM,rl,sg] at h;first|exact h|simp[Prod.ext_iff,h]) (x:=(((t',GL,Rl,UJ,Ro,()),()),())) h
abbrev M.KQ(l:ak)(k:ak->Option R):=(M.II l).bind λc=>cond (!c) (k []) ((M.Ae l).bind λa=>(M.oM a.1 a.2.1 a.2.2.1 a.2.2.2.1 (au a.2.2.2.2)).bind λb=>(M.oV b.1 b.2.1 b.2.2.1 b.2.2.2.1 (au b.2.2.2.2)).bind λd=>k d)
def M.uZ l:=M.KQ l some
def C.uZ:=fTa S.uZ (λx=>M.KQ x.1.1) [fe C.II,fe C.Ae,fe C.oM,fe C.oV]
def M.Gi(s1 s2:ak)(v12 s:Int)(kn:Int->Option R)(ke:(Unit)⊕(Int)->Option R):Option R:=match s with
 |v13=>bif decide (v13<v12) then((idx s1 v13).bind λd=>(kP .i64 d 0).bind λc=>(idx s2 v13).bind λb=>(kP .i64 b 0).bind λa=>bif c !=a then(ke (.inl ())) else kn (i64.wrap (v13+1))) else ke (.inr v13)
def M.KR s1 s2 v12 s:=M.Gi s1 s2 v12 s (λs=>some (Sum.inl s)) λt=>some (Sum.inr t)
def M.OV s1 s2 v12 s:=gU (M.KR s1 s2 v12) s
def F.OV:LE X0 84:=le 4 (Iu [dO 0 (pL false 1),dO 1 (pL false 1),dO 12 pI,dO 13 pI] []) (λx=>x.1.va.1) (λx s=>((x.1.1,x.1.2.1,x.1.2.2.1,s,()),())) (λx=> .sum (.leaf (Unit) (λt=>(Ex.ret,⟨[(4,lW false)],[]⟩))) (.leaf (Int) (λt=>(Ex.exit 0,⟨[(0,CP 1 x.1.1),(1,CP 1 x.1.2.1),(12,iR x.1.2.2.1),(13,iR t),(14,lW false)],[]⟩)))) (λx=>M.Gi x.1.1 x.1.2.1 x.1.2.2.1) [] [] (by rintro _ _ _ _ _<;>simp only[M.Gi,nb]<;>rfl)
abbrev M.Q9(s1 s2:ak)(k:Bool->Option R):=cond ((↑s1.length:Int) !=(↑s2.length:Int)) (k false) ((M.OV s1 s2 ((↑s1.length:Int)) 0).bind λa=>jg a (λd=>k false) λb=>letE b λc=>k true)
def M.slices_Equal s1 s2:=M.Q9 s1 s2 some
def C.slices_Equal:=fTa S.slices_Equal (λx=>M.Q9 x.1.1 x.1.2.1) [] [F.OV]
abbrev M.Jv(x' kN:Int)(pR rF:aK)(qY:ak)(y y1:Int)(y2 y3:aK)(y4:ak)(k:Bool->Option R):=cond (x'==y) (cond (kN==y1) (cond (pR==y2) (cond (rF==y3) ((M.slices_Equal qY y4).bind λa=>k a) (k false)) (k false)) (k false)) (k false)
def M.y9 x' kN pR rF qY y y1 y2 y3 y4:=M.Jv x' kN pR rF qY y y1 y2 y3 y4 some
def C.y9:=fTa S.y9 (λx=>M.Jv x.1.1.1 x.1.1.2.1 x.1.1.2.2.1 x.1.1.va.1 x.1.1.va.2.1 x.1.2.1.1 x.1.2.1.2.1 x.1.2.1.2.2.1 x.1.2.1.va.1 x.1.2.1.va.2.1) [fe C.slices_Equal]
def M.yX(s2 v15:ak)(v16 s:Int)(kn:Int->Option R)(ke:(Unit)⊕(Int)->Option R):Option R:=match s with
 |v17=>bif decide (v17<v16) then((idx v15 v17).bind λc=>Hf 1 c λaQi aQj aQk aQl azE=>((idx s2 v17).bind λb=>Hf 1 b λaQm aQn aQo aQp azF=>((M.y9 aQi aQj aQk aQl azE aQm aQn aQo aQp azF).bind λa=>bif !a then(ke (.inl ())) else kn (i64.wrap (v17+1))))) else ke (.inr v17)
def M.EH s2 v15 v16 s:=M.yX s2 v15 v16 s (λs=>some (Sum.inl s)) λt=>some (Sum.inr t)
def M.G8 s2 v15 v16 s:=gU (M.EH s2 v15 v16) s
def F.G8:LE X0 82:=le 4 (Iu [dO 1 (pL false 5),dO 2 (aHR 83 [] []),dO 15 (pL false 5),dO 16 pI,dO 17 pI] []) (λx=>x.1.va.2.1) (λx s=>((x.1.1,((),()),x.1.2.2.1,x.1.va.1,s,()),())) (λx=> .sum (.leaf (Unit) (λt=>(Ex.ret,⟨[(6,lW false)],[]⟩))) (.leaf (Int) (λt=>(Ex.exit 0,⟨[(1,CP 5 x.1.1),(2,V.clo 83 [] []),(15,CP 5 x.1.2.2.1),(16,iR x.1.va.1),(17,iR t),(18,lW false)],[]⟩)))) (λx=>M.yX x.1.1 x.1.2.2.1 x.1.va.1) [fe C.y9] [] (by rintro _ _ _ _ _<;>simp only[Hf,M.yX,nb]<;>rfl)
abbrev M.Jw(s1 s2:ak)(k:Bool->Option R):=cond ((↑s1.length:Int) !=(↑s2.length:Int)) (k false) ((M.G8 s2 s1 ((↑s1.length:Int)) 0).bind λa=>jg a (λd=>k false) λb=>letE b λc=>k true)
def M.zf s1 s2:=M.Jw s1 s2 some
def C.zf:=fTa S.zf (λx=>M.Jw x.1.1 x.1.2.1) [] [F.G8]
abbrev M.OW(a b:ak)(k:Bool->Option R):=(M.zf a b).bind λc=>k c
def M.Di a b:=M.OW a b some
def C.Di:=fTa S.Di (λx=>M.OW x.1.1 x.1.2.1) [fe C.zf]
abbrev M.Jy(a b:aK)(k:Bool->Option R):=(M.Jc a).bind λc=>(M.Jc b).bind λd=>cond (cond (c.2.1==0) (cond (c.2.2==0) true false) false) (cond (cond (d.2.1==0) (cond (d.2.2==0) true false) false) ((M.uZ (au c.1)).bind λf=>cond ([[D.sl true 5 f]].all xw) ((M.uZ (au d.1)).bind λe=>cond ([[D.sl true 5 e]].all xw) ((M.Di (au f) (au e)).bind λg=>k g) none) none) (k false)) (k false)
def M.wG a b:=M.Jy a b some
def C.wG:=fTa S.wG (λx=>M.Jy x.1.1 x.1.2.1) [fe C.Jc,fe C.uZ,fe C.Di]
abbrev M.yO(aA aB:aK)(k:Bool->Option R):=cond (decide ((↑aA.length:Int)>1048576)) (k true) (cond (decide ((↑aB.length:Int)>1048576)) (k true) ((M.wE aA aB).bind λa=>(M.wG aA aB).bind λb=>cond (!b==a) (k false) (k true)))
def M.oP aA aB:=M.yO aA aB some
def C.oP:=fTa S.oP (λx=>M.yO x.1.1 x.1.2.1) [fe C.wE,fe C.wG]
end
end Go.Proofs.YtoaeipkhadpbiaaGreatDoor
