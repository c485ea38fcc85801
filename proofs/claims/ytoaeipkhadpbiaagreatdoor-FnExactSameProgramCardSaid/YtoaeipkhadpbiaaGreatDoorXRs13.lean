import Derived.Test.YtoaeipkhadpbiaaGreatDoorXRs8
set_option linter.defProp false
namespace Go.Proofs.YtoaeipkhadpbiaaGreatDoor
set_option linter.unusedVariables false
set_option linter.unusedSimpArgs false
open Go Go.Vm
open Go.IntKind (i64)
variable {l:List Tk}
def BB(l:List Tk)(i:Nat)(ns:List Tk)(b:Nat)(o:Option TY):Prop:=∃fl rows ns' R,o=some (fl,rows,ay l,(i:Int),true,ay ns')/\au rows=aU false R/\R.length+ns'.length<=ns.length+b/\K1 R/\ns'.length<=ns.length
def BB.as{i i0 n0 b:Nat}{ns:List Tk}{o:Option TY}(h:BB l i ns b o)(h1:i0<=i)(h2:i<=l.length)(h3:ns.length<=l.length)(h4:ns.length+b<=9 * (i - i0)+n0+l.length+4):AS l i0 n0 o (.bad i):=by obtain⟨fl,rows,ns',R,rfl,g1,g2,g3,g4⟩:=h;exact AS.fO h1 h2 aC g1 aC g3
def BB.elim{β:Type}{i b:Nat}{ns:List Tk}{o:Option TY}(h:BB l i ns b o){f:TY->Option β}{Q:Option β->Prop}
  (hb:∀fl rows ns' R,au rows=aU false R->R.length+ns'.length<=ns.length+b->K1 R->ns'.length<=ns.length->Q (f (fl,rows,ay l,(i:Int),true,ay ns'))):Q (o.bind f):=by
 obtain⟨fl,rows,ns',R,rfl,g1,g2,g3,g4⟩:=h;exact hb fl rows ns' R g1 g2 g3 g4
def aXG(A B C E:List Nd):au [[D.sl false 5 (aU false A)],[D.sl false 5 (aU false B)],[D.sl false 5 (aU false C)],[D.sl false 5 (aU false E)]]=uy [A,B,C,E]:=Df [A,B,C,E]
def fin1(k op:Int)(x y:aK){A:List Nd}(hA:K1 A)(h:A.length<=80000):∃R',M.eF k op x y [] (au [[D.sl false 5 (aU false A)]])=some (false,aU false R')/\R'.length<=A.length+1/\K1 R':=by obtain⟨R',e1,_,e2,e3⟩:=acp k op x y [A] (b:=A.length) (by simp only[lens];omega) aC (by simp) (KB.cons hA KB.nil);exact⟨R',by rw[aii];exact e1,e2,e3⟩
def fin2(k op:Int)(x y:aK){A B:List Nd}(hA:K1 A)(hB:K1 B)(h:A.length+B.length<=80000):∃R',M.eF k op x y [] (au [[D.sl false 5 (aU false A)],[D.sl false 5 (aU false B)]])=some (false,aU false R')/\R'.length<=A.length+B.length+1/\K1 R':=by obtain⟨R',e1,_,e2,e3⟩:=acp k op x y [A,B] (b:=A.length+B.length) (by simp only[lens];omega) aC (by simp) (KB.cons hA (KB.cons hB KB.nil));exact⟨R',by rw[asQ];exact e1,e2,e3⟩
def aXH(k op:Int)(x y:aK){A B C E:List Nd}(hA:K1 A)(hB:K1 B)(hC:K1 C)(hE:K1 E)(h:A.length+B.length+C.length+E.length<=80000):
  ∃R',M.eF k op x y [] (au [[D.sl false 5 (aU false A)],[D.sl false 5 (aU false B)],[D.sl false 5 (aU false C)],[D.sl false 5 (aU false E)]])=some (false,aU false R')/\R'.length<=A.length+B.length+C.length+E.length+1/\K1 R':=by
 obtain⟨R',e1,_,e2,e3⟩:=acp k op x y [A,B,C,E] (b:=A.length+B.length+C.length+E.length) (by simp only[lens];omega) aC (by simp) (KB.cons hA (KB.cons hB (KB.cons hC (KB.cons hE KB.nil))));exact⟨R',by rw[aXG];exact e1,e2,e3⟩
def K1.tree(t:Tn)(h:t.size<=100000):K1 (t.flat 0):=Yp t h
def aDo(m:Nat)(i:Nat)(ns:List Tk):BB l i ns 1 (M.rQ (m+1) (ay l) (i:Int) true (ay ns)):=by rw[M.aap];simp only[M.Ea,aJ,bg];exact⟨_,_,ns,(Tn.mk 22 0 [] [] []).flat 0,rfl,OX 22 [],by rw[Tn.flat_length,Xf];omega,K1.tree _ (by rw[Xf];omega),zaU _⟩
def abM(ns:List Tk):au (au (RF ns))=parts (EU (txt ns)):=by rw[abL,NV]
def Xi(ns:List Tk):(EU (txt ns)).length=ns.length:=by rw[ED,zaV]
def Iq(ns:List Tk):sizes (EU (txt ns))=ns.length:=by rw[abW,zaV]
def akR(m:Nat)(i:Nat)(ns:List Tk)(hn:ns.length<=3000):BB l i ns 1 (M.vG (m+1) (ay l) (i:Int) true (ay ns)):=by
 have hb:M.vV (M.rQ m) (ay l,(i:Int),true,[],ay ns)=some (.inr (ay l,(i:Int),true,parts (EU (txt ns)),ay [])):=by simp only[EY,M.vV,M.zy,bg,aJ,aon,aj,Vp (l:=l) _ _ ns aC,abM,List.nil_append,zln,rD,Xi];rw[bC aC,aJ,bC aC,aJ]
 have hmk:=EI 33 0 [] [] [] (EU (txt ns)) (by rw[Iq];omega);rw[M.Zc];simp only[M.BO,bg,aJ,lN,aj];rw[M.zA,aO hb];simp only[aj,bg,aJ,lN,NV,hmk,aV];exact⟨_,_,[],_,rfl,aV _ _,by rw[Tn.flat_length,Uy,Iq];simp,K1.tree _ (by rw[Uy,Iq];omega),by simp⟩
def aoo(m:Nat)(i:Nat)(ns:List Tk)(hn:ns.length<=3000):BB l i ns 2 (M.qC (m+2) (ay l) (i:Int) true (ay ns)):=by
 have hmk:=EI 33 0 [] [] [] (EU (txt ns)) (by rw[Iq];omega);rw[M.aao];simp only[EY,M.D7,bg,aJ,Md,aj,iy,lN,Vp (l:=l) _ _ ns aC,aG2];cases bG l i==30 with
 |true=>
  simp only[aJ];refine(akR m i ns hn).elim (Q:=BB l i ns 2) λfl rows ns' R g1 g2 g3 g4=> ?_
  simp only[bg,aJ];exact⟨_,_,ns',R,rfl,fzN g1,aC,g3,g4⟩
 |false=>
  cases bG l i==37 with
  |true=>simp only[aJ,aX,abL,hmk,aj,aV];exact⟨_,_,[],_,rfl,aV _ _,by rw[Tn.flat_length,Uy,Iq];simp,K1.tree _ (by rw[Uy,Iq];omega),by simp⟩
  |false=>
   simp only[aX];refine(aDo m i ([]:List Tk)).elim (Q:=BB l i ns 2) λfl rows ns' R g1 g2 g3 g4=> ?_
   obtain⟨R',_,e1,e2,e3⟩:=acp 33 0 [] [] (((EU (txt ns)).map λt=>t.flat 0)++[R]) (b:=ns.length+R.length) (by rw[yZ,pq,Iq,lens,lens];omega) (by simp at g2;omega) (by rw[DJ,zaV,Bd,Xi];omega) (KB.trees _ (by rw[Iq];omega) (KB.cons g3 KB.nil));simp only[agT,Bd];rw[bC aC,aJ,bC aC,aJ,SS,abL,show au [[D.sl false 5 (au rows)]]=uy [R] by rw[g1];exact aii R,yC,show uy ((EU (txt ns)).map λt=>t.flat 0)++uy [R]=uy (((EU (txt ns)).map λt=>t.flat 0)++[R]) by simp[uy],e1];simp only[aj,bg,aJ,aV];simp only[zln,Nat.zero_add] at g2 g4;exact⟨_,_,ns',R',rfl,aV _ _,aC,e3,aC⟩
noncomputable def aq2(body:ak->Int->Bool->ak->Option TY)(ra rb rc:ak)(c:ak)(c1:Int)(c2:Bool)(c3:ak):Option TY:=
 (bif ah c3 then
 ((M.aI 33 c c1 c2 c3).bind λVW=>
 (bif ah VW.2.2.2.2.2.2 then
 ((body VW.2.2.2.1 VW.2.2.2.2.1 VW.2.2.2.2.2.1 VW.2.2.2.2.2.2).bind λSr=>
 ((M.eF 31 0 [] [] [] (au [[D.sl false 5 (au ra)],[D.sl false 5 (au rb)],[D.sl false 5 (au rc)],[D.sl false 5 (au Sr.2.1)]])).bind λasy=>
 (bif ah Sr.2.2.2.2.2 then
 (some ((false,au asy.2,Sr.2.2.1,Sr.2.2.2.1,Sr.2.2.2.2.1,Sr.2.2.2.2.2))) else none))) else none)) else none)
noncomputable def aop(body:ak->Int->Bool->ak->Option TY)(ra rb:ak)(c:ak)(c1:Int)(c2:Bool)(c3:ak):Option TY:=
 (bif ah c3 then
 ((M.aI 37 c c1 c2 c3).bind λaai=>
 (bif ah aai.2.2.2.2.2.2 then
 ((M.bZ aai.2.2.2.1 aai.2.2.2.2.1 aai.2.2.2.2.2.1 aai.2.2.2.2.2.2).bind λaaj=>
 (M.jH.bind λaak=>
 (bif ah aaj.2.2.2 then
 ((M.nI 33 aak.1 aak.2.1 aak.2.2.1 aak.2.2.2.1 aak.2.2.2.2 aaj.1 aaj.2.1 aaj.2.2.1 aaj.2.2.2).bind λX6=>
 (bif ah X6.2.2.2.2.2 then
 ((M.aI 33 X6.2.2.1 X6.2.2.2.1 X6.2.2.2.2.1 X6.2.2.2.2.2).bind λVW=>
 (bif ah VW.2.2.2.2.2.2 then
 ((body VW.2.2.2.1 VW.2.2.2.2.1 VW.2.2.2.2.2.1 VW.2.2.2.2.2.2).bind λSr=>
 ((M.eF 31 0 [] [] [] (au [[D.sl false 5 (au ra)],[D.sl false 5 (au rb)],[D.sl false 5 (au X6.2.1)],[D.sl false 5 (au Sr.2.1)]])).bind λasy=>
 (bif ah Sr.2.2.2.2.2 then
 (some ((false,au asy.2,Sr.2.2.1,Sr.2.2.2.1,Sr.2.2.2.2.1,Sr.2.2.2.2.2))) else none))) else none)) else none)) else none))) else none)) else none)
noncomputable def forA(body:ak->Int->Bool->ak->Option TY)(ra:ak)(c:ak)(c1:Int)(c2:Bool)(c3:ak):Option TY:=
 (bif ah c3 then
 ((M.aI 37 c c1 c2 c3).bind λaj8=>
 (bif ah aj8.2.2.2.2.2.2 then
 ((M.bZ aj8.2.2.2.1 aj8.2.2.2.2.1 aj8.2.2.2.2.2.1 aj8.2.2.2.2.2.2).bind λaj9=>
 (M.jH.bind λakb=>
 (bif ah aj9.2.2.2 then
 ((M.nI 37 akb.1 akb.2.1 akb.2.2.1 akb.2.2.2.1 akb.2.2.2.2 aj9.1 aj9.2.1 aj9.2.2.1 aj9.2.2.2).bind λagA=>
 (bif ah agA.2.2.2.2.2 then
 ((M.aI 37 agA.2.2.1 agA.2.2.2.1 agA.2.2.2.2.1 agA.2.2.2.2.2).bind λaai=>
 (bif ah aai.2.2.2.2.2.2 then
 ((M.bZ aai.2.2.2.1 aai.2.2.2.2.1 aai.2.2.2.2.2.1 aai.2.2.2.2.2.2).bind λaaj=>
 (M.jH.bind λaak=>
 (bif ah aaj.2.2.2 then
 ((M.nI 33 aak.1 aak.2.1 aak.2.2.1 aak.2.2.2.1 aak.2.2.2.2 aaj.1 aaj.2.1 aaj.2.2.1 aaj.2.2.2).bind λX6=>
 (bif ah X6.2.2.2.2.2 then
 ((M.aI 33 X6.2.2.1 X6.2.2.2.1 X6.2.2.2.2.1 X6.2.2.2.2.2).bind λVW=>
 (bif ah VW.2.2.2.2.2.2 then
 ((body VW.2.2.2.1 VW.2.2.2.2.1 VW.2.2.2.2.2.1 VW.2.2.2.2.2.2).bind λSr=>
 ((M.eF 31 0 [] [] [] (au [[D.sl false 5 (au ra)],[D.sl false 5 (au agA.2.1)],[D.sl false 5 (au X6.2.1)],[D.sl false 5 (au Sr.2.1)]])).bind λasy=>
 (bif ah Sr.2.2.2.2.2 then
 (some ((false,au asy.2,Sr.2.2.1,Sr.2.2.2.1,Sr.2.2.2.2.1,Sr.2.2.2.2.2))) else none))) else none)) else none)) else none))) else none)) else none)) else none))) else none)) else none)
section
variable {body:ak->Int->Bool->ak->Option TY} (hbb:∀i (ns:List Tk),ns.length<=3000->BB l i ns 2 (body (ay l) (i:Int) true (ay ns)))
include hbb
theorem asY{ra rb rc:ak}{A B C:List Nd}(hA:au ra=aU false A)(hB:au rb=aU false B)(hC:au rc=aU false C)(kA:K1 A)(kB:K1 B)(kC:K1 C)(hs:A.length+B.length+C.length<=70000){i:Nat}{ns:List Tk}(hn:ns.length<=3000):
  BB l i ns (A.length+B.length+C.length+3) (aq2 body ra rb rc (ay l) (i:Int) true (ay ns)):=by
 simp only[aq2,bg,aJ,lN,aj];refine(hbb i ns hn).elim (Q:=BB l i ns (A.length+B.length+C.length+3)) λfl rows ns' R g1 g2 g3 g4=> ?_
 obtain⟨R',e1,e2,e3⟩:=aXH 31 0 [] [] kA kB kC g3 aC;simp only[hA,hB,hC,g1,e1,aj,bg,aJ,aV];exact⟨_,_,ns',R',rfl,aV _ _,aC,e3,g4⟩
theorem asZ{ra rb:ak}{A B:List Nd}(hA:au ra=aU false A)(hB:au rb=aU false B)(kA:K1 A)(kB:K1 B)(hs:A.length+B.length<=69000){i:Nat}{ns:List Tk}(hn:ns.length<=3000):
  BB l i ns (A.length+B.length+4) (aop body ra rb (ay l) (i:Int) true (ay ns)):=by
 simp only[aop,bg,aJ,lN,aj,Md,M.jH,M.tY];obtain⟨fl,rc,C,e1,e2,e3,e4⟩:=asV (l:=l) 33 1 false false false false i ns;rw[e1];simp only[aj,bg,aJ];have hC:=asY hbb hA hB e2 kA kB e4 aC (i:=i) hn;simp only[aq2,bg,aJ] at hC;obtain⟨fl',rows,ns',R,h1,h2,h3,h4,h5⟩:=hC;exact⟨fl',rows,ns',R,h1,h2,aC,h4,h5⟩
theorem as1{ra:ak}{A:List Nd}(hA:au ra=aU false A)(kA:K1 A)(hs:A.length<=68000){i:Nat}{ns:List Tk}(hn:ns.length<=3000):
  BB l i ns (A.length+5) (forA body ra (ay l) (i:Int) true (ay ns)):=by
 simp only[forA,bg,aJ,lN,aj,Md,M.jH,M.tY];obtain⟨fl,rb,B,e1,e2,e3,e4⟩:=asV (l:=l) 37 1 false false false false i ns;rw[e1];simp only[aj,bg,aJ];have hC:=asZ hbb hA e2 kA e4 aC (i:=i) hn;simp only[aop,bg,aJ] at hC;obtain⟨fl',rows,ns',R,h1,h2,h3,h4,h5⟩:=hC;exact⟨fl',rows,ns',R,h1,h2,aC,h4,h5⟩
end
section
variable {n m:Nat} (hl:l.length<=3000) {body:ak->Int->Bool->ak->Option TY}
 (hbb:∀i (ns:List Tk),ns.length<=3000->BB l i ns 2 (body (ay l) (i:Int) true (ay ns)))
 (hbo:∀i (ns:List Tk),i<=l.length->ns.length<=i->AS l i (ns.length+1) (body (ay l) (i:Int) false (ay ns)) (Bc l n i (txt ns)))
include hl hbb hbo
omit hbb hbo in
theorem auo{i:Nat}{nt:gW}(hi:i<=l.length)(hn:nt.length<=i):(Bc l n i nt).sat λx j m=>x.size<=30000:=bK ((RD l n).body i nt hi) λx j m h=>by omega
theorem aG4{ra rb rc:ak}{x y z:Tn}(hA:au ra=aU false (x.flat 0))(hB:au rb=aU false (y.flat 0))(hC:au rc=aU false (z.flat 0)){i i0 n0:Nat}{ns:List Tk}(h0:i0<=i)(hi:i<=l.length)(hn:ns.length<=i)
  (hs:x.size+y.size+z.size+9 * i0+ns.length<=9 * i+n0+1) (h3:x.size+y.size+z.size<=30000):
  AS l i0 n0 (aq2 body ra rb rc (ay l) (i:Int) false (ay ns)) ((jD l 33 i (txt ns)).bind λ_ i nt=>(Bc l n i nt).bind λw i nt=> .ok (.mk 31 0 [] [] [x,y,z,w]) i nt):=by
 simp only[aq2,bg,aJ];rw[jD];cases hc:bG l i==33 with
 |false=>have hb:=asY hbb hA hB hC (K1.tree x aC) (K1.tree y aC) (K1.tree z aC) (by simp only[Tn.flat_length];omega) (i:=i) (ns:=ns) aC;simp only[Tn.flat_length] at hb;simp only[aq2,bg,aJ,lN] at hb;simp only[wS hc,aX];exact hb.as aC hi aC aC
 |true=>
  have hlt:=dI hc (by decide);have e:bG l i=33:=by rwa [beq_iff_eq] at hc
  simp only[fM hl e (by decide),aj,bg,aJ,PR.bind,hA,hB,hC];exact abY hl [x,y,z] (hbo (i+1) ns aC aC) aC aC (by simp only[sizes];omega) (by simp only[sizes];omega) (auo hl aC (by rw[zaV];omega))
theorem aG5{ra rb:ak}{x y:Tn}(hA:au ra=aU false (x.flat 0))(hB:au rb=aU false (y.flat 0)){i i0 n0:Nat}{ns:List Tk}(h0:i0<i)(hi:i<=l.length)(hn:ns.length<=i)
  (hs:x.size+y.size+9 * i0+ns.length+6<=9 * i+n0) (h3:x.size+y.size<=20000):
  AS l i0 n0 (aop body ra rb (ay l) (i:Int) false (ay ns)) ((jD l 37 i (txt ns)).bind λ_ i nt=>(JB l n 33 false (nl l i nt).1 (nl l i nt).2).bind λz i nt=>(jD l 33 i nt).bind λ_ i nt=>(Bc l n i nt).bind λw i nt=> .ok (.mk 31 0 [] [] [x,y,z,w]) i nt):=by
 rw[jD];cases hc:bG l i==37 with
 |false=>have hb:=asZ hbb hA hB (K1.tree x aC) (K1.tree y aC) (by simp only[Tn.flat_length];omega) (i:=i) (ns:=ns) aC;simp only[Tn.flat_length] at hb;simp only[aop,bg,aJ,lN] at hb;simp only[aop,bg,aJ,wS hc,aX];exact hb.as aC hi aC aC
 |true=>
  have hlt:=dI hc (by decide);have e:bG l i=37:=by rwa [beq_iff_eq] at hc
  obtain⟨U5,t1,hln⟩:=KU hl (i+1) ns aC aC;have hf:=EC (l:=l) (i:=i+1) (nt:=txt ns) aC;simp only[aop,bg,aJ,fM hl e (by decide),aj,hln,M.jH,M.tY,PR.bind];rw[<-t1] at hf|-;simp only[zaV] at hf;refine AS.elim (Q:=AS l i0 n0) (asW hl n 33 false aC aC) (λ_=>trivial) (λfl rc j NG R g1 g2 g3 g4 g5 g6=> ?_) (λz fl rc j NG hz ez=> ?_)
  ·have hb:=asY hbb hA hB g4 (K1.tree x aC) (K1.tree y aC) g6 (by simp only[Tn.flat_length];omega) (i:=j) (ns:=NG) aC;simp only[Tn.flat_length,aq2,bg,aJ] at hb;simp only[bg,aJ];exact hb.as aC g2 g3 aC
  ·have s2:=iM (Ri aC) ez;simp only[zaV] at s2;have hh:=aG4 hl hbb hbo hA hB hz (i:=j) (i0:=i0) (n0:=n0) (ns:=NG) aC aC aC aC aC;simp only[aq2,bg,aJ] at hh;simp only[bg,aJ];exact hh
theorem aG6{ra:ak}{x:Tn}(hA:au ra=aU false (x.flat 0)){i i0 n0:Nat}{ns:List Tk}(h0:i0<i)(hi:i<=l.length)(hn:ns.length<=i)
  (hs:x.size+9 * i0+ns.length+6<=9 * i+n0) (h3:x.size<=10000):
  AS l i0 n0 (forA body ra (ay l) (i:Int) false (ay ns)) ((jD l 37 i (txt ns)).bind λ_ i nt=>(JB l n 37 false (nl l i nt).1 (nl l i nt).2).bind λy i nt=>(jD l 37 i nt).bind λ_ i nt=>(JB l n 33 false (nl l i nt).1 (nl l i nt).2).bind λz i nt=>(jD l 33 i nt).bind λ_ i nt=>(Bc l n i nt).bind λw i nt=> .ok (.mk 31 0 [] [] [x,y,z,w]) i nt):=by
 rw[jD];cases hc:bG l i==37 with
 |false=>have hb:=as1 hbb hA (K1.tree x aC) (by simp only[Tn.flat_length];omega) (i:=i) (ns:=ns) aC;simp only[Tn.flat_length] at hb;simp only[forA,bg,aJ,lN] at hb;simp only[forA,bg,aJ,wS hc,aX];exact hb.as aC hi aC aC
 |true=>
  have hlt:=dI hc (by decide);have e:bG l i=37:=by rwa [beq_iff_eq] at hc
  obtain⟨U5,t1,hln⟩:=KU hl (i+1) ns aC aC;have hf:=EC (l:=l) (i:=i+1) (nt:=txt ns) aC;simp only[forA,bg,aJ,fM hl e (by decide),aj,hln,M.jH,M.tY,PR.bind];rw[<-t1] at hf|-;simp only[zaV] at hf;refine AS.elim (Q:=AS l i0 n0) (asW hl n 37 false aC aC) (λ_=>trivial) (λfl rc j NG R g1 g2 g3 g4 g5 g6=> ?_) (λz fl rc j NG hz ez=> ?_)
  ·have hb:=asZ hbb hA g4 (K1.tree x aC) g6 (by simp only[Tn.flat_length];omega) (i:=j) (ns:=NG) aC;simp only[Tn.flat_length,aop,bg,aJ] at hb;simp only[bg,aJ];exact hb.as aC g2 g3 aC
  ·have s2:=iM (Ri aC) ez;simp only[zaV] at s2;have hh:=aG5 hl hbb hbo hA hz (i:=j) (i0:=i0) (n0:=n0) (ns:=NG) aC aC aC aC aC;simp only[aop,bg,aJ] at hh;simp only[bg,aJ];exact hh
theorem aRu{i i0 n0:Nat}{ns:List Tk}(h0:i0+1<=i)(hi:i<=l.length)(hn:ns.length<=i)(hs:9 * i0+ns.length+9<=9 * i+n0):
  AS l i0 n0 ((M.nI 37 1 false true false false (ay l) (i:Int) false (ay ns)).bind λr=>forA body r.2.1 r.2.2.1 r.2.2.2.1 r.2.2.2.2.1 r.2.2.2.2.2) (aAp l n i (txt ns)):=by
 rw[aAp];refine AS.elim (Q:=AS l i0 n0) (asW hl n 37 true hi hn) (λ_=>trivial) (λfl rc j NG R g1 g2 g3 g4 g5 g6=> ?_) (λz fl rc j NG hz ez=> ?_)
 ·exact(as1 hbb g4 g6 aC (i:=j) (ns:=NG) aC).as aC g2 g3 aC
 ·have s2:=iM (Ri hi) ez;simp only[zaV] at s2;exact aG6 hl hbb hbo hz aC aC aC aC aC
end
variable {l:List Tk}
abbrev B1:=ak×Int×Bool×Int×Int×aK×aK×Int×Int×aK×aK×ak
abbrev B2:=ak×Int×Bool×Int×Int×aK×aK×Int×Int×aK×aK×ak×ak
def b1(l:List Tk)(i:Nat)(b:Bool)(nt:gW):B1:=(ay l,(i:Int),b,0,0,[],[],33,0,[],[],encS nt)
def b2(l:List Tk)(i:Nat)(b:Bool)(nt:gW)(rows:ak):B2:=(ay l,(i:Int),b,0,0,[],[],33,0,[],[],encS nt,rows)
def as2(hl:l.length<=1048576){k:Int}(hk:k≠0){i:Nat}{nt:gW}(h:bG l i=k):M.aS k (ay l) (i:Int) false (encS nt)=some (true,ay l,((i+1:Nat):Int),false,encS nt):=by
 have hlt:i<l.length:=eP (by rw[h];exact hk);have e:(bG l i==k)=true:=by rw[h];exact BEq.rfl
 simp only[M.aS,M.vW,dY,aJ,aX,fG,aj,bne,e,zaT,pX hl hlt]
def AB(l:List Tk)(o:Option (B1⊕B2)):PR (List Tn)->Prop
 | .ok L' j ZG=>∃L0 i0 nt0 u,o=some u/\(u=.inl (b1 l i0 false nt0)/\L0=[]\/u=.inr (b2 l i0 false nt0 (dN false L0)))/\L'=L0++EU nt0/\j=i0+1/\ZG=[]/\bG l i0=31/\nt0.length<=i0/\L0.length<=2 * l.length
 | .bad j=>∃u nt0,o=some u/\nt0.length<=l.length/\(u=.inl (b1 l j true nt0)\/∃rows:ak,rows.length<=4 * l.length+4/\u=.inr (b2 l j true nt0 rows))
 | .out=>True
def aAw(hl:l.length<=1048576){i:Nat}{nt:gW}(h:bG l i=0)(hi:i<=l.length)(hn:nt.length<=i):AT l (M.nS (ay l) (i:Int) false (encS nt)) (.bad i):=by
 have e:ex l 20 1 false false i nt=.bad i:=auj (.inl h) nt 1 (by decide) (by decide) 20 false false (by decide);have ha:=akN hl 20 false false hi hn;rw[e] at ha;have hz:∀k:Int,k≠0->(bG l i==k)=false:=λk h0=>by rw[Y6,h];exact λe=>h0 e.symm
 simp only[M.nS,M.AU,M.yQ,M.yR,M.yS,M.yT,M.yU,M.yV,dY,aJ,fG,aj,hz 25 (by decide),hz 26 (by decide),hz 20 (by decide),hz 18 (by decide),hz 19 (by decide),hz 21 (by decide),hz 22 (by decide),hz 23 (by decide),aX];refine AP.EN (R:=λo=>AT l o (.bad i)) ha λk op x y fl ks tg nt hn=> ?_
 simp only[dY,aJ];exact AT.fO hn
def aDp(hl:l.length<=1048576)(m:Nat){i:Nat}{nt:gW}(h:bG l i=0)(hi:i<=l.length)(hn:nt.length<=i):AT l (M.kE (m+1) (ay l) (i:Int) false (encS nt)) (.bad i):=by
 have hz:∀k:Int,k≠0->(bG l i==k)=false:=λk h0=>by rw[Y6,h];exact λe=>h0 e.symm
 rw[M.Py];simp only[M.oZ,M.nU,dY,aJ,fG,aj,hz 30 (by decide),hz 13 (by decide),hz 15 (by decide),hz 17 (by decide),hz 16 (by decide),aX];refine AT.EN (R:=λo=>AT l o (.bad i)) (aAw hl h hi hn) λk op x y fl ks nt hn=> ?_
 simp only[zaT,aX,dY,aJ];exact AT.fO hn
def aq3(hl:l.length<=1048576){f:ak->Int->Bool->ak->Option TT}(hf0:∀i,bG l i=0->i<=l.length->AT l (f (ay l) (i:Int) false (encS [])) (.bad i)):
  ∀n,(∀n',n'<n->∀i nt,i<=l.length->nt.length<=i->AT l (f (ay l) (i:Int) false (encS nt)) (stP l n' i nt))->
   ∀(L:List Tn) (i:Nat) (nt:gW) (s:B1⊕B2),(s=.inl (b1 l (sep l i nt).1 false (sep l i nt).2)/\L=[]\/s=.inr (b2 l (sep l i nt).1 false (sep l i nt).2 (dN false L)))->i<=l.length->nt.length<=i->L.length+nt.length<=2 * i->
   AB l (M.rY f s) (Wy l n L i nt)
 |0,_,_,_,_,_,_,_,_,_=>by rw[Wy];trivial
 |n+1,hst,L,i,nt,s,hs,hi,hn,hL=>by
  have hq:=SK (l:=l) (i:=i) (nt:=nt) hi;simp only[Wy];generalize hqe:sep l i nt=q at hs hq|-;rw[M.rY];cases h31:bG l q.1==31 with
  |true=>
   have hlt:=dI h31 (by decide);have e31:bG l q.1=31:=by rwa [beq_iff_eq] at h31
   refine⟨L,q.1,q.2,s, ?_,hs,rfl,rfl,rfl,e31,aC,aC⟩;rcases hs with⟨rfl,rfl⟩|rfl<;>refine aO ?_<;>
    simp only[EY,M.tJ,M.tH,b1,b2,Bool.not_false,aJ,dY,fG,aj,bne,h31,zaT,aX]
  |false=>
   have hb:M.tJ f s=(f (ay l) (q.1:Int) false (encS [])).bind λr=>
     bif(((dN false (L++EU q.2)).length+[[D.int .i64 r.1,D.int .i64 r.2.1,D.str r.2.2.1,D.str r.2.2.2.1,D.sl false 5 (au r.2.2.2.2.2.1)]].length) * 72).ble 140737488355328 then
      (bif((dN false (L++EU q.2)).length+[[D.int .i64 r.1,D.int .i64 r.2.1,D.str r.2.2.1,D.str r.2.2.2.1,D.sl false 5 (au r.2.2.2.2.2.1)]].length).ble 140737488355328 then
      (bif ah r.2.2.2.2.2.2.2.2.2 then
       ((M.dh r.2.2.2.2.2.2.1 r.2.2.2.2.2.2.2.1 r.2.2.2.2.2.2.2.2.1 r.2.2.2.2.2.2.2.2.2).bind λr'=>
       (some (.inl (.inr ((r'.1,r'.2.1,r'.2.2.1,0,0,[],[],33,0,[],[],r'.2.2.2,dN false (L++EU q.2)++[[D.int .i64 r.1,D.int .i64 r.2.1,D.str r.2.2.1,D.str r.2.2.2.1,D.sl false 5 (au r.2.2.2.2.2.1)]]):B2))))) else none) else none) else none:=by
    have hc:=EF (l:=l) (q.1:Int) false q.2 aC;have hlen:(L.length+q.2.length) * 72<=140737488355328:=aC;rcases hs with⟨rfl,rfl⟩|rfl
    ·simp only[EY,M.tJ,M.tH,b1,Bool.not_false,aJ,dY,fG,aj,bne,h31,hc,jf,List.nil_append];rw[show(dN false (EU q.2)).length=q.2.length by rw[dR,ED],bC aC,aJ,bC aC,aJ]
    ·simp only[EY,M.tJ,M.tH,b2,Bool.not_false,aJ,dY,fG,aj,bne,h31,hc,jf,<-Aa];rw[show(dN false L).length+(dN false (EU q.2)).length=L.length+q.2.length by rw[dR,dR,ED],bC aC,aJ,bC aC,aJ]
   rw[aX];have hbad:∀{j:Nat},AT l (f (ay l) (q.1:Int) false (encS [])) (.bad j)->AB l (gU (M.tJ f) s) (.bad j):=by intro j hj;obtain⟨k,op,x,y,fl,ks,ZG,h1,h2⟩:=hj;rw[h2,aj] at hb;simp only[dR,DJ,ED,Bd,dY,aJ,akL,aj] at hb;rw[bC aC,aJ,bC aC,aJ] at hb;rw[aZ hb];refine⟨_,ZG,aO rfl,h1,.inr ⟨_, ?_,rfl⟩⟩;simp only[DJ,dR,ED,Bd];omega
   cases h0:bG l q.1==0 with
   |true=>
    have e0:bG l q.1=0:=by rwa [beq_iff_eq] at h0
    exact hbad (hf0 q.1 e0 aC)
   |false=>
    rw[aX];have hr:=hst n (Nat.lt_succ_self n) q.1 [] aC (Nat.zero_le _);have CJ:=(RD l n).st q.1 [] aC;generalize stP l n q.1 []=p at hr CJ|-;cases p with
    |out=>trivial
    |bad j=>exact hbad hr
    |ok x j m'=>obtain⟨fl,kt,h1,h2⟩:=hr;have aAx:FS l q.1 ([]:gW).length x.size j m'.length:=CJ;rw[zln] at aAx;rw[h2,aj] at hb;simp only[afQ h1,dR,DJ,ED,Bd,dY,aJ,am4 hl j m' aC aC,aj] at hb;rw[bC aC,aJ,bC aC,aJ] at hb;rw[aZ hb];refine aq3 hl hf0 n (λn' h=>hst n' aC) ((L++EU q.2)++[x]) j m' _ (.inr rfl) aC aC ?_;simp only[DJ,ED,Bd];omega
section
variable {n m:Nat} (hl:l.length<=1048576) (H:∀n',n'<=n->∀m',3 * n'+10<=m'->RS l n' m') (hm:3 * (n+1)+10<=m+1)
include hl H hm
theorem aG7(i:Nat)(nt:gW)(hi:i<=l.length)(hn:nt.length<=i):AT l (M.oK (m+1) (ay l) (i:Int) false (encS nt)) (JZ l (n+1) i nt):=by
 obtain⟨m2,rfl⟩:∃m2,m=m2+1:=⟨m - 1,aC⟩
 rw[M.UZ,JZ];simp only[M.uj,dY,aJ];refine NU (R:=AT l) hl (by decide) ?_ (λ_ hlt=> ?_)
 ·simp only[dY,aJ,akL,aj];rw[show M.rY _ _=_ from aO rfl];simp only[aj,jg,dY,aJ,wV,EF (l:=l) _ _ nt aC,jf,dR,ED];rw[bC aC,aJ,bC aC,aJ];exact AT.fO (Nat.zero_le _)
 ·simp only[dY,aJ,am4 hl (i+1) nt aC aC,aj];have hloop:=aq3 hl (f:=M.kE (m2+1)) (λi h0 hi=>aDp hl m2 h0 hi (Nat.zero_le _)) n (λn' h i nt hi hn=>(H n' aC (m2+1) aC).st i nt hi hn) [] (i+1) nt (.inl (b1 l (sep l (i+1) nt).1 false (sep l (i+1) nt).2)) (.inl ⟨rfl,rfl⟩) aC aC (by rw[zln];omega);generalize Wy l n [] (i+1) nt=p at hloop|-;rw[b1] at hloop;cases p with
  |out=>trivial
  |bad j=>
   obtain⟨u,nt0,h1,h2,h3⟩:=hloop;rw[h1,aj];rcases h3 with rfl|⟨rows,h4,rfl⟩
   ·simp only[b1,jg,dY,aJ,wV,aj,EF (l:=l) _ _ nt0 aC,jf,dR,ED];rw[bC aC,aJ,bC aC,aJ];exact AT.fO (Nat.zero_le _)
   ·simp only[b2,jg,letE,dY,aJ,wV,aj,EF (l:=l) _ _ nt0 aC,jf,dR,ED];rw[bC aC,aJ,bC aC,aJ];exact AT.fO (Nat.zero_le _)
  |ok L' j ZG=>
   obtain⟨L0,i0,nt0,u,h1,h2,rfl,rfl,rfl,h31,h4,h5⟩:=hloop;have hlt0:i0<l.length:=eP (by rw[h31];decide);rw[h1,aj];rcases h2 with⟨rfl,rfl⟩|rfl
   ·simp only[b1,jg,dY,aJ,as2 hl (by decide) h31,aj,EF (l:=l) _ _ nt0 aC,jf,dR,ED];rw[bC aC,aJ,bC aC,aJ];exact AT.mk rfl rfl rfl rfl (jf _ _)
   ·simp only[b2,jg,letE,dY,aJ,as2 hl (by decide) h31,aj,EF (l:=l) _ _ nt0 aC,jf,dR,ED,<-Aa];rw[bC aC,aJ,bC aC,aJ];exact AT.mk rfl rfl rfl rfl (jf _ _)
theorem aRv(i:Nat)(nt:gW)(hi:i<=l.length)(hn:nt.length<=i):AT l (M.kE (m+1) (ay l) (i:Int) false (encS nt)) (stP l (n+1) i nt):=by
 have h:=H n (zaU _) m aC;have hbr:=awr hl H hm;have hlp:=aDm hl H hm;obtain⟨m2,rfl⟩:∃m2,m=m2+1:=⟨m - 1,aC⟩
 rw[M.Py];simp only[M.oZ,M.nU,dY,aJ,fG,aj,stP];cases h30:bG l i==30 with
 |true=>simp only[aJ];exact AT.pass (h.blk i nt hi hn) (by intros;simp only[dY,aJ])
 |false=>
 cases h13:bG l i==13 with
 |true=>have hlt:=dI h13 (by decide);simp only[aJ,aX,pX hl hlt];exact AT.pass (hbr (i+1) nt aC aC) (by intros;simp only[dY,aJ])
 |false=>
 cases h15:bG l i==15 with
 |true=>
  have hlt:=dI h15 (by decide);simp only[aJ,aX,pX hl hlt];refine AT.elim (R:=AT l) (asO hl n aC aC) (λ_=>trivial) (λk op x y fl ks j nt hn=> ?_) (λx fx kx j nt hx ex=> ?_)
  ·simp only[dY,aJ];refine AT.EN (R:=λo=>AT l o (.bad j)) (Wq m2 hn) λk op x y fl ks nt hn=> ?_
   simp only[dY,aJ];exact AT.fO hn
  ·have s1:=iM (Ua aC) ex;simp only[dY,aJ];refine AT.elim (R:=AT l) (h.body j nt aC aC) (λ_=>trivial) (λk op x y fl ks j nt hn=> ?_) (λy fy ky j nt hy ey=> ?_)
   ·simp only[dY,aJ];exact AT.fO hn
   ·simp only[dY,aJ];exact AT.mk rfl rfl rfl rfl (fz2 (Og hx) (Og hy))
 |false=>
 cases h17:bG l i==17 with
 |true=>
  have hlt:=dI h17 (by decide);simp only[aJ,aX,pX hl hlt];refine AT.elim (R:=AT l) (h.body (i+1) nt aC aC) (λ_=>trivial) (λk op x y fl ks j nt hn=> ?_) (λx fx kx j nt hx ex=> ?_)
  ·simp only[dY,aJ,akL,wV,aj];refine AT.EN (R:=λo=>AT l o (.bad j)) (aAe hn) λk op x y fl ks nt hn=> ?_
   simp only[zaT,aX,dY,aJ];exact AT.fO hn
  ·have s1:=iM ((RD l n).body (i+1) _ aC) ex;have hf:=SK (l:=l) (i:=j) (nt:=nt) aC;simp only[dY,aJ,am4 hl j nt aC aC,aj];refine NU (R:=AT l) hl (by decide) ?_ (λ_ hlt=> ?_)
   ·simp only[dY,aJ];refine AT.EN (R:=λo=>AT l o (.bad (sep l j nt).1)) (aAe aC) λk op x y fl ks nt hn=> ?_
    simp only[zaT,aX,dY,aJ];exact AT.fO hn
   ·simp only[dY,aJ];refine AT.elim (R:=AT l) (asO hl n aC aC) (λ_=>trivial) (λk op x y fl ks j nt hn=> ?_) (λy fy ky j2 nt2 hy ey=> ?_)
    ·simp only[zaT,aX,dY,aJ];exact AT.fO hn
    ·have s2:=iM (Ua aC) ey;simp only[Bool.not_false,aJ,dY,asN,aj];exact aAd rfl rfl rfl rfl (fz2 (Og hx) (Og hy)) aC
 |false=>
 cases h16:bG l i==16 with
 |true=>have hlt:=dI h16 (by decide);simp only[aJ,aX,pX hl hlt];exact AT.pass (hlp (i+1) nt aC aC) (by intros;simp only[dY,aJ])
 |false=>
  simp only[aX];have hs:=aRl hl n hi hn λk hk h=>aRm hl n (eP (by rw[<-hk];rcases h with rfl|rfl<;>decide)) hn k hk h
  refine AT.elim (R:=AT l) hs (λ_=>trivial) (λk op x y fl ks j nt hn=> ?_) (λx fx kx j nt hx ex=> ?_)
  ·simp only[zaT,aX,dY,aJ];exact AT.fO hn
  ·have s1:=iM (asH hi) ex;simp only[Bool.not_false,aJ,dY,asN,aj];exact aAd rfl rfl rfl rfl (Og hx) aC
end
def rs(hl:l.length<=1048576):∀N n,n<=N->∀m,3 * n+10<=m->RS l n m:=by
 intro N;induction N with
 |zero=>intro n hn m hm;obtain rfl:n=0:=aC;exact⟨λ_ _ _ _=>by rw[stP];trivial,λ_ _ _ _=>by rw[JZ];trivial,λ_ _ _ _=>by rw[Bc];trivial⟩
 |succ N ih=>
  intro n hn m hm;cases n with
  |zero=>exact ih 0 aC m hm
  |succ n=>
   cases m with
   |zero=>omega
   |succ m=>
    have H:∀n',n'<=n->∀m',3 * n'+10<=m'->RS l n' m':=λn' h=>ih n' aC
    exact⟨aRv hl H hm,aG7 hl H hm,aDl hl H hm⟩
def RS.of(hl:l.length<=1048576)(n:Nat){m:Nat}(hm:3 * n+10<=m):RS l n m:=rs hl n n (zaU _) m hm
def aq4(hl:l.length<=1048576)(n:Nat){i:Nat}{nt:gW}(hi:i<=l.length)(hn:nt.length<=i):AT l (M.dP (ay l) (i:Int) false (encS nt)) (JZ l n i nt):=
 AT.lim ((RS.of hl n (zaU _)).blk i nt hi hn) λr h=>M.Ur h
def aup(hl:l.length<=1048576){i:Nat}{nt:gW}(hn:nt.length<=l.length):AT l (M.dP (ay l) (i:Int) true (encS nt)) (.bad i):=
 AT.lim (aDk hl 0 hn) λr h=>M.Ur h
variable {l:List Tk}
structure RT(l:List Tk)(n m:Nat):Prop where
 st:∀i ns,i<=l.length->ns.length<=i->AS l i ns.length (M.rQ m (ay l) (i:Int) false (ay ns)) (stP l n i (txt ns))
 blk:∀i ns,i<=l.length->ns.length<=i->AS l i ns.length (M.vG m (ay l) (i:Int) false (ay ns)) (JZ l n i (txt ns))
 body:∀i ns,i<=l.length->ns.length<=i->AS l i (ns.length+1) (M.qC m (ay l) (i:Int) false (ay ns)) (Bc l n i (txt ns))
def aG8{body:ak->Int->Bool->ak->Option TY}(hbb:∀i (ns:List Tk),ns.length<=3000->BB l i ns 2 (body (ay l) (i:Int) true (ay ns)))(i:Nat)(ns:List Tk)(hn:ns.length<=3000):
  BB l i ns 6 ((M.nI 37 1 false true false false (ay l) (i:Int) true (ay ns)).bind λr=>forA body r.2.1 r.2.2.1 r.2.2.2.1 r.2.2.2.2.1 r.2.2.2.2.2):=by
 obtain⟨fl,ra,A,e1,e2,e3,e4⟩:=asV (l:=l) 37 1 false true false false i ns;rw[e1,aj];obtain⟨fl',rows,ns',R,h1,h2,h3,h4,h5⟩:=as1 hbb e2 e4 aC (i:=i) hn;exact⟨fl',rows,ns',R,h1,h2,aC,h4,h5⟩
def AK(l:List Tk)(i n0:Nat)(o:Option S5):PR (List Tn)->Prop
 | .ok L j nt=>∃j0,j=j0+1/\bG l j0=31/\nt=[]/\o=some (ay l,(j0:Int),false,parts L,ay [])
 | .bad j=>∃b ns P,i<=j/\j<=l.length/\ns.length<=l.length/\(b=true\/(bG l j==31)=false)/\lens P+ns.length<=9 * (j - i)+n0+l.length+4/\P.length<=40000/\KB P/\o=some (ay l,(j:Int),b,uy P,ay ns)
 | .out=>True
def Yq(a b:List Tn):parts a++parts b=parts (a++b):=by simp[parts]
def aAy(hl:l.length<=3000){f:ak->Int->Bool->ak->Option TY}:
  ∀n,(∀n',n'<n->∀i ns,i<=l.length->ns.length<=i->AS l i ns.length (f (ay l) (i:Int) false (ay ns)) (stP l n' i (txt ns)))->
   ∀(i0 n0:Nat) (L:List Tn) (i:Nat) (ns:List Tk),i0<=i->i<=l.length->ns.length<=i->n0<=3000->sizes L+ns.length+6 * i0<=n0+6 * i->
    AK l i0 n0 (M.zA f (ay l,(i:Int),false,parts L,ay ns)) (Wy l n L i (txt ns))
 |0,_,_,_,_,_,_,_,_,_,_,_=>by rw[Wy];trivial
 |n+1,hst,i0,n0,L,i,ns,hi0,hi,hn,hn0,hsz=>by
  obtain⟨U5,t1,hsp⟩:=aom hl i ns hi hn;have hq:=SK (l:=l) (nt:=txt ns) hi;have hLl:=yP L;simp only[Wy];generalize hqe:sep l i (txt ns)=q at hq hsp t1|-;rw[<-t1] at hq;simp only[zaV] at hq;have hcm:au (au (RF U5))=parts (EU q.2):=by rw[abM,t1]
  have hcl:(EU q.2).length=U5.length:=by rw[<-t1,Xi]
  have hcs:sizes (EU q.2)=U5.length:=by rw[<-t1,Iq]
  rw[M.zA];have hb:M.vV f (ay l,(i:Int),false,parts L,ay ns)=
    bif bG l q.1==31 then some (.inr (ay l,(q.1:Int),false,parts (L++EU q.2),ay [])) else bif bG l q.1==0 then some (.inr (ay l,(q.1:Int),false,parts (L++EU q.2),ay [])) else
     (f (ay l) (q.1:Int) false (ay [])).bind λr=>bif(((parts (L++EU q.2)).length+[[D.sl false 5 (au r.2.1)]].length) * 24).ble 140737488355328 then
      (bif((parts (L++EU q.2)).length+[[D.sl false 5 (au r.2.1)]].length).ble 140737488355328 then
       some (.inl (r.2.2.1,r.2.2.2.1,r.2.2.2.2.1,parts (L++EU q.2)++[[D.sl false 5 (au r.2.1)]],r.2.2.2.2.2)) else none) else none:=by
   simp only[EY,M.vV,M.zy,bg,aJ,hsp,aj,Vp (l:=l) _ _ U5 aC,hcm,Yq,aX,iy];rw[show(parts L).length+(parts (EU q.2)).length=L.length+U5.length by rw[rD,rD,hcl],bC aC,aJ,bC aC,aJ]
  cases h31:bG l q.1==31 with
  |true=>rw[h31,aJ] at hb;rw[aO hb,aJ];exact⟨q.1,rfl,by rwa [beq_iff_eq] at h31,rfl,rfl⟩
  |false=>
   rw[h31,aX] at hb;rw[aX];cases h0:bG l q.1==0 with
   |true=>
    rw[h0,aJ] at hb;rw[aO hb,aJ];refine⟨false,[],(L++EU q.2).map λt=>t.flat 0,aC,aC,by simp,.inr h31, ?_, ?_, ?_,by rw[yC]⟩
    ·rw[pq,jT,hcs];simp only[zln];omega
    ·rw[zaV,DJ,hcl];omega
    ·have:=KB.trees (P:=[]) (L++EU q.2) (by rw[jT,hcs];omega) KB.nil
     rwa [List.append_nil] at this
   |false=>
    rw[h0,aX] at hb;rw[aX];have hr:=hst n (Nat.lt_succ_self n) q.1 [] aC (Nat.zero_le _);have CJ:=(RD l n).st q.1 [] aC;have e0:txt ([]:List Tk)=[]:=rfl;rw[e0] at hr;generalize stP l n q.1 []=p at hr CJ|-;cases p with
    |out=>trivial
    |bad j=>
     obtain⟨fl,rows,NG,R,g1,g2,g3,g4,g5,g6,h2⟩:=hr;simp only[zln] at g5;rw[h2,aj] at hb;have hPL:(((L++EU q.2).map λt=>t.flat 0)++[R]).length<=30000:=by rw[DJ,zaV,DJ,hcl,Bd];omega
     simp only[PL g4,rD,DJ,hcl,Bd] at hb;rw[bC aC,aJ,bC aC,aJ] at hb;rw[aZ hb];have hKB:KB (((L++EU q.2).map λt=>t.flat 0)++[R]):=KB.trees _ (by rw[jT,hcs];omega) (KB.cons g6 KB.nil);have hb2:M.vV f (ay l,(j:Int),true,uy (((L++EU q.2).map λt=>t.flat 0)++[R]),ay NG)=some (.inr (ay l,(j:Int),true,uy ((((L++EU q.2).map λt=>t.flat 0)++[R])++(EU (txt NG)).map λt=>t.flat 0),ay [])):=by simp only[EY,M.vV,M.zy,bg,aJ,aon,aj,Vp (l:=l) _ _ NG aC,abM];rw[show(uy (((L++EU q.2).map λt=>t.flat 0)++[R])).length+(parts (EU (txt NG))).length=(((L++EU q.2).map λt=>t.flat 0)++[R]).length+NG.length by rw[aAg,rD,Xi],bC aC,aJ,bC aC,aJ,yC];simp[uy]
     refine⟨true,[],_,aC,g2,by simp,.inl rfl, ?_, ?_, ?_,aO hb2⟩
     ·rw[yZ,yZ,pq,pq,jT,hcs,Iq,lens,lens];simp only[zln];omega
     ·rw[DJ,zaV,Xi];omega
     ·intro Q hQ;rcases List.mem_append.1 hQ with hQ|hQ
      ·exact hKB Q hQ
      ·have:=KB.trees (P:=[]) (EU (txt NG)) (by rw[Iq];omega) KB.nil;rw[List.append_nil] at this;exact this Q hQ
    |ok x j m'=>obtain⟨fl,rows,NG,h1,rfl,h2⟩:=hr;have hs':FS l q.1 ([]:gW).length x.size j (txt NG).length:=CJ;simp only[zaV,zln] at hs';rw[h2,aj] at hb;simp only[JD h1,rD,DJ,hcl,Bd] at hb;rw[bC aC,aJ,bC aC,aJ] at hb;rw[aZ hb];exact aAy hl n (λn' h=>hst n' aC) i0 n0 ((L++EU q.2)++[x]) j NG aC aC aC hn0 (by rw[sizes1,jT,hcs];omega)
section
variable {n m:Nat} (hl:l.length<=3000) (H:∀n',n'<=n->∀m',4 * n'+10<=m'->RT l n' m') (hm:4 * n+13<=m)
include hl H hm
theorem aG9(i:Nat)(ns:List Tk)(hi:i<=l.length)(hn:ns.length<=i):AS l i ns.length (M.vG (m+1) (ay l) (i:Int) false (ay ns)) (JZ l (n+1) i (txt ns)):=by
 have hbs:=akR (l:=l) m i ns aC;rw[M.Zc] at hbs|-;simp only[M.BO,bg,aJ] at hbs|-;rw[JZ,jD];cases hc:bG l i==30 with
 |false=>rw[lN] at hbs;rw[wS hc];exact hbs.as (zaU i) hi aC aC
 |true=>
  have hlt:=dI hc (by decide);have e30:bG l i=30:=by rwa [beq_iff_eq] at hc
  simp only[fM hl e30 (by decide),aj,aJ,PR.bind];have hloop:=aAy hl (f:=M.rQ m) n (λn' h i ns hi hn=>(H n' aC m aC).st i ns hi hn) (i+1) ns.length [] (i+1) ns (zaU _) aC aC aC (by rw[sizes0];omega);have CJ:=(RD l n).lines [] (i+1) (txt ns) aC;show AS l i ns.length ((M.zA (M.rQ m) (ay l,((i+1:Nat):Int),false,parts [],ay ns)).bind _) ((Wy l n [] (i+1) (txt ns)).bind λL i nt=> .ok (.mk 33 0 [] [] L) i nt);generalize Wy l n [] (i+1) (txt ns)=p at hloop CJ|-;cases p with
  |out=>trivial
  |bad j=>
   obtain⟨b,ns',P,g1,g2,g3,g4,g5,g6,g7,g8⟩:=hloop;obtain⟨R',_,e1,e2,e3⟩:=acp 33 0 [] [] P (b:=lens P) (zaU _) aC aC g7;have htk:M.aI 31 (ay l) (j:Int) b (ay ns')=some (0,[],0,ay l,(j:Int),true,ay ns'):=by
    rcases g4 with rfl|g4
    ·exact lN 31 j ns'
    ·cases b with
     |true=>exact lN 31 j ns'
     |false=>exact wS g4
   rw[g8];simp only[aj,bg,aJ,htk,Df,e1,aV];exact AS.fO aC g2 g3 (aV _ _) aC e3
  |ok L j nt=>obtain⟨j0,rfl,h31,rfl,g8⟩:=hloop;have hs':i+1<j0+1/\FN l (i+1) (txt ns).length (j0+1) ([]:gW).length/\sizes L+([]:gW).length+6 * (i+1)<=sizes ([]:List Tn)+(txt ns).length+6 * (j0+1):=CJ;simp only[zaV,zln,sizes0] at hs';rw[g8];simp only[aj,bg,aJ,fM hl h31 (by decide),NV,EI 33 0 [] [] [] L aC,aV];exact AS.mk (ns:=[]) (aV _ _)
theorem aDq(i:Nat)(ns:List Tk)(hi:i<=l.length)(hn:ns.length<=i):AS l i (ns.length+1) (M.qC (m+1) (ay l) (i:Int) false (ay ns)) (Bc l (n+1) i (txt ns)):=by
 have h:=H n (zaU _) m aC;obtain⟨U5,t1,hln⟩:=KU hl i ns hi hn;have hf:=EC (l:=l) (nt:=txt ns) hi;rw[M.aao];simp only[EY,M.D7,bg,aJ,hln,aj,iy,Bc];generalize nl l i (txt ns)=q at hf t1|-;rw[<-t1] at hf;simp only[zaV] at hf;have hcl:(EU q.2).length=U5.length:=by rw[<-t1,Xi]
 have hcs:sizes (EU q.2)=U5.length:=by rw[<-t1,Iq]
 have hnr:au (RF U5)=parts (EU q.2):=by rw[abL,t1]
 cases h30:bG l q.1==30 with
 |true=>simp only[aJ];rw[<-t1];exact AS.pass (h.blk q.1 U5 aC aC) aC aC (by intros;simp only[bg,aJ])
 |false=>
  simp only[aX];cases h37:bG l q.1==37 with
  |true=>
   have hlt:=dI h37 (by decide);have e37:bG l q.1=37:=by rwa [beq_iff_eq] at h37
   simp only[aJ,fM hl e37 (by decide),aj,bg,Vp (l:=l) _ _ U5 aC,aG2,hnr,EI 33 0 [] [] [] (EU q.2) aC,aV];exact AS.mk (ns:=[]) (aV _ _)
  |false=>
   simp only[aX,Vp (l:=l) _ _ U5 aC,aj,aG2,bg,aJ];have hr:=h.st q.1 [] aC (Nat.zero_le _);have e0:txt ([]:List Tk)=[]:=rfl;rw[e0] at hr;refine AS.elim (Q:=AS l i (ns.length+1)) hr (λ_=>trivial) (λfl rows j NG R g1 g2 g3 g4 g5 g6=> ?_) (λx fl rows j NG h1 he=> ?_)
   ·simp only[zln] at g5;obtain⟨R',_,e1,e2,e3⟩:=acp 33 0 [] [] (((EU q.2).map λt=>t.flat 0)++[R]) (b:=U5.length+R.length) (by rw[yZ,pq,hcs,lens,lens];omega) aC (by rw[DJ,zaV,Bd,hcl];omega) (KB.trees _ aC (KB.cons g6 KB.nil));simp only[agT,Bd];rw[bC aC,aJ,bC aC,aJ,SS,hnr,show au [[D.sl false 5 (au rows)]]=uy [R] by rw[g4];exact aii R,yC,show uy ((EU q.2).map λt=>t.flat 0)++uy [R]=uy (((EU q.2).map λt=>t.flat 0)++[R]) by simp[uy],e1];simp only[aj,bg,aJ,aV];exact AS.fO aC g2 g3 (aV _ _) aC e3
   ·have hs:=iM ((RD l n).st q.1 [] aC) he;simp only[zaV,zln] at hs;simp only[agT,Bd];rw[bC aC,aJ,bC aC,aJ,SS,hnr,show au [[D.sl false 5 (au rows)]]=parts [x] by rw[h1];exact aii _,Yq];simp only[EI 33 0 [] [] [] (EU q.2++[x]) (by rw[sizes1];omega),aj,bg,aJ,aV];exact AS.mk (aV _ _)
theorem aRw(i:Nat)(ns:List Tk)(h13:bG l i=13)(hn:ns.length<=i):AS l i ns.length (M.Qs m (ay l) (i:Int) false (ay ns)) (ifP l n (i+1) (txt ns)):=by
 obtain⟨m2,rfl⟩:∃m2,m=m2+2+1:=⟨m - 3,aC⟩
 have h:=H n (zaU _) (m2+2) aC;have hi:i<l.length:=eP (by rw[h13];decide);rw[M.anW,ifP];simp only[M.MV,bg,aJ,fM hl h13 (by decide),aj];refine AS.elim (Q:=AS l i ns.length) (aol hl n aC aC) (λ_=>trivial) (λfl rows j NG R g1 g2 g3 g4 g5 g6=> ?_) (λx fl rows j NG h1 he=> ?_)
 ·simp only[bg,aJ];refine(aoo m2 j NG aC).elim (Q:=λo=>AS l i ns.length o (.bad j)) λfl' rows' ns3 R2 k1 k2 k3 k4=> ?_
  obtain⟨R',e1,e2,e3⟩:=fin2 28 0 [] [] g6 k3 aC;simp only[bg,aJ,aAr j ns3 hl g2,aj,Bool.not_false,g4,k1,e1,aV];exact AS.fO aC g2 aC (aV _ _) aC e3
 ·have s1:=iM (Ua aC) he;simp only[zaV] at s1;simp only[bg,aJ];refine AS.elim (Q:=AS l i ns.length) (h.body j NG aC aC) (λ_=>trivial) (λfl' rows' j2 ns3 R g1 g2 g3 g4 g5 g6=> ?_) (λy fl' rows' j2 ns3 h2 he2=> ?_)
  ·obtain⟨R',e1,e2,e3⟩:=fin2 28 0 [] [] (K1.tree x aC) g6 (by rw[Tn.flat_length];omega);rw[Tn.flat_length] at e2;simp only[bg,aJ,aAr j2 ns3 hl g2,aj,Bool.not_false,h1,g4,e1,aV];exact AS.fO aC g2 aC (aV _ _) aC e3
  ·have s2:=iM ((RD l n).body j (txt NG) aC) he2;simp only[zaV] at s2;have hf:=SK (l:=l) (i:=j2) (nt:=txt ns3) aC;simp only[bg,aJ];rcases aG3 hl j2 ns3 aC aC with⟨h14,ns4,t4,hel⟩|⟨h14,hel⟩
   ·have hlt:=dI h14 (by decide);rw[hel,h14];simp only[aj,zaT,aX,aJ,bg,h1,h2];rw[<-t4] at hf|-;simp only[zaV] at hf;exact abY hl [x,y] (h.body _ ns4 aC aC) aC aC (by simp only[sizes];omega) (by simp only[sizes];omega) (auo hl aC (by rw[zaV];omega))
   ·rw[hel,h14];have ho:=aAq 28 0 [] [] [x,y] (by simp only[sizes];omega);have ho':M.eF 28 0 [] [] [] (au [[D.sl false 5 (aU false (x.flat 0))],[D.sl false 5 (aU false (y.flat 0))]])=some (false,aU false ((Tn.mk 28 0 [] [] [x,y]).flat 0)):=by rw[asQ];exact ho
    simp only[aj,Bool.not_false,aJ,aX,bg,h1,h2,ho',aV];exact AS.mk (aV _ _)
theorem aHa(i:Nat)(ns:List Tk)(h16:bG l i=16)(hn:ns.length<=i):AS l i ns.length (M.N8 m (ay l) (i:Int) false (ay ns)) (lpP l n (i+1) (txt ns)):=by
 obtain⟨m2,rfl⟩:∃m2,m=m2+2+1:=⟨m - 3,aC⟩
 have h:=H n (zaU _) (m2+2) aC;have hi:i<l.length:=eP (by rw[h16];decide);have hbb:∀i (ns:List Tk),ns.length<=3000->BB l i ns 2 (M.qC (m2+2) (ay l) (i:Int) true (ay ns)):=λi ns hn=>aoo m2 i ns hn
 rw[M.alB,lpP];simp only[M.J6,M.H7,bg,aJ,fM hl h16 (by decide),aj];rw[jD];cases h32:bG l (i+1)==32 with
 |false=>simp only[wS h32,aj,zaT,aX,bg,aJ];exact(aG8 hbb (i+1) ns aC).as aC aC aC aC
 |true=>
  have hlt:=dI h32 (by decide);have e32:bG l (i+1)=32:=by rwa [beq_iff_eq] at h32
  have aok:=aRu (n:=n) hl hbb (λi ns hi hn=>h.body i ns hi hn) (i:=i+1+1) (i0:=i) (n0:=ns.length) (ns:=ns) aC aC aC aC;simp only[fM hl e32 (by decide),aj,Bool.not_false,aJ,dZ,PR.bind];have wn:∀j:Nat,j<=3001->i64.wrap ((j:Int)+1)=((j+1:Nat):Int):=λj hj=>by rw[bF aC aC];omega
  rw[wn (i+1+1) aC]
  by_cases hb:i+1+1+1<l.length
  ·obtain⟨t,ht⟩:∃t,l[i+1+1]? =some t:=⟨l[i+1+1],by simp[show i+1+1<l.length by omega]⟩
   obtain⟨u,hu⟩:∃u,l[i+1+1+1]? =some u:=⟨l[i+1+1+1],by simp[hb]⟩
   have et:bG l (i+1+1)=t.kind:=by rw[bG,ht]
   have eu:bG l (i+1+1+1)=u.kind:=by rw[bG,hu]
   rw[zdt aC,aJ];simp only[dG,iE,ht,hu,Ir,aj,cT0,et,eu,bg,aJ];cases h6:t.kind==6 with
   |false=>simp only[aX,Bool.false_and];exact aok
   |true=>
    simp only[aJ,Bool.true_and];cases h24:u.kind==24 with
    |false=>simp only[aX];exact aok
    |true=>
     have e6:bG l (i+1+1)=6:=by rw[et];rwa [beq_iff_eq] at h6
     have e24:bG l (i+1+1+1)=24:=by rw[eu];rwa [beq_iff_eq] at h24
     simp only[aJ,fM hl e6 (by decide),fM hl e24 (by decide),aj,bg];have aRx:∀(j:Nat) (o:aK),i+4<=j->j<=l.length->AS l i ns.length ((M.qC (m2+2) (ay l) (j:Int) true (ay ns)).bind λagB=>(M.eF 32 0 (CG l (i+1+1)) o [] (au [[D.sl false 5 (au agB.2.1)]])).bind λaFH=>bif ah agB.2.2.2.2.2 then some (false,au aFH.2,agB.2.2.1,agB.2.2.2.1,agB.2.2.2.2.1,agB.2.2.2.2.2) else none) (.bad j):=by
      intro j o hj1 hj2;refine(hbb j ns aC).elim (Q:=λo=>AS l i ns.length o (.bad j)) λfl rows ns' R g1 g2 g3 g4=> ?_
      obtain⟨R',e1,e2,e3⟩:=fin1 32 0 (CG l (i+1+1)) o g3 aC;simp only[g1,e1,aj,bg,aJ,aV];exact AS.fO aC hj2 aC (aV _ _) aC e3
     rw[nameP];cases h62:bG l (i+1+1+2)==6 with
     |false=>have aXI:(bG l (i+1+1+1+1)==6)=false:=h62;simp only[wS aXI,lN,aj,bg,aJ,aX];exact aRx _ _ aC aC
     |true=>
      have aYj:=dI h62 (by decide);have e62:bG l (i+1+1+1+1)=6:=by rwa [beq_iff_eq] at h62
      simp only[fM hl e62 (by decide),aj,bg,aJ,PR.bind];rw[jD];cases h33:bG l (i+1+1+2+1)==33 with
      |false=>have aXJ:(bG l (i+1+1+1+1+1)==33)=false:=h33;simp only[wS aXJ,aj,bg,aJ,aX];exact aRx _ _ aC aC
      |true=>
       have aYk:=dI h33 (by decide);have e33:bG l (i+1+1+1+1+1)=33:=by rwa [beq_iff_eq] at h33
       simp only[fM hl e33 (by decide),aj,bg,aJ];exact abY hl [] (h.body (i+1+1+1+1+1+1) ns aC aC) aC aC (by simp only[sizes];omega) (by simp[sizes]) (auo hl aC (by rw[zaV];omega))
  ·have e0:bG l (i+1+1+1)=0:=by rw[bG,List.getElem?_eq_none aC]
   rw[Ac aC,aX,e0];simp only[bg,aJ,show((0:Int)==24)=false from rfl,Bool.and_false,aX];exact aok
end
def PR.bind_assoc{α β γ:Type}(p:PR α)(f:α->Nat->gW->PR β)(g:β->Nat->gW->PR γ):(p.bind f).bind g=p.bind λx i nt=>(f x i nt).bind g:=by cases p<;>rfl
variable {l:List Tk}
def doQ(l:List Tk)(n i:Nat)(nt:gW):PR Tn:=(Bc l n (i+1) nt).bind λx i nt=>(jD l 15 (sep l i nt).1 (sep l i nt).2).bind λ_ i nt=>(U4 l n i nt).bind λy i nt=> .ok (.mk 30 0 [] [] [x,y]) i nt
def aRy(hl:l.length<=3000){n i:Nat}{nt:gW}(hi:i<=l.length):(U4 l n i nt).sat λx j m=>x.size<=30000:=bK (Ua (l:=l) hi) λx j m h=>by omega
def aHb(hl:l.length<=3000){i n0:Nat}{o:Option TY}{p:PR Tn}(h:AS l i n0 o p)(hs:p.sat λx j m=>i<=j/\j<=l.length/\m.length<=l.length/\x.size+m.length<=9 * (j - i)+n0/\x.size<=100000):
  AS l i n0 (o.bind λr=>bif ah r.2.2.2.2.2 then(M.pU r.2.2.1 r.2.2.2.1 r.2.2.2.2.1 r.2.2.2.2.2).bind λr'=>bif ah r'.2.2.2 then some (false,au r.2.1,r'.1,r'.2.1,r'.2.2.1,r'.2.2.2) else none else none)
   (p.bind λx j nt=>endP l x j nt):=by
 refine AS.elim (Q:=AS l i n0) h (λ_=>trivial) (λfl rows j ns R h1 h2 h3 h4 h5 h6=> ?_) (λx fl rows j ns hk he=> ?_)
 ·simp only[bg,aJ,aul,aj,Bool.true_or];exact AS.fO h1 h2 h3 (fzN h4) h5 h6
 ·have hs':=iM hs he;simp only[zaV] at hs';simp only[bg,aJ,aul,aj,Bool.false_or,endP];cases Ip (bG l j) with
  |true=>exact AS.mk (fzN hk)
  |false=>exact AS.fO hs'.1 hs'.2.1 hs'.2.2.1 (fzN hk) (by rw[Tn.flat_length];omega) (K1.tree x hs'.2.2.2.2)
section
variable {n m:Nat} (hl:l.length<=3000) (H:∀n',n'<=n->∀m',4 * n'+10<=m'->RT l n' m') (hm:4 * n+13<=m)
include hl H hm
theorem aRz(i:Nat)(ns:List Tk)(h17:bG l i=17)(hn:ns.length<=i):AS l i ns.length (M.DI m (ay l) (i:Int) false (ay ns)) (doQ l n i (txt ns)):=by
 obtain⟨m2,rfl⟩:∃m2,m=m2+2+1:=⟨m - 3,aC⟩
 have h:=H n (zaU _) (m2+2) aC;have hi:i<l.length:=eP (by rw[h17];decide);rw[M.X7,doQ];simp only[M.zx,bg,aJ,iy,aj,h17,show((17:Int)==25)=false from rfl,show((17:Int)==26)=false from rfl,show((17:Int)==20)=false from rfl,show((17:Int)==18)=false from rfl,
  show((17:Int)==19)=false from rfl,show((17:Int)==21)=false from rfl,show((17:Int)==22)=false from rfl,show((17:Int)==23)=false from rfl,show((17:Int)==17)=true from rfl,aX,fM hl h17 (by decide)]
 refine AS.elim (Q:=AS l i ns.length) (h.body (i+1) ns aC aC) (λ_=>trivial) (λfl rows j NG R g1 g2 g3 g4 g5 g6=> ?_) (λx fl rows j NG h1 he=> ?_)
 ·obtain⟨R',e1,e2,e3⟩:=fin2 30 0 [] [] g6 K1.nil (by simp;omega);have e1':M.eF 30 0 [] [] [] (au [[D.sl false 5 (aU false R)],[D.sl false 5 (au [])]])=some (false,aU false R'):=e1;simp only[zln] at e2;simp only[bg,aJ,aon,aj,lN,aum,g4,e1',aV];exact AS.fO aC g2 g3 (aV _ _) aC e3
 ·have s1:=iM ((RD l n).body (i+1) (txt ns) aC) he;simp only[zaV] at s1;obtain⟨U5,t1,hsp⟩:=aom hl j NG aC aC;have hf:=SK (l:=l) (i:=j) (nt:=txt NG) aC;simp only[bg,aJ,hsp,aj];generalize sep l j (txt NG)=q at hf t1|-;rw[<-t1] at hf|-;simp only[zaV] at hf;rw[jD];cases h15:bG l q.1==15 with
  |false=>obtain⟨R',e1,e2,e3⟩:=fin2 30 0 [] [] (K1.tree x aC) K1.nil (by rw[Tn.flat_length];simp;omega);have e1':M.eF 30 0 [] [] [] (au [[D.sl false 5 (aU false (x.flat 0))],[D.sl false 5 (au [])]])=some (false,aU false R'):=e1;simp only[zln,Tn.flat_length] at e2;simp only[wS h15,aj,bg,aJ,aum,h1,e1',aV];exact AS.fO aC aC aC (aV _ _) aC e3
  |true=>
   have hlt:=dI h15 (by decide);have e15:bG l q.1=15:=by rwa [beq_iff_eq] at h15
   simp only[fM hl e15 (by decide),aj,bg,aJ,h1,PR.bind];exact abY hl [x] (aol hl n aC aC) aC aC (by simp only[sizes];omega) (by simp only[sizes];omega) (aRy hl aC)
theorem awt(hx:aeP l)(i:Nat)(ns:List Tk)(hi:i<=l.length)(hn:ns.length<=i):AS l i ns.length (M.DI m (ay l) (i:Int) false (ay ns)) (bif bG l i==17 then doQ l n i (txt ns) else aic l n i (txt ns)):=by
 have hdo:=aRz hl H hm i ns;obtain⟨m2,rfl⟩:∃m2,m=m2+2+1:=⟨m - 3,aC⟩
 cases e17:bG l i==17 with
 |true=>exact hdo (by rwa [beq_iff_eq] at e17) hn
 |false=>
  clear hdo;rw[M.X7,aic];simp only[M.zx,bg,aJ,aX,iy,aj];have hp:∀{o:Option TY} {p:PR Tn},AS l i ns.length o p->AS l i ns.length (o.bind λr=>bif ah r.2.2.2.2.2 then some (false,au r.2.1,r.2.2.1,r.2.2.2.1,r.2.2.2.2.1,r.2.2.2.2.2) else none) p:=
   λh=>AS.pass h (zaU _) aC (by intros;simp only[bg,aJ])
  have hz:∀{k:Int},(bG l i==k)=true->k≠0->bG l i≠0:=λh h0=>by
   rw[beq_iff_eq] at h
   rwa [h]
  cases e25:bG l i==25 with
  |true=>exact hp (aEA hl hx n (.inl (by rwa [beq_iff_eq] at e25)) hn)
  |false=>
  cases e26:bG l i==26 with
  |true=>exact hp (aEA hl hx n (.inr (by rwa [beq_iff_eq] at e26)) hn)
  |false=>
  simp only[Bool.or_self,aX];cases e20:bG l i==20 with
  |true=>exact hp (asX hl 22 (hz e20 (by decide)) _)
  |false=>
  cases e18:bG l i==18 with
  |true=>exact hp (asX hl 25 (hz e18 (by decide)) _)
  |false=>
  cases e19:bG l i==19 with
  |true=>exact hp (asX hl 26 (hz e19 (by decide)) _)
  |false=>
  cases e21:bG l i==21 with
  |true=>exact hp (aAs hl n 23 (hz e21 (by decide)) hn)
  |false=>
  cases e22:bG l i==22 with
  |true=>exact hp (aAs hl n 24 (hz e22 (by decide)) hn)
  |false=>
  cases e23:bG l i==23 with
  |true=>exact hp (aRt hl n (by rwa [beq_iff_eq] at e23) hn)
  |false=>simp only[e17,aX,M.jH,M.tY,aj];exact auk hl [] (at1 hl n false false hi hn) (zaU _) (by simp only[sizes];omega) (by simp[sizes]) (aEz hl (by decide) (by decide) hi)
theorem aRA(hx:aeP l)(i:Nat)(ns:List Tk)(hi:i<=l.length)(hn:ns.length<=i):AS l i ns.length (M.rQ (m+1) (ay l) (i:Int) false (ay ns)) (stP l (n+1) i (txt ns)):=by
 have hif:=aRw hl H hm i ns;have aok:=aHa hl H hm i ns;have hsi:=awt hl H hm hx i ns hi hn;have h:=H n (zaU _) m aC;obtain⟨m2,rfl⟩:∃m2,m=m2+2:=⟨m - 2,aC⟩
 rw[M.aap,stP];simp only[M.Ea,bg,aJ,aX,iy,aj];have hp:∀{o:Option TY} {p:PR Tn},AS l i ns.length o p->AS l i ns.length (o.bind λr=>bif ah r.2.2.2.2.2 then some (false,au r.2.1,r.2.2.1,r.2.2.2.1,r.2.2.2.2.1,r.2.2.2.2.2) else none) p:=
  λh=>AS.pass h (zaU _) aC (by intros;simp only[bg,aJ])
 by_cases e13:bG l i=13
 ·have hq:=hp (hif e13 hn);simp only[e13,show((13:Int)==30)=false from rfl,show((13:Int)==13)=true from rfl,aX,aJ];exact hq
 have f13:(bG l i==13)=false:=by rwa [Y6]
 simp only[f13,aX]
 by_cases e15:bG l i=15
 ·have hlt:i<l.length:=eP (by rw[e15];decide);simp only[e15,show((15:Int)==30)=false from rfl,show((15:Int)==15)=true from rfl,aX,aJ,fM hl e15 (by decide),aj,bg];refine AS.elim (Q:=AS l i ns.length) (aol hl n aC aC) (λ_=>trivial) (λfl rows j NG R g1 g2 g3 g4 g5 g6=> ?_) (λx fl rows j NG h1 he=> ?_)
  ·simp only[bg,aJ];refine(aoo m2 j NG aC).elim (Q:=λo=>AS l i ns.length o (.bad j)) λfl' rows' ns3 R2 k1 k2 k3 k4=> ?_
   obtain⟨R',e1,e2,e3⟩:=fin2 29 0 [] [] g6 k3 aC;simp only[bg,aJ,g4,k1,aj,e1,aV];exact AS.fO aC g2 aC (aV _ _) aC e3
  ·have s1:=iM (Ua aC) he;simp only[zaV] at s1;simp only[bg,aJ,h1];exact abY hl [x] (h.body j NG aC aC) aC aC (by simp only[sizes];omega) (by simp only[sizes];omega) (auo hl aC (by rw[zaV];omega))
 have f15:(bG l i==15)=false:=by rwa [Y6]
 simp only[f15,aX]
 by_cases e16:bG l i=16
 ·have hq:=hp (aok e16 hn);simp only[e16,show((16:Int)==30)=false from rfl,show((16:Int)==16)=true from rfl,show((16:Int)==17)=false from rfl,aX,aJ];exact hq
 have f16:(bG l i==16)=false:=by rwa [Y6]
 simp only[f16,aX]
 by_cases e30:bG l i=30
 ·have hq:=hp (h.blk i ns hi hn);simp only[e30,show((30:Int)==30)=true from rfl,aX,aJ];exact hq
 have f30:(bG l i==30)=false:=by rwa [Y6]
 simp only[f30,aX];have hss:(bif bG l i==17 then doQ l n i (txt ns) else aic l n i (txt ns)).sat λx j m=>i<=j/\j<=l.length/\m.length<=l.length/\x.size+m.length<=9 * (j - i)+ns.length/\x.size<=100000:=by
  cases e17:bG l i==17 with
  |false=>
   refine bK (asH (l:=l) hi) λx j m h=> ?_
   simp only[zaV] at h;omega
  |true=>
   have hlt:=dI e17 (by decide);simp only[aJ,doQ];rw[eU];refine bK ((RD l n).body (i+1) (txt ns) aC) λx j m h1=> ?_
   simp only[zaV] at h1;have hf:=SK (l:=l) (i:=j) (nt:=m) aC;rw[eU,yY];intro hk;have hk':=eP (l:=l) (i:=(sep l j m).1) (by rw[hk];decide);rw[eU];refine bK (Ua (l:=l) aC) λy j2 m2 h2=> ?_
   show _/\_;simp only[Tn.size,sizes];omega
 have hq:=aHb hl hsi hss;cases e17:bG l i==17 with
 |true=>rw[e17] at hq;simp only[aJ,doQ,PR.bind_assoc] at hq|-;exact hq
 |false=>rw[e17] at hq;simp only[aX] at hq|-;exact hq
end
def rt0(m:Nat):RT l 0 m where
 st:=λi ns _ _=>by rw[stP];trivial
 blk:=λi ns _ _=>by rw[JZ];trivial
 body:=λi ns _ _=>by rw[Bc];trivial
def rt(hl:l.length<=3000)(hx:aeP l):∀N n,n<=N->∀m,4 * n+10<=m->RT l n m:=by
 intro N;induction N with
 |zero=>intro n hn m hm;obtain rfl:n=0:=aC;exact rt0 m
 |succ N ih=>
  intro n hn m hm;cases n with
  |zero=>exact rt0 m
  |succ n=>
   obtain⟨m',rfl⟩:∃m',m=m'+1:=⟨m - 1,aC⟩
   have H:∀n',n'<=n->∀m',4 * n'+10<=m'->RT l n' m':=λn' h=>ih n' aC
   exact⟨aRA hl H aC hx,aG9 hl H aC,aDq hl H aC⟩
def RT.of(hl:l.length<=3000)(hx:aeP l)(n:Nat){m:Nat}(hm:4 * n+10<=m):RT l n m:=rt hl hx n n (zaU _) m hm
def auq(hl:l.length<=3000)(hx:aeP l)(n:Nat){i:Nat}{ns:List Tk}(hi:i<=l.length)(hn:ns.length<=i):AS l i ns.length (M.iC (ay l) (i:Int) false (ay ns)) (JZ l n i (txt ns)):=
 AS.lim ((RT.of hl hx n (zaU _)).blk i ns hi hn) λr h=>M.X8 h
def aHc(i:Nat)(ns:List Tk)(hn:ns.length<=3000):BB l i ns 1 (M.iC (ay l) (i:Int) true (ay ns)):=
 let⟨fl,rows,ns',R,h1,h2,h3,h4,h5⟩:=akR 0 i ns hn
 ⟨fl,rows,ns',R,M.X8 h1,h2,h3,h4,h5⟩
variable {l:List Tk}
abbrev G2:=ak×Int×Bool×Int×Int×aK×aK×Int×Int×aK×aK×ak×ak
abbrev G3:=ak×Int×Int×Int×aK×aK×Int×Int×aK×aK×ak×ak
abbrev GO:=G2⊕B1⊕G3⊕G2
def g2(l:List Tk)(x:aK)(i:Nat)(b:Bool)(nt:gW)(rows:ak):G2:=(ay l,(i:Int),b,0,0,[],[],44,0,x,[],encS nt,rows)
def g3(l:List Tk)(x:aK)(i:Nat)(nt:gW)(rows:ak):G3:=(ay l,(i:Int),0,0,[],[],44,0,x,[],encS nt,rows)
def AQ(l:List Tk)(x:aK)(o:Option GO):PR (List Tn)->Prop
 | .ok L' j ZG=>o=some (.inl (g2 l x j false ZG (dN true L')))
 | .bad j=>∃ZG rows,ZG.length<=l.length/\rows.length<=8/\(o=some (.inl (g2 l x j true ZG rows))\/o=some (.inr (.inr (.inl (g3 l x j ZG rows)))))
 | .out=>True
def akS(hl:l.length<=1048576){i:Nat}{nt:gW}(h:(bG l i==6)=true):M.bJ (ay l) (i:Int) false (encS nt)=some (CG l i,ay l,((i+1:Nat):Int),false,encS nt):=by simp only[M.bJ,M.jl,dY,aJ,aX,fG,aj,bne,h,zaT,NT hl (dI h (by decide))]
def aAz{i:Nat}{nt:gW}(h:(bG l i==6)=false):M.bJ (ay l) (i:Int) false (encS nt)=some ([],ay l,(i:Int),true,encS nt):=by simp only[M.bJ,M.jl,dY,aJ,aX,fG,aj,bne,h,Bool.not_false]
def afS(L:List Tn)(s:aK):dN true L++[[D.int .i64 1,D.int .i64 0,D.str s,D.str [],D.sl true 5 []]]=dN true (L++[.mk 1 0 s [] []]):=by rw[Aa];rfl
def aq5(hl:l.length<=1048576)(x:aK):∀(n:Nat) (L:List Tn) (i:Nat) (nt:gW),L.length<6->i<=l.length->nt.length<=i->AQ l x (M.l9 (.inr (g2 l x i false nt (dN true L)))) (Gn l n L i nt)
 |0,_,_,_,_,_,_=>by rw[Gn];trivial
 |n+1,L,i,nt,hL,hi,hn=>by
  rw[Gn,M.l9,nameP];cases h6:bG l i==6 with
  |false=>
   have hb:M.fC (.inr (g2 l x i false nt (dN true L)))=some (.inr (.inl (g2 l x i true nt (dN true (L++[.mk 1 0 [] [] []]))))):=by simp only[EY,M.fC,M.je,g2,Bool.not_false,aJ,dY,aAz h6,aj,afS,dR,Bd];rw[bC aC,aJ,bC aC,aJ]
   rw[aO hb];exact⟨nt,_,aC,by rw[dR,DJ,Bd];omega,.inl rfl⟩
  |true=>
   have hlt:=dI h6 (by decide);simp only[aJ,PR.bind];cases hc:bG l (i+1)==36 with
   |false=>
    have hb:M.fC (.inr (g2 l x i false nt (dN true L)))=some (.inr (.inl (g2 l x (i+1) false nt (dN true (L++[.mk 1 0 (CG l i) [] []]))))):=by simp only[EY,M.fC,M.je,g2,Bool.not_false,aJ,aX,dY,akS hl h6,aj,afS,dR,Bd,fG,bne,hc];rw[bC aC,aJ,bC aC,aJ]
    rw[aO hb];rfl
   |true=>
    have hlt':=dI hc (by decide);simp only[aJ];cases hs:Nat.beq (L.length+1) 6 with
    |true=>
     have e:=MB hs;have e':(((L.length+1:Nat):Int)==6)=true:=by rw[e];rfl
     have hb:M.fC (.inr (g2 l x i false nt (dN true L)))=some (.inr (.inr (.inr (.inl (g3 l x (i+1) nt (dN true (L++[.mk 1 0 (CG l i) [] []]))))))):=by simp only[EY,M.fC,M.je,g2,g3,Bool.not_false,zaT,aJ,aX,dY,akS hl h6,aj,afS,dR,Bd,DJ,fG,bne,hc,e'];rw[bC aC,aJ,bC aC,aJ]
     rw[aO hb];exact⟨nt,_,aC,by rw[dR,DJ,Bd];omega,.inr rfl⟩
    |false=>
     have e:L.length+1≠6:=Nat.ne_of_beq_eq_false hs;have e':(((L.length+1:Nat):Int)==6)=false:=by rw[Y6];omega
     have hf:=EC (l:=l) (i:=i+1+1) (nt:=nt) aC;have hb:M.fC (.inr (g2 l x i false nt (dN true L)))=some (.inl (.inr (g2 l x (nl l (i+1+1) nt).1 false (nl l (i+1+1) nt).2 (dN true (L++[.mk 1 0 (CG l i) [] []]))))):=by simp only[EY,M.fC,M.je,g2,Bool.not_false,zaT,aJ,aX,dY,akS hl h6,aj,afS,dR,Bd,DJ,fG,bne,hc,e',pX hl hlt',SN hl (i+1+1) nt aC aC];rw[bC aC,aJ,bC aC,aJ]
     rw[aZ hb];exact aq5 hl x n _ _ _ (by rw[DJ,Bd];omega) aC aC
def awu(hl:l.length<=1048576)(x:aK)(n:Nat){i:Nat}{nt:gW}(hi:i<=l.length)(hn:nt.length<=i):
  AQ l x (M.l9 (.inl (true,ay l,(i:Int),false,0,0,[],[],44,0,x,[],encS nt))) (Gn l n [] i nt):=by
 cases n with
 |zero=>rw[Gn];trivial
 |succ n=>
  have hrow:∀s:aK,[[D.int .i64 1,D.int .i64 0,D.str s,D.str [],D.sl true 5 []]]=dN true ([]++[Tn.mk 1 0 s [] []]):=λs=>rfl
  rw[Gn,M.l9,nameP];cases h6:bG l i==6 with
  |false=>
   have hb:M.fC (.inl (true,ay l,(i:Int),false,0,0,[],[],44,0,x,[],encS nt))=some (.inr (.inl (g2 l x i true nt (dN true ([]++[.mk 1 0 [] [] []]))))):=by simp only[EY,M.fC,M.je,g2,Bool.not_false,aJ,dY,aAz h6,aj,hrow]
   rw[aO hb];exact⟨nt,_,aC,by rw[dR];decide,.inl rfl⟩
  |true=>
   have hlt:=dI h6 (by decide);simp only[aJ,PR.bind];cases hc:bG l (i+1)==36 with
   |false=>
    have hb:M.fC (.inl (true,ay l,(i:Int),false,0,0,[],[],44,0,x,[],encS nt))=some (.inr (.inl (g2 l x (i+1) false nt (dN true ([]++[.mk 1 0 (CG l i) [] []]))))):=by simp only[EY,M.fC,M.je,g2,Bool.not_false,aJ,aX,dY,akS hl h6,aj,hrow,fG,bne,hc]
    rw[aO hb];rfl
   |true=>
    have hlt':=dI hc (by decide);have hf:=EC (l:=l) (i:=i+1+1) (nt:=nt) aC;have hb:M.fC (.inl (true,ay l,(i:Int),false,0,0,[],[],44,0,x,[],encS nt))=some (.inl (.inr (g2 l x (nl l (i+1+1) nt).1 false (nl l (i+1+1) nt).2 (dN true ([]++[.mk 1 0 (CG l i) [] []]))))):=by simp only[EY,M.fC,M.je,g2,Bool.not_false,zaT,aJ,aX,dY,akS hl h6,aj,hrow,fG,bne,hc,pX hl hlt',SN hl (i+1+1) nt aC aC]
    rw[aZ hb];exact aq5 hl x n _ _ _ (by simp) aC aC
def am5:∀(n:Nat) (L:List Tn) (i:Nat) (nt:gW),L.length<6->(Gn l n L i nt).sat λL' _ _=>L'.length<=6
 |0,_,_,_,_=>by rw[Gn];trivial
 |n+1,L,i,nt,hL=>by
  rw[Gn,eU,Yn];intro _;rw[fJ];refine⟨λ_=> ?_,λ_=> ?_⟩
  ·rw[fJ];refine⟨λ_=>trivial,λh=> ?_⟩;have:=Nat.ne_of_beq_eq_false h;exact am5 n _ _ _ (by rw[DJ,Bd];omega)
  ·show(L++[_]).length<=6;rw[DJ,Bd];omega
noncomputable def fnC(x:aK)(c:ak)(c1:Int)(c2:Bool)(c3:ak):Option TT:=
 ((M.aS 32 c c1 c2 c3).bind λakT=>
 (bif !akT.2.2.2.1 then
 (bif ah akT.2.2.2.2 then
 ((M.aG akT.2.1 akT.2.2.1 akT.2.2.2.1 akT.2.2.2.2).bind λalH=>
 (bif alH.1 !=33 then
 ((M.l9 (.inl ((true,alH.2.1,alH.2.2.1,alH.2.2.2.1,0,0,[],[],44,0,x,[],alH.2.2.2.2)))).bind λaXK=>
 jg aXK (λail=>
 (bif ah ail.2.2.2.2.2.2.2.2.2.2.2.1 then
 ((M.aS 33 ail.1 ail.2.1 ail.2.2.1 ail.2.2.2.2.2.2.2.2.2.2.2.1).bind λaAA=>
 (bif ah aAA.2.2.2.2 then
 ((M.aT aAA.2.1 aAA.2.2.1 aAA.2.2.2.1 aAA.2.2.2.2).bind λaAB=>
 (bif ah aAB.2.2.2 then
 ((M.dP aAB.1 aAB.2.1 aAB.2.2.1 aAB.2.2.2).bind λYr=>
 (bif((ail.2.2.2.2.2.2.2.2.2.2.2.2.length+[[D.int IntKind.i64 Yr.1,D.int IntKind.i64 Yr.2.1,D.str Yr.2.2.1,D.str Yr.2.2.2.1,D.sl false 5 (au Yr.2.2.2.2.2.1)]].length) * 72).ble 140737488355328 then
 (bif(ail.2.2.2.2.2.2.2.2.2.2.2.2.length+[[D.int IntKind.i64 Yr.1,D.int IntKind.i64 Yr.2.1,D.str Yr.2.2.1,D.str Yr.2.2.2.1,D.sl false 5 (au Yr.2.2.2.2.2.1)]].length).ble 140737488355328 then
 (bif ah Yr.2.2.2.2.2.2.2.2.2 then
 (some ((ail.2.2.2.2.2.2.2.1,ail.2.2.2.2.2.2.2.2.1,ail.2.2.2.2.2.2.2.2.2.1,ail.2.2.2.2.2.2.2.2.2.2.1,true,ail.2.2.2.2.2.2.2.2.2.2.2.2++[[D.int IntKind.i64 Yr.1,D.int IntKind.i64 Yr.2.1,D.str Yr.2.2.1,D.str Yr.2.2.2.1,D.sl false 5 (au Yr.2.2.2.2.2.1)]],Yr.2.2.2.2.2.2.1,Yr.2.2.2.2.2.2.2.1,Yr.2.2.2.2.2.2.2.2.1,Yr.2.2.2.2.2.2.2.2.2))) else none) else none) else none)) else none)) else none)) else none)) λaXL=>
 jg aXL (λaoq=>
 (bif ah aoq.2.2.2.2.2.2.2.2.2.2.2 then
 ((M.aS 33 aoq.1 aoq.2.1 aoq.2.2.1 aoq.2.2.2.2.2.2.2.2.2.2.2).bind λaAC=>
 (bif ah aAC.2.2.2.2 then
 ((M.aT aAC.2.1 aAC.2.2.1 aAC.2.2.2.1 aAC.2.2.2.2).bind λaAD=>
 (bif ah aAD.2.2.2 then
 ((M.dP aAD.1 aAD.2.1 aAD.2.2.1 aAD.2.2.2).bind λalI=>
 (bif ah alI.2.2.2.2.2.2.2.2.2 then
 (some ((aoq.2.2.2.2.2.2.2.1,aoq.2.2.2.2.2.2.2.2.1,aoq.2.2.2.2.2.2.2.2.2.1,aoq.2.2.2.2.2.2.2.2.2.2.1,true,[[D.int IntKind.i64 alI.1,D.int IntKind.i64 alI.2.1,D.str alI.2.2.1,D.str alI.2.2.2.1,D.sl false 5 (au alI.2.2.2.2.2.1)]],alI.2.2.2.2.2.2.1,alI.2.2.2.2.2.2.2.1,alI.2.2.2.2.2.2.2.2.1,alI.2.2.2.2.2.2.2.2.2))) else none)) else none)) else none)) else none)) λaXM=>
 jg aXM (λakU=>
 (bif ah akU.2.2.2.2.2.2.2.2.2.2.1 then
 ((M.aS 33 akU.1 akU.2.1 true akU.2.2.2.2.2.2.2.2.2.2.1).bind λaAE=>
 (bif ah aAE.2.2.2.2 then
 ((M.aT aAE.2.1 aAE.2.2.1 aAE.2.2.2.1 aAE.2.2.2.2).bind λaAF=>
 (bif ah aAF.2.2.2 then
 ((M.dP aAF.1 aAF.2.1 aAF.2.2.1 aAF.2.2.2).bind λYt=>
 (bif((akU.2.2.2.2.2.2.2.2.2.2.2.length+[[D.int IntKind.i64 Yt.1,D.int IntKind.i64 Yt.2.1,D.str Yt.2.2.1,D.str Yt.2.2.2.1,D.sl false 5 (au Yt.2.2.2.2.2.1)]].length) * 72).ble 140737488355328 then
 (bif(akU.2.2.2.2.2.2.2.2.2.2.2.length+[[D.int IntKind.i64 Yt.1,D.int IntKind.i64 Yt.2.1,D.str Yt.2.2.1,D.str Yt.2.2.2.1,D.sl false 5 (au Yt.2.2.2.2.2.1)]].length).ble 140737488355328 then
 (bif ah Yt.2.2.2.2.2.2.2.2.2 then
 (some ((akU.2.2.2.2.2.2.1,akU.2.2.2.2.2.2.2.1,akU.2.2.2.2.2.2.2.2.1,akU.2.2.2.2.2.2.2.2.2.1,true,akU.2.2.2.2.2.2.2.2.2.2.2++[[D.int IntKind.i64 Yt.1,D.int IntKind.i64 Yt.2.1,D.str Yt.2.2.1,D.str Yt.2.2.2.1,D.sl false 5 (au Yt.2.2.2.2.2.1)]],Yt.2.2.2.2.2.2.1,Yt.2.2.2.2.2.2.2.1,Yt.2.2.2.2.2.2.2.2.1,Yt.2.2.2.2.2.2.2.2.2))) else none) else none) else none)) else none)) else none)) else none)) λaXN=>
 letE aXN λain=>
 (bif ah ain.2.2.2.2.2.2.2.2.2.2.2.1 then
 ((M.aS 33 ain.1 ain.2.1 ain.2.2.1 ain.2.2.2.2.2.2.2.2.2.2.2.1).bind λaAG=>
 (bif ah aAG.2.2.2.2 then
 ((M.aT aAG.2.1 aAG.2.2.1 aAG.2.2.2.1 aAG.2.2.2.2).bind λah6=>
 (bif ah ah6.2.2.2 then
 ((M.dP ah6.1 ah6.2.1 ah6.2.2.1 ah6.2.2.2).bind λSv=>
 (bif((ain.2.2.2.2.2.2.2.2.2.2.2.2.length+[[D.int IntKind.i64 Sv.1,D.int IntKind.i64 Sv.2.1,D.str Sv.2.2.1,D.str Sv.2.2.2.1,D.sl false 5 (au Sv.2.2.2.2.2.1)]].length) * 72).ble 140737488355328 then
 (bif(ain.2.2.2.2.2.2.2.2.2.2.2.2.length+[[D.int IntKind.i64 Sv.1,D.int IntKind.i64 Sv.2.1,D.str Sv.2.2.1,D.str Sv.2.2.2.1,D.sl false 5 (au Sv.2.2.2.2.2.1)]].length).ble 140737488355328 then
 (bif ah Sv.2.2.2.2.2.2.2.2.2 then
 (some ((ain.2.2.2.2.2.2.2.1,ain.2.2.2.2.2.2.2.2.1,ain.2.2.2.2.2.2.2.2.2.1,ain.2.2.2.2.2.2.2.2.2.2.1,true,ain.2.2.2.2.2.2.2.2.2.2.2.2++[[D.int IntKind.i64 Sv.1,D.int IntKind.i64 Sv.2.1,D.str Sv.2.2.1,D.str Sv.2.2.2.1,D.sl false 5 (au Sv.2.2.2.2.2.1)]],Sv.2.2.2.2.2.2.1,Sv.2.2.2.2.2.2.2.1,Sv.2.2.2.2.2.2.2.2.1,Sv.2.2.2.2.2.2.2.2.2))) else none) else none) else none)) else none)) else none)) else none)) else
 (bif ah alH.2.2.2.2 then
 ((M.aS 33 alH.2.1 alH.2.2.1 alH.2.2.2.1 alH.2.2.2.2).bind λuQ=>
 (bif ah uQ.2.2.2.2 then
 ((M.aT uQ.2.1 uQ.2.2.1 uQ.2.2.2.1 uQ.2.2.2.2).bind λaam=>
 (bif ah aam.2.2.2 then
 ((M.dP aam.1 aam.2.1 aam.2.2.1 aam.2.2.2).bind λaan=>
 (bif ah aan.2.2.2.2.2.2.2.2.2 then
 (some ((44,0,x,[],true,[[D.int IntKind.i64 aan.1,D.int IntKind.i64 aan.2.1,D.str aan.2.2.1,D.str aan.2.2.2.1,D.sl false 5 (au aan.2.2.2.2.2.1)]],aan.2.2.2.2.2.2.1,aan.2.2.2.2.2.2.2.1,aan.2.2.2.2.2.2.2.2.1,aan.2.2.2.2.2.2.2.2.2))) else none)) else none)) else none)) else none))) else none) else
 (bif ah akT.2.2.2.2 then
 ((M.aS 33 akT.2.1 akT.2.2.1 akT.2.2.2.1 akT.2.2.2.2).bind λalu=>
 (bif ah alu.2.2.2.2 then
 ((M.aT alu.2.1 alu.2.2.1 alu.2.2.2.1 alu.2.2.2.2).bind λYP=>
 (bif ah YP.2.2.2 then
 ((M.dP YP.1 YP.2.1 YP.2.2.1 YP.2.2.2).bind λUH=>
 (bif ah UH.2.2.2.2.2.2.2.2.2 then
 (some ((44,0,x,[],true,[[D.int IntKind.i64 UH.1,D.int IntKind.i64 UH.2.1,D.str UH.2.2.1,D.str UH.2.2.2.1,D.sl false 5 (au UH.2.2.2.2.2.1)]],UH.2.2.2.2.2.2.1,UH.2.2.2.2.2.2.2.1,UH.2.2.2.2.2.2.2.2.1,UH.2.2.2.2.2.2.2.2.2))) else none)) else none)) else none)) else none)))
def fpP(l:List Tk)(n:Nat)(x:aK)(j:Nat)(nt:gW):PR Tn:=(jD l 32 j nt).bind λ_ j nt=>(bif bG l j==33 then .ok [] j nt else Gn l n [] j nt).bind λL j nt=>(jD l 33 j nt).bind λ_ j nt=>(JZ l n (nl l j nt).1 (nl l j nt).2).bind λb j nt=> .ok (.mk 44 0 x [] (L++[b])) j nt
def aEB(hl:l.length<=1048576)(n:Nat)(x:aK){i:Nat}{nt:gW}(hi:i<=l.length)(hn:nt.length<=i):AT l (fnC x (ay l) (i:Int) false (encS nt)) (fpP l n x i nt):=by
 rw[fnC,fpP];refine NU (R:=AT l) hl (by decide) ?_ (λ_ hlt=> ?_)
 ·simp only[zaT,aX,dY,aJ,wV,aj,JC];refine AT.EN (R:=λo=>AT l o (.bad i)) (aup hl aC) λk op x y fl ks nt hn=> ?_
  simp only[dY,aJ];exact AT.fO hn
 ·simp only[Bool.not_false,aJ,dY,fG,aj,bne];cases h33:bG l (i+1)==33 with
  |true=>
   simp only[zaT,aX,dY,aJ,PR.bind];have e33:bG l (i+1)=33:=by rwa [beq_iff_eq] at h33
   have hlt':=dI h33 (by decide);have hf:=EC (l:=l) (i:=i+1+1) (nt:=nt) aC;simp only[jD,h33,aJ,as2 hl (by decide) e33,aj,dY,SN hl (i+1+1) nt aC aC];refine AT.elim (R:=AT l) (aq4 hl n aC aC) (λ_=>trivial) (λk op x y fl ks j nt hn=> ?_) (λb fb kb j nt hb eb=> ?_)
   ·simp only[dY,aJ];exact AT.fO hn
   ·simp only[dY,aJ];exact AT.mk rfl rfl rfl rfl (fz1 (Og hb))
  |false=>
   simp only[Bool.not_false,aJ,aX];have hp:=awu hl x n (i:=i+1) (nt:=nt) aC aC;have CJ:=aiF (l:=l) n [] (i+1) nt aC;have h6:(Gn l n [] (i+1) nt).sat λL _ _=>L.length<=6:=am5 n [] (i+1) nt (by decide)
   generalize Gn l n [] (i+1) nt=p at hp CJ h6|-;cases p with
   |out=>trivial
   |bad j=>
    obtain⟨ZG,rows,h1,h2,h3|h3⟩:=hp
    ·rw[h3,aj];simp only[g2,jg,dY,aJ,wV,aj,JC];refine AT.EN (R:=λo=>AT l o (.bad j)) (aup hl h1) λk op x y fl ks nt hn=> ?_
     simp only[Bd,dY,aJ];rw[bC aC,aJ,bC aC,aJ];exact AT.fO hn
    ·rw[h3,aj];simp only[g3,jg,dY,aJ,wV,aj,JC];refine AT.EN (R:=λo=>AT l o (.bad j)) (aup hl h1) λk op x y fl ks nt hn=> ?_
     simp only[Bd,dY,aJ];rw[bC aC,aJ,bC aC,aJ];exact AT.fO hn
   |ok L j m=>
    have hp':_=_:=hp;have hs':i+1<j/\FN l (i+1) nt.length j m.length/\sizes L+m.length+6 * (i+1)<=sizes ([]:List Tn)+nt.length+6 * j:=CJ;have h6':L.length<=6:=h6;rw[hp',aj];simp only[g2,jg,dY,aJ,PR.bind];refine NU (R:=AT l) hl (by decide) ?_ (λ_ hlt=> ?_)
    ·simp only[dY,aJ,JC,aj];refine AT.EN (R:=λo=>AT l o (.bad j)) (aup hl aC) λk op x y fl ks nt hn=> ?_
     simp only[Bd,dR,dY,aJ];rw[bC aC,aJ,bC aC,aJ];exact AT.fO hn
    ·have hf:=EC (l:=l) (i:=j+1) (nt:=m) aC;simp only[dY,aJ,SN hl (j+1) m aC aC,aj];refine AT.elim (R:=AT l) (aq4 hl n aC aC) (λ_=>trivial) (λk op x y fl ks j nt hn=> ?_) (λb fb kb j nt hb eb=> ?_)
     ·simp only[Bd,dR,dY,aJ];rw[bC aC,aJ,bC aC,aJ];exact AT.fO hn
     ·simp only[Bd,dR,dY,aJ];rw[bC aC,aJ,bC aC,aJ];exact AT.mk rfl rfl rfl rfl (by rw[SS,jf,fz1 (Og hb)];exact(Aa _ _ _).symm)
def aRB(hl:l.length<=1048576)(n:Nat){i:Nat}{nt:gW}(hi:i<=l.length)(hn:nt.length<=i):AT l (M.pW (ay l) (i:Int) false (encS nt)) (akH l n i nt):=by
 simp only[M.pW,M.Dc,M.Eo,M.Ep,M.Bq,dY,aJ,fG,aj,bne,akH];cases h6:bG l i==6 with
 |true=>have hlt:=dI h6 (by decide);simp only[zaT,aX,dY,aJ,NT hl hlt,aj,Bool.true_or];exact aEB hl n (CG l i) aC aC
 |false=>
  simp only[Bool.not_false,aJ,Bool.false_or];cases h7:bG l i==7 with
  |true=>have hlt:=dI h7 (by decide);simp only[zaT,aX,dY,aJ,NT hl hlt,aj];exact aEB hl n (CG l i) aC aC
  |false=>simp only[Bool.not_false,aJ,aX,dY];exact AT.fO aC
def aAH{k op:Int}{s s':aK}{fl:Bool}{ks:ak}{x:Tn}{j:Nat}{nt:gW}(h1:k=x.kind)(h2:op=x.op)(h3:s=x.text)(h4:s'=x.other)(h5:au ks=dN false x.kids)(hn:nt.length<=l.length):
  AT l ((M.jB (ay l) (j:Int) false (encS nt)).bind λr=>bif ah r.2.2.2 then some (k,op,s,s',fl,ks,r.1,r.2.1,r.2.2.1,r.2.2.2) else none) (endP l x j nt):=by
 rw[asN,aj];simp only[dY,aJ];exact aAd h1 h2 h3 h4 h5 hn
def aor(hl:l.length<=1048576)(n:Nat)(k op:Int){i:Nat}{nt:gW}(hi:i<=l.length)(hn:nt.length<=i):
  AT l ((M.dP (ay l) (i:Int) false (encS nt)).bind λr=>bif ah r.2.2.2.2.2.2.2.2.2 then some (k,op,[],[],true,[[D.int .i64 r.1,D.int .i64 r.2.1,D.str r.2.2.1,D.str r.2.2.2.1,D.sl false 5 (au r.2.2.2.2.2.1)]],r.2.2.2.2.2.2.1,r.2.2.2.2.2.2.2.1,r.2.2.2.2.2.2.2.2.1,r.2.2.2.2.2.2.2.2.2) else none)
   ((JZ l n i nt).bind λb i nt=> .ok (.mk k op [] [] [b]) i nt):=by
 refine AT.elim (R:=AT l) (aq4 hl n hi hn) (λ_=>trivial) (λk op x y fl ks j nt hn=> ?_) (λb fb kb j nt hb eb=> ?_)
 ·simp only[dY,aJ];exact AT.fO hn
 ·simp only[dY,aJ];exact AT.mk rfl rfl rfl rfl (fz1 (Og hb))
def aAI(hl:l.length<=1048576)(n:Nat){i:Nat}{nt:gW}(hi:i<=l.length)(hn:nt.length<=i):AT l (M.ni (ay l) (i:Int) false (encS nt)) (Wj l n i nt):=by
 simp only[M.ni,M.Jr,M.GX,M.GY,dY,aJ,fG,aj,Wj];cases h10:bG l i==10 with
 |true=>have hlt:=dI h10 (by decide);simp only[aJ,pX hl hlt];exact aor hl n 40 0 aC aC
 |false=>
 cases h11:bG l i==11 with
 |true=>have hlt:=dI h11 (by decide);simp only[aJ,aX,pX hl hlt];exact aor hl n 41 0 aC aC
 |false=>
 cases h12:bG l i==12 with
 |true=>have hlt:=dI h12 (by decide);simp only[aJ,aX,pX hl hlt];exact AT.pass (aRB hl n aC aC) (by intros;simp only[dY,aJ])
 |false=>
 cases h30:bG l i==30 with
 |true=>simp only[aJ,aX];exact aor hl n 42 2 hi hn
 |false=>
 simp only[aX];refine AP.elim (R:=AT l) (akN hl n false false hi hn) (λ_=>trivial) (λk op x y fl ks tg j nt hn=> ?_) (λx fx kx j nt hx ex=> ?_)
 ·simp only[zaT,aX,dY,aJ];exact AT.fO hn
 ·have s1:=iM (IU aC aC hi) ex;simp only[Bool.not_false,aJ,dY,fG,aj];cases h36:bG l j==36 with
  |false=>
   simp only[aX,PR.bind];cases hb:bG l j==30 with
   |false=>simp only[aX];exact aAH rfl rfl rfl rfl (fz1 (Og hx)) aC
   |true=>
    simp only[aJ];refine AT.elim (R:=AT l) (aq4 hl n aC aC) (λ_=>trivial) (λk op x y fl ks j nt hn=> ?_) (λb fb kb j nt hb eb=> ?_)
    ·simp only[dY,aJ];exact AT.fO hn
    ·simp only[dY,aJ];exact AT.mk rfl rfl rfl rfl (by rw[SS,fz1 (Og hx),fz1 (Og hb)];rfl)
  |true=>
   have hlt:=dI h36 (by decide);have hf:=EC (l:=l) (i:=j+1) (nt:=nt) aC;simp only[aJ,pX hl hlt,SN hl (j+1) nt aC aC,aj,dY];have e:∀p:PR Xp,((p.bind λy i nt=>PR.ok ((43:Int),[x.1,y.1]) i nt).bind λq i nt=>bif bG l i==30 then(JZ l n i nt).bind λb i nt=>PR.ok (Tn.mk q.1 3 [] [] (q.2++[b])) i nt else endP l (Tn.mk q.1 1 [] [] q.2) i nt)=
     p.bind λy i nt=>bif bG l i==30 then(JZ l n i nt).bind λb i nt=>PR.ok (Tn.mk 43 3 [] [] ([x.1,y.1]++[b])) i nt else endP l (Tn.mk 43 1 [] [] [x.1,y.1]) i nt:=by
    intro p;cases p<;>rfl
   rw[e];refine AP.elim (R:=AT l) (akN hl n false false aC aC) (λ_=>trivial) (λk op x y fl ks tg j nt hn=> ?_) (λy fy ky j nt hy ey=> ?_)
   ·simp only[zaT,aX,dY,aJ];exact AT.fO hn
   ·have s2:=iM (IU aC aC aC) ey;simp only[Bool.not_false,aJ,dY,fG,aj];cases hb:bG l j==30 with
    |false=>simp only[aX];exact aAH rfl rfl rfl rfl (by rw[SS,fz1 (Og hx),fz1 (Og hy)];rfl) aC
    |true=>
     simp only[aJ];refine AT.elim (R:=AT l) (aq4 hl n aC aC) (λ_=>trivial) (λk op x y fl ks j nt hn=> ?_) (λb fb kb j nt hb eb=> ?_)
     ·simp only[dY,aJ];exact AT.fO hn
     ·simp only[dY,aJ];exact AT.mk rfl rfl rfl rfl (by rw[SS,SS,fz1 (Og hx),fz1 (Og hy),fz1 (Og hb)];rfl)
def awv(hl:l.length<=1048576){i:Nat}{nt:gW}(h:bG l i=31)(hi:i<=l.length)(hn:nt.length<=i):AT l (M.ni (ay l) (i:Int) false (encS nt)) (.bad i):=by
 have e:Wj l 20 i nt=.bad i:=by
  have e:ex l 20 1 false false i nt=.bad i:=auj (.inr h) nt 1 (by decide) (by decide) 20 false false (by decide);have h1:(bG l i==10)=false:=by rw[h];rfl
  have h2:(bG l i==11)=false:=by rw[h];rfl
  have h3:(bG l i==12)=false:=by rw[h];rfl
  have h4:(bG l i==30)=false:=by rw[h];rfl
  simp only[Wj,h1,h2,h3,h4,aX,e];rfl
 have:=aAI hl 20 hi hn
 rwa [e] at this
variable {l:List Tk}
def lf(s:aK):Tn:=.mk 1 0 s [] []
def NW(ss:List (aK)):ak:=ss.map λs=>[D.sl true 5 [[D.int .i64 1,D.int .i64 0,D.str s,D.str [],D.sl true 1 []]]]
def Ws(ss:List (aK)):(NW ss).length=ss.length:=by rw[NW,zaV]
def aiH:∀ss:List (aK),au (NW ss)=parts (ss.map lf)
 |[]=>rfl
 |s::ss=>by have h:NW (s::ss)=[D.sl true 5 [[D.int .i64 1,D.int .i64 0,D.str s,D.str [],D.sl true 1 []]]]::NW ss:=rfl;rw[h,au,aiH ss];rfl
def am6(ss:List (aK))(s:aK):NW ss++[[D.sl true 5 [[D.int .i64 1,D.int .i64 0,D.str s,D.str [],D.sl true 1 []]]]]=NW (ss++[s]):=by simp[NW]
def Yu:∀ss:List (aK),sizes (ss.map lf)=ss.length
 |[]=>rfl
 |s::ss=>by rw[zmc,sizes,Yu ss,lf];simp[Tn.size,sizes];omega
def AIt(l:List Tk)(o:Option TY):PR Tn->Prop
 | .ok t j nt=>∃fl rows ns,au rows=aU false (t.flat 0)/\txt ns=nt/\o=some (fl,rows,ay l,(j:Int),false,ay ns)
 | .bad j=>∃fl rows ns,j<=l.length/\ns.length<=l.length/\o=some (fl,rows,ay l,(j:Int),true,ay ns)
 | .out=>True
def AS.ait{i n0:Nat}{o:Option TY}{p:PR Tn}(h:AS l i n0 o p):AIt l o p:=by
 cases p with
 |ok x j m=>exact h
 |out=>trivial
 |bad j=>obtain⟨fl,rows,ns,R,h1,h2,h3,h4,h5,h6,h7⟩:=h;exact⟨fl,rows,ns,h2,h3,h7⟩
def AIt.mk{x:Tn}{j:Nat}{fl:Bool}{rows:ak}{ns:List Tk}(h:au rows=aU false (x.flat 0)):AIt l (some (fl,rows,ay l,(j:Int),false,ay ns)) (.ok x j (txt ns)):=⟨_,_,_,h,rfl,rfl⟩
def AIt.fO{j:Nat}{fl:Bool}{rows:ak}{ns:List Tk}(h2:j<=l.length)(h3:ns.length<=l.length):AIt l (some (fl,rows,ay l,(j:Int),true,ay ns)) (.bad j):=⟨_,_,_,h2,h3,rfl⟩
def AIt.pass{o:Option TY}{p:PR Tn}(h:AIt l o p):AIt l (o.bind λr=>bif ah r.2.2.2.2.2 then some (false,au r.2.1,r.2.2.1,r.2.2.2.1,r.2.2.2.2.1,r.2.2.2.2.2) else none) p:=by
 cases p with
 |out=>trivial
 |bad j=>obtain⟨fl,rows,ns,h1,h2,rfl⟩:=h;simp only[aj,bg,aJ];exact AIt.fO h1 h2
 |ok x j m=>obtain⟨fl,rows,ns,h1,rfl,rfl⟩:=h;simp only[aj,bg,aJ];exact AIt.mk (fzN h1)
noncomputable def fnS(x:aK)(c:ak)(c1:Int)(c2:Bool)(c3:ak):Option TY:=
 ((M.aI 32 c c1 c2 c3).bind λanX=>
 ((M.lD x ((anX.2.2.2.1,anX.2.2.2.2.1,anX.2.2.2.2.2.1,[],anX.2.2.2.2.2.2))).bind λaFO=>
 jg aFO (λYR=>
 (bif ah YR.2.2.2.2 then
 ((M.aI 33 YR.1 YR.2.1 YR.2.2.1 YR.2.2.2.2).bind λaaq=>
 (bif ah aaq.2.2.2.2.2.2 then
 ((M.bZ aaq.2.2.2.1 aaq.2.2.2.2.1 aaq.2.2.2.2.2.1 aaq.2.2.2.2.2.2).bind λaar=>
 (bif ah aar.2.2.2 then
 ((M.iC aar.1 aar.2.1 aar.2.2.1 aar.2.2.2).bind λUk=>
 (bif((YR.2.2.2.1.length+[[D.sl false 5 (au Uk.2.1)]].length) * 24).ble 140737488355328 then
 (bif(YR.2.2.2.1.length+[[D.sl false 5 (au Uk.2.1)]].length).ble 140737488355328 then
 ((M.bU 44 0 x [] [] (au (YR.2.2.2.1++[[D.sl false 5 (au Uk.2.1)]]))).bind λayX=>
 (bif ah Uk.2.2.2.2.2 then
 (some ((false,au ayX,Uk.2.2.1,Uk.2.2.2.1,Uk.2.2.2.2.1,Uk.2.2.2.2.2))) else none)) else none) else none)) else none)) else none)) else none)) λaFP=>
 letE aFP λalE=>
 (bif ah alE.2.2.2.2 then
 ((M.aI 33 alE.1 alE.2.1 alE.2.2.1 alE.2.2.2.2).bind λaAJ=>
 (bif ah aAJ.2.2.2.2.2.2 then
 ((M.bZ aAJ.2.2.2.1 aAJ.2.2.2.2.1 aAJ.2.2.2.2.2.1 aAJ.2.2.2.2.2.2).bind λaAK=>
 (bif ah aAK.2.2.2 then
 ((M.iC aAK.1 aAK.2.1 aAK.2.2.1 aAK.2.2.2).bind λaq6=>
 (bif((alE.2.2.2.1.length+[[D.sl false 5 (au aq6.2.1)]].length) * 24).ble 140737488355328 then
 (bif(alE.2.2.2.1.length+[[D.sl false 5 (au aq6.2.1)]].length).ble 140737488355328 then
 ((M.bU 44 0 x [] [] (au (alE.2.2.2.1++[[D.sl false 5 (au aq6.2.1)]]))).bind λaXO=>
 (bif ah aq6.2.2.2.2.2 then
 (some ((false,au aXO,aq6.2.2.1,aq6.2.2.2.1,aq6.2.2.2.2.1,aq6.2.2.2.2.2))) else none)) else none) else none)) else none)) else none)) else none)))
noncomputable def fnT(x:aK)(c:ak)(c1:Int)(c2:Bool)(rows c3:ak):Option TY:=
 (bif ah c3 then
 ((M.aI 33 c c1 c2 c3).bind λaaq=>
 (bif ah aaq.2.2.2.2.2.2 then
 ((M.bZ aaq.2.2.2.1 aaq.2.2.2.2.1 aaq.2.2.2.2.2.1 aaq.2.2.2.2.2.2).bind λaar=>
 (bif ah aar.2.2.2 then
 ((M.iC aar.1 aar.2.1 aar.2.2.1 aar.2.2.2).bind λUk=>
 (bif((rows.length+[[D.sl false 5 (au Uk.2.1)]].length) * 24).ble 140737488355328 then
 (bif(rows.length+[[D.sl false 5 (au Uk.2.1)]].length).ble 140737488355328 then
 ((M.bU 44 0 x [] [] (au (rows++[[D.sl false 5 (au Uk.2.1)]]))).bind λayX=>
 (bif ah Uk.2.2.2.2.2 then
 (some ((false,au ayX,Uk.2.2.1,Uk.2.2.2.1,Uk.2.2.2.2.1,Uk.2.2.2.2.2))) else none)) else none) else none)) else none)) else none)) else none)
def AV(l:List Tk)(o:Option (S5⊕S5)):PR (List Tn)->Prop
 | .ok L j nt=>∃ns ss u,L=ss.map lf/\ss.length<=8/\txt ns=nt/\o=some u/\(u=.inl (ay l,(j:Int),false,NW ss,ay ns)\/u=.inr (ay l,(j:Int),false,NW ss,ay ns))
 | .bad j=>∃ns ss u,j<=l.length/\ns.length<=l.length/\ss.length<=8/\o=some u/\(u=.inl (ay l,(j:Int),true,NW ss,ay ns)\/u=.inr (ay l,(j:Int),true,NW ss,ay ns))
 | .out=>True
def aAL(hl:l.length<=3000)(x:aK):
  ∀(n:Nat) (ss:List (aK)) (i:Nat) (ns:List Tk),(0<ss.length\/(bG l i==33)=false)->ss.length<6->i<=l.length->ns.length<=i->
   AV l (M.lD x (ay l,(i:Int),false,NW ss,ay ns)) (Gn l n (ss.map lf) i (txt ns))
 |0,_,_,_,_,_,_,_=>by rw[Gn];trivial
 |n+1,ss,i,ns,hc0,hL,hi,hn=>by
  rw[Gn,M.lD,nameP];have hb:M.ql x (ay l,(i:Int),false,NW ss,ay ns)=(M.aI 6 (ay l) (i:Int) false (ay ns)).bind λr=>
    bif(((NW ss).length+[[D.sl true 5 [[D.int IntKind.i64 1,D.int IntKind.i64 0,D.str r.2.1,D.str [],D.sl true 1 []]]]].length) * 24).ble 140737488355328 then
     (bif((NW ss).length+[[D.sl true 5 [[D.int IntKind.i64 1,D.int IntKind.i64 0,D.str r.2.1,D.str [],D.sl true 1 []]]]].length).ble 140737488355328 then
     (bif ah r.2.2.2.2.2.2 then
      ((M.aN r.2.2.2.1 r.2.2.2.2.1 r.2.2.2.2.2.1 r.2.2.2.2.2.2).bind λxR=>
      (bif xR.1 !=36 then
       (some (.inr (.inl ((xR.2.1,xR.2.2.1,xR.2.2.2.1,NW ss++[[D.sl true 5 [[D.int IntKind.i64 1,D.int IntKind.i64 0,D.str r.2.1,D.str [],D.sl true 1 []]]]],xR.2.2.2.2))))) else
       (bif((NW ss++[[D.sl true 5 [[D.int IntKind.i64 1,D.int IntKind.i64 0,D.str r.2.1,D.str [],D.sl true 1 []]]]]).length:Int)==6 then
       (bif ah xR.2.2.2.2 then
        ((M.aI 36 xR.2.1 xR.2.2.1 true xR.2.2.2.2).bind λVR=>
        (bif ah VR.2.2.2.2.2.2 then
         ((M.bZ VR.2.2.2.1 VR.2.2.2.2.1 VR.2.2.2.2.2.1 VR.2.2.2.2.2.2).bind λYM=>
         (some (.inl ((YM.1,YM.2.1,YM.2.2.1,NW ss++[[D.sl true 5 [[D.int IntKind.i64 1,D.int IntKind.i64 0,D.str r.2.1,D.str [],D.sl true 1 []]]]],YM.2.2.2))))) else none)) else none) else
       (bif ah xR.2.2.2.2 then
        ((M.aI 36 xR.2.1 xR.2.2.1 xR.2.2.2.1 xR.2.2.2.2).bind λVT=>
        (bif ah VT.2.2.2.2.2.2 then
         ((M.bZ VT.2.2.2.1 VT.2.2.2.2.1 VT.2.2.2.2.2.1 VT.2.2.2.2.2.2).bind λYN=>
         (some (.inl ((YN.1,YN.2.1,YN.2.2.1,NW ss++[[D.sl true 5 [[D.int IntKind.i64 1,D.int IntKind.i64 0,D.str r.2.1,D.str [],D.sl true 1 []]]]],YN.2.2.2))))) else none)) else none)))) else none) else none) else none:=by
   by_cases hL0:0<ss.length
   ·have hd:decide (((NW ss).length:Int)>0)=true:=by rw[zdt];rw[Ws];omega
    simp only[M.ql,M.qj,M.oH,Bool.not_false,aJ,aX,bg,aj,hd]
   ·have hd:decide (((NW ss).length:Int)>0)=false:=by rw[Ac];rw[Ws];omega
    have hk:(bG l i==33)=false:=by
     rcases hc0 with h|h
     ·exact absurd h hL0
     ·exact h
    have hk':(bG l i !=33)=true:=by rw[bne,hk];rfl
    simp only[M.ql,M.qj,M.oH,Bool.not_false,aJ,aX,bg,aj,hd,iy,hk']
  cases h6:bG l i==6 with
  |false=>
   have hend:∀ss',M.ql x (ay l,(i:Int),true,NW ss',ay ns)=some (.inr (.inr (ay l,(i:Int),true,NW ss',ay ns))):=λss'=>by simp only[M.ql,M.qj,M.oH,zaT,aX]
   simp only[wS h6,aj,am6,Ws,Bd,DJ,bg,aJ,iy,bne,lN,Md] at hb;rw[bC aC,aJ,bC aC,aJ] at hb;cases hc:bG l i==36 with
   |false=>simp only[hc,Bool.not_false,aJ] at hb;exact⟨ns,ss++[[]],_,hi,aC,by rw[DJ,Bd];omega,aO hb,.inl rfl⟩
   |true=>simp only[hc,zaT,aX,Bool.cond_self] at hb;rw[aZ hb];exact⟨ns,ss++[[]],_,hi,aC,by rw[DJ,Bd];omega,aO (hend _),.inr rfl⟩
  |true=>
   have hlt:=dI h6 (by decide);have e6:bG l i=6:=by rwa [beq_iff_eq] at h6
   simp only[fM hl e6 (by decide),aj,am6,Ws,Bd,DJ,bg,aJ,iy,bne] at hb;rw[bC aC,aJ,bC aC,aJ] at hb;simp only[aJ,PR.bind,zaV,show∀s,ss.map lf++[Tn.mk 1 0 s [] []]=(ss++[s]).map lf from λs=>by rw[List.map_append];rfl];cases hc:bG l (i+1)==36 with
   |false=>simp only[hc,Bool.not_false,aJ] at hb;exact⟨ns,ss++[CG l i],_,rfl,by rw[DJ,Bd];omega,rfl,aO hb,.inl rfl⟩
   |true=>
    have hlt':=dI hc (by decide);have e36:bG l (i+1)=36:=by rwa [beq_iff_eq] at hc
    simp only[hc,zaT,aX] at hb;simp only[aJ];cases hs:Nat.beq (ss.length+1) 6 with
    |true=>
     have e:=MB hs;have e':(((ss.length+1:Nat):Int)==6)=true:=by rw[e];rfl
     simp only[e',aJ,lN,Md,aj,bg] at hb;rw[aZ hb];refine⟨ns,ss++[CG l i],_,aC,aC,by rw[DJ,Bd];omega,aO ?_,.inr rfl⟩;simp only[M.ql,M.qj,M.oH,zaT,aX]
    |false=>
     have hne:ss.length+1≠6:=Nat.ne_of_beq_eq_false hs;have e':(((ss.length+1:Nat):Int)==6)=false:=by rw[Y6];omega
     obtain⟨NG,t2,hln⟩:=KU hl (i+1+1) ns aC aC;have hf:=EC (l:=l) (i:=i+1+1) (nt:=txt ns) aC;simp only[e',aX,fM hl e36 (by decide),aj,bg,aJ,hln] at hb;rw[aZ hb,aX,<-t2];rw[<-t2] at hf;simp only[zaV] at hf;exact aAL hl x n (ss++[CG l i]) _ NG (.inl (by rw[DJ,Bd];omega)) (by rw[DJ,Bd];omega) aC aC
def aos(hl:l.length<=3000)(x:aK){ss:List (aK)}(hs:ss.length<=8){j:Nat}{ns:List Tk}(h2:j<=l.length)(h3:ns.length<=l.length):AIt l (fnT x (ay l) (j:Int) true (NW ss) (ay ns)) (.bad j):=by
 simp only[fnT,bg,aJ,lN,Md,aj];obtain⟨fl,rows,ns',R,g1,g2,g3,g4,g5⟩:=aHc (l:=l) j ns aC;obtain⟨R',_,e1,e2,e3⟩:=acp 44 0 x [] (((ss.map lf).map λt=>t.flat 0)++[R]) (b:=8+R.length) (by rw[yZ,pq,Yu,lens,lens];omega) aC (by rw[DJ,zaV,zaV,Bd];omega) (KB.trees _ (by rw[Yu];omega) (KB.cons g4 KB.nil));have e:au (NW ss++[[D.sl false 5 (au rows)]])=uy (((ss.map lf).map λt=>t.flat 0)++[R]):=by rw[SS,aiH,show au [[D.sl false 5 (au rows)]]=uy [R] by rw[g2];exact aii R,yC];simp[uy]
 simp only[g1,aj,e,e1,bg,aJ,Ws,Bd];rw[bC aC,aJ,bC aC,aJ];exact AIt.fO h2 aC
def aAM(hl:l.length<=3000)(hx:aeP l)(n:Nat)(x:aK){ss:List (aK)}(hs:ss.length<=8){j:Nat}{ns:List Tk}(h2:j<=l.length)(h3:ns.length<=j):
  AIt l (fnT x (ay l) (j:Int) false (NW ss) (ay ns)) ((jD l 33 j (txt ns)).bind λ_ j nt=>(JZ l n (nl l j nt).1 (nl l j nt).2).bind λb j nt=> .ok (.mk 44 0 x [] (ss.map lf++[b])) j nt):=by
 rw[jD];cases hc:bG l j==33 with
 |false=>have hb:=aos hl x hs h2 (ns:=ns) aC;simp only[fnT,bg,aJ,wS hc,lN,aj] at hb|-;exact hb
 |true=>
  have hlt:=dI hc (by decide);have e33:bG l j=33:=by rwa [beq_iff_eq] at hc
  obtain⟨NG,t2,hln⟩:=KU hl (j+1) ns aC aC;have hf:=EC (l:=l) (i:=j+1) (nt:=txt ns) aC;simp only[fnT,bg,aJ,fM hl e33 (by decide),hln,aj,PR.bind];generalize nl l (j+1) (txt ns)=q at hf t2|-;rw[<-t2] at hf|-;simp only[zaV] at hf;have CJ:=(RD l n).blk q.1 (txt NG) aC;refine AS.elim (Q:=AIt l) (auq hl hx n (i:=q.1) (ns:=NG) aC aC) (λ_=>trivial) (λfl rows j' ns3 R g1 g2 g3 g4 g5 g6=> ?_) (λb fl rows j' ns3 h1 he=> ?_)
  ·obtain⟨R',_,e1,e2,e3⟩:=acp 44 0 x [] (((ss.map lf).map λt=>t.flat 0)++[R]) (b:=8+R.length) (by rw[yZ,pq,Yu,lens,lens];omega) aC (by rw[DJ,zaV,zaV,Bd];omega) (KB.trees _ (by rw[Yu];omega) (KB.cons g6 KB.nil));have e:au (NW ss++[[D.sl false 5 (au rows)]])=uy (((ss.map lf).map λt=>t.flat 0)++[R]):=by rw[SS,aiH,show au [[D.sl false 5 (au rows)]]=uy [R] by rw[g4];exact aii R,yC];simp[uy]
   simp only[e,e1,aj,bg,aJ,Ws,Bd];rw[bC aC,aJ,bC aC,aJ];exact AIt.fO g2 g3
  ·have hs':=iM CJ he;simp only[zaV] at hs';have e:au (NW ss++[[D.sl false 5 (au rows)]])=parts (ss.map lf++[b]):=by rw[SS,aiH,show au [[D.sl false 5 (au rows)]]=parts [b] by rw[h1];exact aii _,Yq]
   simp only[e,EI 44 0 x [] [] (ss.map lf++[b]) (by rw[sizes1,Yu];omega),aj,bg,aJ,Ws,Bd];rw[bC aC,aJ,bC aC,aJ];exact AIt.mk (fzN (aV _ _))
def aEC(hl:l.length<=3000)(x:aK){j:Nat}{ns:List Tk}(h2:j<=l.length)(h3:ns.length<=l.length):AIt l (fnS x (ay l) (j:Int) true (ay ns)) (.bad j):=by
 have hend:M.lD x (ay l,(j:Int),true,NW [],ay ns)=some (.inr (ay l,(j:Int),true,NW [],ay ns)):=by rw[M.lD];refine aO ?_;simp only[M.ql,M.qj,M.oH,zaT,aX]
 have hend':M.lD x (ay l,(j:Int),true,[],ay ns)=some (.inr (ay l,(j:Int),true,NW [],ay ns)):=hend;unfold fnS;rw[lN];simp only[aj,hend',jg,letE];exact aos hl x (ss:=[]) (by decide) h2 h3
def aED(hl:l.length<=3000)(hx:aeP l)(n:Nat)(x:aK){i:Nat}{ns:List Tk}(hi:i<=l.length)(hn:ns.length<=i):
  AIt l (fnS x (ay l) (i:Int) false (ay ns)) ((jD l 32 i (txt ns)).bind λ_ j nt=>(bif bG l j==33 then .ok [] j nt else Gn l n [] j nt).bind λL j nt=>(jD l 33 j nt).bind λ_ j nt=>(JZ l n (nl l j nt).1 (nl l j nt).2).bind λb j nt=> .ok (.mk 44 0 x [] (L++[b])) j nt):=by
 rw[jD];cases hc:bG l i==32 with
 |false=>have hb:=aEC hl x hi (ns:=ns) aC;simp only[fnS,wS hc,lN,aj] at hb|-;exact hb
 |true=>
  have hlt:=dI hc (by decide);have e32:bG l i=32:=by rwa [beq_iff_eq] at hc
  simp only[fnS,fM hl e32 (by decide),aj,aJ,PR.bind];cases h33:bG l (i+1)==33 with
  |true=>
   have hend:M.lD x (ay l,((i+1:Nat):Int),false,[],ay ns)=some (.inr (ay l,((i+1:Nat):Int),false,NW [],ay ns)):=by
    rw[M.lD];refine aO ?_;have hk':(bG l (i+1) !=33)=false:=by rw[bne,h33];rfl
    simp only[M.ql,M.qj,M.oH,Bool.not_false,aJ,zln,show decide (((0:Nat):Int)>0)=false from rfl,aX,bg,iy,aj,hk'];rfl
   simp only[hend,aj,jg,letE,aJ,PR.bind];exact aAM hl hx n x (ss:=[]) (by decide) aC aC
  |false=>
   have hpl:=aAL hl x n [] (i+1) ns (.inr h33) (by decide) aC aC;have CJ:=aiF (l:=l) n [] (i+1) (txt ns) aC;simp only[aX];generalize ho:M.lD x (ay l,((i+1:Nat):Int),false,[],ay ns)=o;have hpl':AV l o (Gn l n [] (i+1) (txt ns)):=by rw[<-ho];exact hpl
   clear hpl;generalize Gn l n [] (i+1) (txt ns)=p at hpl' CJ|-;cases p with
   |out=>trivial
   |bad j=>
    obtain⟨ns',ss,u,g1,g2,g3,rfl,g4⟩:=hpl';have hb:=aos hl x g3 g1 g2;rcases g4 with rfl|rfl
    ·simp only[aj,jg,letE];exact hb
    ·simp only[aj,jg,letE];exact hb
   |ok L j nt=>
    obtain⟨ns',ss,u,rfl,g3,rfl,rfl,g4⟩:=hpl';have hs':i+1<j/\FN l (i+1) (txt ns).length j (txt ns').length/\sizes (ss.map lf)+(txt ns').length+6 * (i+1)<=sizes ([]:List Tn)+(txt ns).length+6 * j:=CJ;simp only[zaV] at hs';have hb:=aAM hl hx n x g3 (j:=j) (ns:=ns') aC aC;rcases g4 with rfl|rfl
    ·simp only[aj,jg,letE,PR.bind];exact hb
    ·simp only[aj,jg,letE,PR.bind];exact hb
def aRC(hl:l.length<=3000)(hx:aeP l)(n:Nat){i:Nat}{ns:List Tk}(h12:bG l i=12)(hn:ns.length<=i):AIt l (M.Fb (ay l) (i:Int) false (ay ns)) (akH l n (i+1) (txt ns)):=by
 have hlt:i<l.length:=eP (by rw[h12];decide);rw[akH];have hw:i64.wrap (((i+1+1:Nat):Int) - 1)=((i+1:Nat):Int):=by rw[bF aC aC];omega
 have hnm:∀k:Int,k≠0->bG l (i+1)=k->(idx (ay l) ((i+1:Nat):Int)).bind (λrow=>cStr row 1)=some (CG l (i+1)):=λk hk e=>by
  have hlt':i+1<l.length:=eP (by rw[e];exact hk);obtain⟨t,ht⟩:∃t,l[i+1]? =some t:=⟨l[i+1],by simp[hlt']⟩
  simp only[dG,iE,ht,Ir,aj,cT1,CG]
 have hrow:∀k:Int,k≠0->bG l (i+1)=k->∃row,idx (ay l) ((i+1:Nat):Int)=some row/\cStr row 1=some (CG l (i+1)):=λk hk e=>by
  have hlt':i+1<l.length:=eP (by rw[e];exact hk);obtain⟨t,ht⟩:∃t,l[i+1]? =some t:=⟨l[i+1],by simp[hlt']⟩
  exact⟨_,by rw[dG,iE,ht];rfl,by simp only[cT1,CG,ht]⟩
 simp only[M.Fb,M.Qu,M.O9,M.Pg,M.Oz,bg,aJ,fM hl h12 (by decide),aj,iy,bne]
 by_cases h7:bG l (i+1)=7
 ·obtain⟨row,r1,r2⟩:=hrow 7 (by decide) h7;simp only[h7,show((7:Int)==7)=true from rfl,show((7:Int)==6)=false from rfl,zaT,aX,Bool.false_or,aJ,fM hl h7 (by decide),aj,Bool.not_false,hw,r1,r2,bg];exact aED hl hx n (CG l (i+1)) (by have:=eP (l:=l) (i:=i+1) (by rw[h7];decide);omega) aC
 ·have f7:(bG l (i+1)==7)=false:=by rwa [Y6]
  simp only[f7,Bool.not_false,aJ,Bool.or_false];cases h6:bG l (i+1)==6 with
  |true=>
   have e6:bG l (i+1)=6:=by rwa [beq_iff_eq] at h6
   obtain⟨row,r1,r2⟩:=hrow 6 (by decide) e6;simp only[aJ,fM hl e6 (by decide),aj,Bool.not_false,hw,r1,r2,bg];exact aED hl hx n (CG l (i+1)) (by have:=eP (l:=l) (i:=i+1) (by rw[e6];decide);omega) aC
  |false=>simp only[aX,wS h6,aj,zaT,bg,aJ];exact aEC hl [] aC aC
variable {l:List Tk}
def as6(hl:l.length<=3000){i n0:Nat}{k op:Int}(ts:List Tn){o:Option TY}{p:PR Tn}(h:AS l i n0 o p)(hn0:n0<=4000)(hts:sizes ts<=30000)(CJ:p.sat λx j m=>x.size<=30000):
  AIt l (o.bind λr=>(M.bU k op [] [] [] (au (parts ts++[[D.sl false 5 (au r.2.1)]]))).bind λr'=>
   bif ah r.2.2.2.2.2 then some (false,au r',r.2.2.1,r.2.2.2.1,r.2.2.2.2.1,r.2.2.2.2.2) else none)
   (p.bind λy j nt=> .ok (.mk k op [] [] (ts++[y])) j nt):=by
 have hlen:(ts.map λt=>t.flat 0).length<=sizes ts:=by rw[zaV];exact yP ts
 cases p with
 |out=>trivial
 |bad j=>obtain⟨fl,rows,ns,R,g1,g2,g3,g4,g5,g6,rfl⟩:=h;obtain⟨R',_,e1,e2,e3⟩:=acp k op [] [] ((ts.map λt=>t.flat 0)++[R]) (b:=sizes ts+R.length) (by rw[yZ,pq,lens,lens];omega) aC (by rw[DJ,Bd];omega) (KB.trees ts aC (KB.cons g6 KB.nil));simp only[aj,PL g4,Df,e1,bg,aJ,aV];exact AIt.fO g2 g3
 |ok y j m=>obtain⟨fl,rows,ns,h1,rfl,rfl⟩:=h;have hs':y.size<=30000:=CJ;simp only[aj,JD h1,NV,EI k op [] [] [] (ts++[y]) (by rw[sizes1];omega),bg,aJ,aV];exact AIt.mk (aV _ _)
def aRD{k op:Int}{ts:List Tn}(hts:sizes ts<=30000){j:Nat}{ns:List Tk}(hj:j<=l.length)(hn:ns.length<=l.length):
  AIt l ((M.pU (ay l) (j:Int) false (ay ns)).bind λr=>(M.bU k op [] [] [] (au (parts ts))).bind λr'=>bif ah r.2.2.2 then some (false,au r',r.1,r.2.1,r.2.2.1,r.2.2.2) else none) (endP l (.mk k op [] [] ts) j (txt ns)):=by
 simp only[aul,aj,NV,EI k op [] [] [] ts aC,bg,aJ,aV,Bool.false_or,endP];cases Ip (bG l j) with
 |true=>exact AIt.mk (aV _ _)
 |false=>exact AIt.fO hj hn
def aRE{k op:Int}{P:List (List Nd)}(h1:lens P<=90000)(h2:P.length<=100000)(h3:KB P){j:Nat}{ns:List Tk}(hj:j<=l.length)(hn:ns.length<=l.length):
  AIt l ((M.pU (ay l) (j:Int) true (ay ns)).bind λr=>(M.bU k op [] [] [] (uy P)).bind λr'=>bif ah r.2.2.2 then some (false,au r',r.1,r.2.1,r.2.2.1,r.2.2.2) else none) (.bad j):=by
 obtain⟨R',_,e1,e2,e3⟩:=acp k op [] [] P (zaU _) h1 h2 h3;simp only[aul,aj,e1,bg,aJ,Bool.true_or];exact AIt.fO hj hn
def as3(hl:l.length<=3000){n i:Nat}{nt:gW}(hi:i<=l.length)(hn:nt.length<=i):(JZ l n i nt).sat λx j m=>x.size<=30000:=bK ((RD l n).blk i nt hi) λx j m h=>by omega
def aHd(hl:l.length<=3000)(hx:aeP l)(n:Nat){i:Nat}{ns:List Tk}(hi:i<=l.length)(hn:ns.length<=i):AIt l (M.zW (ay l) (i:Int) false (ay ns)) (Wj l n i (txt ns)):=by
 have hblk:∀(k op:Int) {j:Nat} {ns:List Tk},j<=l.length->ns.length<=j->AIt l ((M.iC (ay l) (j:Int) false (ay ns)).bind λr=>(M.eF k op [] [] [] (au [[D.sl false 5 (au r.2.1)]])).bind λr'=>bif ah r.2.2.2.2.2 then some (false,au r'.2,r.2.2.1,r.2.2.2.1,r.2.2.2.2.1,r.2.2.2.2.2) else none) ((JZ l n j (txt ns)).bind λb i nt=> .ok (.mk k op [] [] [b]) i nt):=λk op j ns hj hn=>(abY (i:=j) (n0:=ns.length+1) hl [] (auq hl hx n hj hn) (zaU _) aC (by simp only[sizes];omega) (by simp[sizes]) (as3 hl hj (by rw[zaV];omega))).ait
 simp only[M.zW,M.Qw,M.OA,M.OB,bg,aJ,iy,aj,Wj]
 by_cases e10:bG l i=10
 ·have hlt:i<l.length:=eP (by rw[e10];decide);simp only[e10,show((10:Int)==10)=true from rfl,aJ,fM hl e10 (by decide),aj,bg,show i64.wrap (i64.wrap (40+10) - 10)=40 from by decide];exact hblk 40 0 aC aC
 have f10:(bG l i==10)=false:=by rwa [Y6]
 simp only[f10,aX]
 by_cases e11:bG l i=11
 ·have hlt:i<l.length:=eP (by rw[e11];decide);simp only[e11,show((11:Int)==11)=true from rfl,aJ,fM hl e11 (by decide),aj,bg,show i64.wrap (i64.wrap (40+11) - 10)=41 from by decide];exact hblk 41 0 aC aC
 have f11:(bG l i==11)=false:=by rwa [Y6]
 simp only[f11,aX]
 by_cases e12:bG l i=12
 ·have hfun:=(aRC hl hx n e12 hn).pass;simp only[e12,show((12:Int)==12)=true from rfl,aJ];exact hfun
 have f12:(bG l i==12)=false:=by rwa [Y6]
 simp only[f12,aX];cases h30:bG l i==30 with
 |true=>simp only[aJ];exact hblk 42 2 hi hn
 |false=>
 simp only[aX,M.jH,M.tY,aj];refine AX.elim (Q:=AIt l) (at1 hl n false false hi hn) (λ_=>trivial) (λfl rows hd j ns' R g1 g2 g3 g4 g5=> ?_) (λx fl rows j NG h1 he=> ?_)
 ·have g51:=g5.1;have hb:=aRE (l:=l) (k:=42) (op:=1) (P:=[R]) (by rw[lens,lens];omega) (by simp) (KB.cons g5.2 KB.nil) g2 g3;simp only[zaT,aX,bg,aJ,g4,aii];exact hb
 ·have s1:=iM (IU aC aC hi) he;simp only[zaV] at s1;simp only[Bool.not_false,aJ,bg,iy,aj,h1];cases h36:bG l j==36 with
  |false=>
   simp only[aX,PR.bind];cases hb:bG l j==30 with
   |false=>exact aRD (ts:=[x.1]) (by simp only[sizes];omega) aC aC
   |true=>exact as6 hl [x.1] (auq hl hx n aC aC) aC (by simp only[sizes];omega) (as3 hl aC (by rw[zaV];omega))
  |true=>
   have hlt:=dI h36 (by decide);have e36:bG l j=36:=by rwa [beq_iff_eq] at h36
   obtain⟨ns3,t3,hln⟩:=KU hl (j+1) NG aC aC;have hf:=EC (l:=l) (i:=j+1) (nt:=txt NG) aC;simp only[aJ,fM hl e36 (by decide),aj,bg,hln];generalize nl l (j+1) (txt NG)=q at hf t3|-;rw[<-t3] at hf|-;simp only[zaV] at hf;rw[PR.bind_assoc];refine AX.elim (Q:=AIt l) (at1 hl n false false aC aC) (λ_=>trivial) (λfl rows hd j' ns' R g1 g2 g3 g4 g5=> ?_) (λy fl rows j' ns4 h2 he2=> ?_)
   ·have g51:=g5.1;have hb:=aRE (l:=l) (k:=43) (op:=1) (P:=[x.1.flat 0,R]) (by rw[lens,lens,lens,Tn.flat_length];omega) (by simp) (KB.tree aC (KB.cons g5.2 KB.nil)) g2 g3;simp only[zaT,aX,bg,aJ,g4,show∀A B:List Nd,au ([[D.sl false 5 (aU false A)]]++[[D.sl false 5 (aU false B)]])=uy [A,B] from λA B=>asQ A B];exact hb
   ·have s2:=iM (IU aC aC aC) he2;simp only[zaV] at s2;simp only[Bool.not_false,aJ,bg,iy,aj,h2,PR.bind];cases hb:bG l j'==30 with
    |false=>exact aRD (ts:=[x.1,y.1]) (by simp only[sizes];omega) aC aC
    |true=>exact as6 hl [x.1,y.1] (auq hl hx n aC aC) aC (by simp only[sizes];omega) (as3 hl aC (by rw[zaV];omega))
end Go.Proofs.YtoaeipkhadpbiaaGreatDoor
