import Derived.Test.YtoaeipkhadpbiaaGreatDoorXRs5
set_option linter.defProp false
namespace Go.Proofs.YtoaeipkhadpbiaaGreatDoor
set_option linter.unusedVariables false
set_option linter.unusedSimpArgs false
open Go Go.Vm
open Go.IntKind (i64)
variable {l:List Tk}
abbrev W6:=ak×Int×Bool×ak×Bool×ak
def AW(l:List Tk)(i:Nat)(o:Option W6):PR Xp->Prop
 | .ok x j nt=>∃ns,txt ns=nt/\o=some (ay l,(j:Int),false,aU false (x.1.flat 0),x.2,ay ns)
 | .bad j=>∃hd ns R,i<=j/\j<=l.length/\ns.length<=l.length/\RB R (3 * (j - i))/\o=some (ay l,(j:Int),true,aU false R,hd,ay ns)
 | .out=>True
def AW.fin{i:Nat}{o:Option W6}{p:PR Xp}(h:AW l i o p):AX l i (o.bind λt=>bif ah t.2.2.2.2.2 then some (false,t.2.2.2.1,t.2.2.2.2.1,t.1,t.2.1,t.2.2.1,t.2.2.2.2.2) else none) p:=by
 cases p with
 |ok x j nt=>obtain⟨ns,rfl,rfl⟩:=h;simp only[aj,bg,aJ];exact AX.mk (aV _ _) rfl
 |bad j=>obtain⟨hd,ns,R,g1,g2,g3,g4,rfl⟩:=h;simp only[aj,bg,aJ];exact AX.fO g1 g2 g3 (aV _ _) g4
 |out=>trivial
def aAo(k op:Int)(x:aK)(t:Tn)(h:t.size<=90000):M.dV k op x [] [] (uy [t.flat 0])=some (false,aU false ((Tn.mk k op x [] [t]).flat 0),false):=agQ k op x [] [] [t] (by simp only[sizes];omega)
def aGT(hl:l.length<=3000){f:Int->Int->ak->Int->Bool->ak->Option TY}{g:Int->Bool->Bool->Bool->Bool->ak->Int->Bool->ak->Option TX}{p:Int}{p1 a b p4:Bool}:
  ∀(n i0:Nat) (x:Xp) (i:Nat) (ns:List Tk),i0<i->i<=l.length->ns.length<=i->x.1.size+2 * i0+1<=2 * i->
   AW l i0 (M.sK f g p p1 a b p4 false (ay l,(i:Int),false,aU false (x.1.flat 0),x.2,ay ns)) (inP l n a x i (txt ns))
 |0,_,_,_,_,_,_,_,_=>by rw[inP];trivial
 |n+1,i0,x,i,ns,hi0,hi,hn,hx=>by
  rw[inP,M.sK];cases a with
  |true=>
   have hb:M.vF f g p p1 true b p4 false (ay l,(i:Int),false,aU false (x.1.flat 0),x.2,ay ns)=some (.inr (ay l,(i:Int),false,aU false (x.1.flat 0),x.2,ay ns)):=by simp only[M.vF,M.BL,Bool.not_false,zaT,aJ,aX]
   rw[aO hb,zaT,Bool.and_false,aX];exact⟨ns,rfl,rfl⟩
  |false=>
   rw[Bool.not_false,Bool.and_true];cases hc:bG l i==24 with
   |false=>
    have hb:M.vF f g p p1 false b p4 false (ay l,(i:Int),false,aU false (x.1.flat 0),x.2,ay ns)=some (.inr (ay l,(i:Int),false,aU false (x.1.flat 0),x.2,ay ns)):=by simp only[M.vF,M.BL,Bool.not_false,aJ,aX,bg,iy,aj,hc]
    rw[aO hb,aX];exact⟨ns,rfl,rfl⟩
   |true=>
    have hlt:=dI hc (by decide);have e24:bG l i=24:=by rwa [beq_iff_eq] at hc
    rw[aJ,nameP];cases h6:bG l (i+1)==6 with
    |false=>
     have hb:M.vF f g p p1 false b p4 false (ay l,(i:Int),false,aU false (x.1.flat 0),x.2,ay ns)=some (.inl (ay l,((i+1:Nat):Int),true,aU false ((Tn.mk 13 0 [] [] [x.1]).flat 0),false,ay ns)):=by simp only[M.vF,M.BL,Bool.not_false,aJ,bg,iy,aj,hc,fM hl e24 (by decide),wS h6,aii,aAo 13 0 [] x.1 aC,aV]
     rw[aZ hb];refine⟨_,ns,_,aC,aC,aC,(RB.tree (Tn.mk 13 0 [] [] [x.1]) (by rw[Wn];omega)).mono (by rw[Wn];omega),aO rfl⟩
    |true=>
     have hlt':=dI h6 (by decide);have e6:bG l (i+1)=6:=by rwa [beq_iff_eq] at h6
     have hb:M.vF f g p p1 false b p4 false (ay l,(i:Int),false,aU false (x.1.flat 0),x.2,ay ns)=some (.inl (ay l,((i+1+1:Nat):Int),false,aU false ((Tn.mk 13 0 (CG l (i+1)) [] [x.1]).flat 0),false,ay ns)):=by simp only[M.vF,M.BL,Bool.not_false,aJ,bg,iy,aj,hc,fM hl e24 (by decide),fM hl e6 (by decide),aii,aAo 13 0 (CG l (i+1)) x.1 aC,aV]
     rw[aZ hb];exact aGT hl n i0 (.mk 13 0 (CG l (i+1)) [] [x.1],false) (i+1+1) ns aC aC aC (by rw[Wn];omega)
section
variable {n m:Nat} (hl:l.length<=3000)
include hl
theorem awq(h:RX l n m)(p:Int)(p1 a b p4:Bool)(i:Nat)(ns:List Tk)(hi:i<=l.length)(hn:ns.length<=i):
  AX l i ((M.bH m 6 false a b false (ay l) (i:Int) false (ay ns)).bind λr=>(M.sK (M.oW m) (M.bH m) p p1 a b p4 false (r.2.2.2.1,r.2.2.2.2.1,r.2.2.2.2.2.1,au r.2.1,r.2.2.1,r.2.2.2.2.2.2)).bind λt=>bif ah t.2.2.2.2.2 then some (false,t.2.2.2.1,t.2.2.2.2.1,t.1,t.2.1,t.2.2.1,t.2.2.2.2.2) else none)
   ((ex l n 6 a b i (txt ns)).bind λx i nt=>inP l n a x i nt):=by
 refine AX.elim (Q:=AX l i) (h.a6 a b i ns hi hn) (λ_=>trivial) (λfl rows hd j ns R g1 g2 g3 g4 g5=> ?_) (λx fl rows j ns h1 he=> ?_)
 ·rw[show M.sK _ _ _ _ _ _ _ _ _=_ from aO rfl];simp only[aj,bg,aJ];exact AX.fO g1 g2 g3 (fzN g4) g5
 ·have hs:=iM (IV aC aC hi) he;simp only[zaV] at hs;simp only[h1];exact(aGT hl n i x j ns aC aC aC aC).fin
theorem aRp(H:∀n',n'<=n->∀m',4 * n'+20<=m'->RX l n' m')(hm:4 * n+22<=m)(p:Int)(p1 a b p4:Bool)(i:Nat)(ns:List Tk)(hi:i<=l.length)(hn:ns.length<=i):AX l i (M.Qo (m+1) p p1 a b p4 (ay l) (i:Int) false (ay ns)) (ex l (n+1) 5 a b i (txt ns)):=by
 have h:=H n (zaU _) m aC;have hbare:=awq hl h p p1 a b p4 i ns hi hn;rw[M.anU];simp only[M.MS,M.bT,M.gq,bg,aJ,ex,aj];cases a with
 |true=>simp only[zaT,aX,Bool.and_false,Bool.false_and];exact hbare
 |false=>
  simp only[Bool.not_false,aJ,Bool.and_true,aDi hl i ns hi,aj,bg];cases hc:(bG l i==32 && ahead (l.drop i) 0) with
  |false=>simp only[aX];exact hbare
  |true=>
   have hc':=hc;rw[PO] at hc';have hlt:=dI hc'.1 (by decide);have e32:bG l i=32:=by have:=hc'.1;rwa [beq_iff_eq] at this
   have hne:=aqY e32 hc'.2;simp only[aJ,fM hl e32 (by decide),aj,bg];obtain⟨m1,rfl⟩:∃m1,m=m1+1:=⟨m - 1,aC⟩
   cases n with
   |zero=>rw[PN];trivial
   |succ n1=>
    have hll:PN l (n1+1) 33 (i+1) (txt ns)=aif l n1 33 (i+1) (txt ns):=by rw[PN,hne];rfl
    rw[hll];have hli:=asP hl (e:=33) (by decide) (n:=n1) (m:=m1) (i:=i+1) (ns:=ns) (λn' hn' i ns hi hn=>(H n' aC m1 aC).a1 false false i ns hi hn) aC aC;refine AY.elim (Q:=AX l i) hli (λ_=>trivial) (λfl j ns' P g1 g2 g3 g4 g5 g6=> ?_) (λL fl j ns' he=> ?_)
    ·obtain⟨R',e1,e2⟩:=aeO 13 0 [] [] [] (b:=3 * (j - (i+1))) g4 aC aC g6;simp only[bg,aJ,lN,aj,Df,e1,aV];rw[show M.sK _ _ _ _ _ _ _ _ _=_ from aO rfl];simp only[aj,bg,aJ];exact AX.fO aC g2 g3 (aV _ _) (e2.mono aC)
    ·have hs:i+1<j/\j<=l.length/\ns'.length+(i+1)<=ns.length+j/\sizes L+2 * (i+1)+1<=2 * j:=by rw[<-hll] at he;have:=iM ((sats l (n1+1)).lst 33 (i+1) (txt ns) (by decide) aC) he;simpa only[zaV] using this
     simp only[bg,aJ];rw[jD];cases h24:bG l j==24 with
     |false=>obtain⟨R',e1,e2⟩:=aeO 13 0 [] [] [] (P:=L.map λt=>t.flat 0) (b:=sizes L) (by rw[pq];omega) aC (by rw[zaV];have:=yP L;omega) (by have:=KB.trees (P:=[]) L aC KB.nil;rwa [List.append_nil] at this);rw[<-yC] at e1;simp only[wS h24,aj,bg,aJ,lN,NV,e1,aV];rw[show M.sK _ _ _ _ _ _ _ _ _=_ from aO rfl];simp only[aj,bg,aJ];exact AX.fO aC aC aC (aV _ _) (e2.mono aC)
     |true=>
      have aYB:=dI h24 (by decide);have e24:bG l j=24:=by rwa [beq_iff_eq] at h24
      simp only[fM hl e24 (by decide),aj,bg,aJ,PR.bind];rw[nameP];cases h6:bG l (j+1)==6 with
      |false=>obtain⟨R',e1,e2⟩:=aeO 13 0 [] [] [] (P:=L.map λt=>t.flat 0) (b:=sizes L) (by rw[pq];omega) aC (by rw[zaV];have:=yP L;omega) (by have:=KB.trees (P:=[]) L aC KB.nil;rwa [List.append_nil] at this);rw[<-yC] at e1;simp only[wS h6,aj,NV,e1,aV,aX];rw[show M.sK _ _ _ _ _ _ _ _ _=_ from aO rfl];simp only[aj,bg,aJ];exact AX.fO aC aC aC (aV _ _) (e2.mono aC)
      |true=>
       have aYi:=dI h6 (by decide);have e6:bG l (j+1)=6:=by rwa [beq_iff_eq] at h6
       simp only[fM hl e6 (by decide),aj,NV,EI 13 0 (CG l (j+1)) [] [] L aC,aV,aJ];exact(aGT hl (n1+1) i (.mk 13 0 (CG l (j+1)) [] L,false) (j+1+1) ns' aC aC aC (by rw[Uy];omega)).fin
omit hl in
theorem lv6(k:Int):(k==67||k==46)=(IQ k==((6:Nat):Int)):=by
 cases h4:k==44 with
 |true=>
  have e:k=44:=by rwa [beq_iff_eq] at h4
  rw[e];rfl
 |false=>
 cases h5:k==45 with
 |true=>
  have e:k=45:=by rwa [beq_iff_eq] at h5
  rw[e];rfl
 |false=>
 cases h6:(k==67||k==46) with
 |true=>rw[IQ,h4,h5,h6];rfl
 |false=>rw[IQ,h4,h5,h6,aX,aX,aX];cases(k==63||(k==48||(k==47||(k==50||(k==62||k==49)))))<;>cases k==99<;>cases(k==55||k==56)<;>cases(k==57||(k==58||k==59))<;>cases k==60<;>rfl
omit hl in
theorem aij(lv:Int)(p:Int)(p1 a b p4:Bool)(i:Nat)(ns:List Tk):M.mW lv p p1 a b p4 (ay l) (i:Int) true (ay ns)=some (false,ay l,(i:Int),true,ay ns):=by simp only[M.mW,M.Qk,bg,aJ,iy,aj,zaT,aX]
omit hl in
theorem AZ.fin{i:Nat}{o:Option T7}{p:PR Xp}(h:AZ l i o p):AX l i (o.bind λt=>bif ah t.2.2.2.2.2.2 then some (false,t.2.2.2.2.1,t.2.2.2.2.2.1,t.2.1,t.2.2.1,t.2.2.2.1,t.2.2.2.2.2.2) else none) p:=by
 cases p with
 |ok x j nt=>obtain⟨cnt,ns,rfl,rfl⟩:=h;simp only[aj,bg,aJ];exact AX.mk (aV _ _) rfl
 |bad j=>obtain⟨cnt,hd,ns,R,g1,g2,g3,g4,rfl⟩:=h;simp only[aj,bg,aJ];exact AX.fO g1 g2 g3 (aV _ _) g4
 |out=>trivial
theorem aGU(H:∀n',n'<=n->∀m',4 * n'+20<=m'->RX l n' m')(hm:4 * n+22<=m)(p:Int)(p1 a b p4:Bool)(i:Nat)(ns:List Tk)(hi:i<=l.length)(hn:ns.length<=i):AX l i (M.qB (m+1) p p1 a b p4 3 3000 (ay l) (i:Int) false (ay ns)) (ex l (n+1) 3 a b i (txt ns)):=by
 have h:=H n (zaU _) m aC;have e1:M.wH 3=some 44:=rfl;have e2:M.sU 44=some (3,4):=rfl;have e3:i64.wrap ((3:Int)+1)=4:=rfl;have e4:decide ((3000:Int)>1)=true:=rfl;rw[M.BM];simp only[M.oN,M.qJ,M.bT,M.gq,e1,e2,e3,e4,aj,bg,aJ,ex];have hlt:∀cnt:Nat,cnt<3000->decide ((cnt:Int)<3000)=true:=λcnt h=>by rw[zdt];omega
 refine AX.elim (Q:=AX l i) (h.a4 a b i ns hi hn) (λ_=>trivial) (λfl rows hd j ns R g1 g2 g3 g4 g5=> ?_) (λx fl rows j ns h1 he=> ?_)
 ·have hb:M.aW (M.bH m) 3 3000 4 p p1 a b p4 false (0,ay l,(j:Int),true,au rows,hd,ay ns)=some (.inr (0,ay l,(j:Int),true,au rows,hd,ay ns)):=by have e0:decide ((0:Int)<3000)=true:=rfl;simp only[M.aW,M.cu,M.bM,M.bP,e0,aJ,bg,aij,aj,aX]
  rw[M.jY,aO hb];simp only[aj,bg,aJ];exact AX.fO g1 g2 g3 (fzN g4) g5
 ·have hs:=iM (IV aC aC hi) he;simp only[zaV] at hs;simp only[h1];refine AZ.fin (abX hl (lv:=3) (a:=a) (b:=b) (f:=λc c1 c2 c3=>M.bH m 4 false a b false c c1 c2 c3) aC aC ?_ ?_ ?_ n (λn' hn' i ns hi hn=>(H n' hn' m aC).a4 a b i ns hi hn) i 0 x j ns aC aC aC aC aC)
  ·intro cnt i rows hd ns hc;simp only[M.aW,M.cu,M.bM,M.bP,hlt cnt hc,aJ,bg,aij,aj,aX]
  ·intro cnt i rows hd ns hc hop;rw[<-Wp rfl] at hop;have his:=aie (l:=l) 3 p p1 a b p4 i ns aC aC;rw[hop] at his;have UL:M.mW 3 p p1 a b p4 (ay l) (i:Int) false (ay ns)=some (false,ay l,(i:Int),false,ay ns):=his;simp only[M.aW,M.cu,M.bM,M.bP,hlt cnt hc,aJ,bg,UL,aj,aX]
  ·intro cnt i rows hd ns hc hop aik hni;have hk0:=ND aC hop;rw[<-Wp rfl] at hop;have his:=aie (l:=l) 3 p p1 a b p4 i ns aC aC;rw[hop] at his;have UL:M.mW 3 p p1 a b p4 (ay l) (i:Int) false (ay ns)=some (true,ay l,(i:Int),false,ay ns):=his;have w1:i64.wrap ((cnt:Int)+1)=((cnt+1:Nat):Int):=by rw[bF aC aC];omega
   obtain⟨U5,t1,hln⟩:=KU hl (i+1) ns aC aC;refine⟨U5,t1, ?_⟩;simp only[M.aW,M.cu,M.bM,M.bP,hlt cnt hc,aJ,bg,UL,aj,bne,show((3:Int)==8)=false from rfl,show((3:Int)==3)=true from rfl,show((3:Int)==4)=false from rfl,Bool.not_false,aX,iy,aof hl aik,hln,M.bT,M.gq,w1];rfl
theorem aGV(H:∀n',n'<=n->∀m',4 * n'+20<=m'->RX l n' m')(hm:4 * n+22<=m)(p:Int)(p1 a b p4:Bool)(i:Nat)(ns:List Tk)(hi:i<=l.length)(hn:ns.length<=i):AX l i (M.qB (m+1) p p1 a b p4 4 3000 (ay l) (i:Int) false (ay ns)) (ex l (n+1) 4 a b i (txt ns)):=by
 have h:=H n (zaU _) m aC;have e1:M.wH 4=some 45:=rfl;have e2:M.sU 45=some (4,5):=rfl;have e3:i64.wrap ((4:Int)+1)=5:=rfl;have e4:decide ((3000:Int)>1)=true:=rfl;rw[M.BM];simp only[M.oN,M.qJ,M.bT,M.gq,e1,e2,e3,e4,aj,bg,aJ,ex];have hlt:∀cnt:Nat,cnt<3000->decide ((cnt:Int)<3000)=true:=λcnt h=>by rw[zdt];omega
 refine AX.elim (Q:=AX l i) (h.a5 a b i ns hi hn) (λ_=>trivial) (λfl rows hd j ns R g1 g2 g3 g4 g5=> ?_) (λx fl rows j ns h1 he=> ?_)
 ·have hb:M.aW (M.bH m) 4 3000 5 p p1 a b p4 false (0,ay l,(j:Int),true,au rows,hd,ay ns)=some (.inr (0,ay l,(j:Int),true,au rows,hd,ay ns)):=by have e0:decide ((0:Int)<3000)=true:=rfl;simp only[M.aW,M.cu,M.bM,M.bP,e0,aJ,bg,aij,aj,aX]
  rw[M.jY,aO hb];simp only[aj,bg,aJ];exact AX.fO g1 g2 g3 (fzN g4) g5
 ·have hs:=iM (IV aC aC hi) he;simp only[zaV] at hs;simp only[h1];refine AZ.fin (abX hl (lv:=4) (a:=a) (b:=b) (f:=λc c1 c2 c3=>M.bH m 5 false a b false c c1 c2 c3) aC aC ?_ ?_ ?_ n (λn' hn' i ns hi hn=>(H n' hn' m aC).a5 a b i ns hi hn) i 0 x j ns aC aC aC aC aC)
  ·intro cnt i rows hd ns hc;simp only[M.aW,M.cu,M.bM,M.bP,hlt cnt hc,aJ,bg,aij,aj,aX]
  ·intro cnt i rows hd ns hc hop;rw[<-Wp rfl] at hop;have his:=aie (l:=l) 4 p p1 a b p4 i ns aC aC;rw[hop] at his;have UL:M.mW 4 p p1 a b p4 (ay l) (i:Int) false (ay ns)=some (false,ay l,(i:Int),false,ay ns):=his;simp only[M.aW,M.cu,M.bM,M.bP,hlt cnt hc,aJ,bg,UL,aj,aX]
  ·intro cnt i rows hd ns hc hop aik hni;have hk0:=ND aC hop;rw[<-Wp rfl] at hop;have his:=aie (l:=l) 4 p p1 a b p4 i ns aC aC;rw[hop] at his;have UL:M.mW 4 p p1 a b p4 (ay l) (i:Int) false (ay ns)=some (true,ay l,(i:Int),false,ay ns):=his;have w1:i64.wrap ((cnt:Int)+1)=((cnt+1:Nat):Int):=by rw[bF aC aC];omega
   obtain⟨U5,t1,hln⟩:=KU hl (i+1) ns aC aC;refine⟨U5,t1, ?_⟩;simp only[M.aW,M.cu,M.bM,M.bP,hlt cnt hc,aJ,bg,UL,aj,bne,show((4:Int)==8)=false from rfl,show((4:Int)==3)=false from rfl,show((4:Int)==4)=true from rfl,Bool.not_false,aX,iy,aof hl aik,hln,M.bT,M.gq,w1];rfl
theorem aGW(H:∀n',n'<=n->∀m',4 * n'+20<=m'->RX l n' m')(hm:4 * n+22<=m)(p:Int)(p1 a b p4:Bool)(i:Nat)(ns:List Tk)(hi:i<=l.length)(hn:ns.length<=i):AX l i (M.qB (m+1) p p1 a b p4 8 3000 (ay l) (i:Int) false (ay ns)) (ex l (n+1) 8 a b i (txt ns)):=by
 have h:=H n (zaU _) m aC;have e1:M.wH 8=some 99:=rfl;have e2:M.sU 99=some (8,9):=rfl;have e3:i64.wrap ((8:Int)+1)=9:=rfl;have e4:decide ((3000:Int)>1)=true:=rfl;rw[M.BM];simp only[M.oN,M.qJ,M.bT,M.gq,e1,e2,e3,e4,aj,bg,aJ,ex];have hlt:∀cnt:Nat,cnt<3000->decide ((cnt:Int)<3000)=true:=λcnt h=>by rw[zdt];omega
 refine AX.elim (Q:=AX l i) (h.a9 a b i ns hi hn) (λ_=>trivial) (λfl rows hd j ns R g1 g2 g3 g4 g5=> ?_) (λx fl rows j ns h1 he=> ?_)
 ·have hb:M.aW (M.bH m) 8 3000 9 p p1 a b p4 false (0,ay l,(j:Int),true,au rows,hd,ay ns)=some (.inr (0,ay l,(j:Int),true,au rows,hd,ay ns)):=by have e0:decide ((0:Int)<3000)=true:=rfl;simp only[M.aW,M.cu,M.bM,M.bP,e0,aJ,bg,aij,aj,aX]
  rw[M.jY,aO hb];simp only[aj,bg,aJ];exact AX.fO g1 g2 g3 (fzN g4) g5
 ·have hs:=iM (IV aC aC hi) he;simp only[zaV] at hs;simp only[h1];refine AZ.fin (abX hl (lv:=8) (a:=a) (b:=b) (f:=λc c1 c2 c3=>M.bH m 9 false a b false c c1 c2 c3) aC aC ?_ ?_ ?_ n (λn' hn' i ns hi hn=>(H n' hn' m aC).a9 a b i ns hi hn) i 0 x j ns aC aC aC aC aC)
  ·intro cnt i rows hd ns hc;simp only[M.aW,M.cu,M.bM,M.bP,hlt cnt hc,aJ,bg,aij,aj,aX]
  ·intro cnt i rows hd ns hc hop;rw[<-Wp rfl] at hop;have his:=aie (l:=l) 8 p p1 a b p4 i ns aC aC;rw[hop] at his;have UL:M.mW 8 p p1 a b p4 (ay l) (i:Int) false (ay ns)=some (false,ay l,(i:Int),false,ay ns):=his;simp only[M.aW,M.cu,M.bM,M.bP,hlt cnt hc,aJ,bg,UL,aj,aX]
  ·intro cnt i rows hd ns hc hop aik hni;have hk0:=ND aC hop;rw[<-Wp rfl] at hop;have his:=aie (l:=l) 8 p p1 a b p4 i ns aC aC;rw[hop] at his;have UL:M.mW 8 p p1 a b p4 (ay l) (i:Int) false (ay ns)=some (true,ay l,(i:Int),false,ay ns):=his;have w1:i64.wrap ((cnt:Int)+1)=((cnt+1:Nat):Int):=by rw[bF aC aC];omega
   refine⟨ns,rfl, ?_⟩;simp only[M.aW,M.cu,M.bM,M.bP,hlt cnt hc,aJ,bg,UL,aj,bne,show((8:Int)==8)=true from rfl,show((8:Int)==3)=false from rfl,show((8:Int)==4)=false from rfl,zaT,aX,iy,M.bT,M.gq,w1];rfl
theorem aGX(H:∀n',n'<=n->∀m',4 * n'+20<=m'->RX l n' m')(hm:4 * n+22<=m)(p:Int)(p1 a b p4:Bool)(i:Nat)(ns:List Tk)(hi:i<=l.length)(hn:ns.length<=i):AX l i (M.qB (m+1) p p1 a b p4 9 3000 (ay l) (i:Int) false (ay ns)) (ex l (n+1) 9 a b i (txt ns)):=by
 have h:=H n (zaU _) m aC;have e1:M.wH 9=some 55:=rfl;have e2:M.sU 55=some (9,10):=rfl;have e3:i64.wrap ((9:Int)+1)=10:=rfl;have e4:decide ((3000:Int)>1)=true:=rfl;rw[M.BM];simp only[M.oN,M.qJ,M.bT,M.gq,e1,e2,e3,e4,aj,bg,aJ,ex];have hlt:∀cnt:Nat,cnt<3000->decide ((cnt:Int)<3000)=true:=λcnt h=>by rw[zdt];omega
 refine AX.elim (Q:=AX l i) (h.a10 a b i ns hi hn) (λ_=>trivial) (λfl rows hd j ns R g1 g2 g3 g4 g5=> ?_) (λx fl rows j ns h1 he=> ?_)
 ·have hb:M.aW (M.bH m) 9 3000 10 p p1 a b p4 false (0,ay l,(j:Int),true,au rows,hd,ay ns)=some (.inr (0,ay l,(j:Int),true,au rows,hd,ay ns)):=by have e0:decide ((0:Int)<3000)=true:=rfl;simp only[M.aW,M.cu,M.bM,M.bP,e0,aJ,bg,aij,aj,aX]
  rw[M.jY,aO hb];simp only[aj,bg,aJ];exact AX.fO g1 g2 g3 (fzN g4) g5
 ·have hs:=iM (IV aC aC hi) he;simp only[zaV] at hs;simp only[h1];refine AZ.fin (abX hl (lv:=9) (a:=a) (b:=b) (f:=λc c1 c2 c3=>M.bH m 10 false a b false c c1 c2 c3) aC aC ?_ ?_ ?_ n (λn' hn' i ns hi hn=>(H n' hn' m aC).a10 a b i ns hi hn) i 0 x j ns aC aC aC aC aC)
  ·intro cnt i rows hd ns hc;simp only[M.aW,M.cu,M.bM,M.bP,hlt cnt hc,aJ,bg,aij,aj,aX]
  ·intro cnt i rows hd ns hc hop;rw[<-Wp rfl] at hop;have his:=aie (l:=l) 9 p p1 a b p4 i ns aC aC;rw[hop] at his;have UL:M.mW 9 p p1 a b p4 (ay l) (i:Int) false (ay ns)=some (false,ay l,(i:Int),false,ay ns):=his;simp only[M.aW,M.cu,M.bM,M.bP,hlt cnt hc,aJ,bg,UL,aj,aX]
  ·intro cnt i rows hd ns hc hop aik hni;have hk0:=ND aC hop;rw[<-Wp rfl] at hop;have his:=aie (l:=l) 9 p p1 a b p4 i ns aC aC;rw[hop] at his;have UL:M.mW 9 p p1 a b p4 (ay l) (i:Int) false (ay ns)=some (true,ay l,(i:Int),false,ay ns):=his;have w1:i64.wrap ((cnt:Int)+1)=((cnt+1:Nat):Int):=by rw[bF aC aC];omega
   refine⟨ns,rfl, ?_⟩;simp only[M.aW,M.cu,M.bM,M.bP,hlt cnt hc,aJ,bg,UL,aj,bne,show((9:Int)==8)=false from rfl,show((9:Int)==3)=false from rfl,show((9:Int)==4)=false from rfl,Bool.not_false,aX,iy,aof hl aik,M.bT,M.gq,w1];rfl
theorem aDj(H:∀n',n'<=n->∀m',4 * n'+20<=m'->RX l n' m')(hm:4 * n+22<=m)(p:Int)(p1 a b p4:Bool)(i:Nat)(ns:List Tk)(hi:i<=l.length)(hn:ns.length<=i):AX l i (M.qB (m+1) p p1 a b p4 10 3000 (ay l) (i:Int) false (ay ns)) (ex l (n+1) 10 a b i (txt ns)):=by
 have h:=H n (zaU _) m aC;have e1:M.wH 10=some 57:=rfl;have e2:M.sU 57=some (10,11):=rfl;have e3:i64.wrap ((10:Int)+1)=11:=rfl;have e4:decide ((3000:Int)>1)=true:=rfl;rw[M.BM];simp only[M.oN,M.qJ,M.bT,M.gq,e1,e2,e3,e4,aj,bg,aJ,ex];have hlt:∀cnt:Nat,cnt<3000->decide ((cnt:Int)<3000)=true:=λcnt h=>by rw[zdt];omega
 refine AX.elim (Q:=AX l i) (h.a11 a b i ns hi hn) (λ_=>trivial) (λfl rows hd j ns R g1 g2 g3 g4 g5=> ?_) (λx fl rows j ns h1 he=> ?_)
 ·have hb:M.aW (M.bH m) 10 3000 11 p p1 a b p4 false (0,ay l,(j:Int),true,au rows,hd,ay ns)=some (.inr (0,ay l,(j:Int),true,au rows,hd,ay ns)):=by have e0:decide ((0:Int)<3000)=true:=rfl;simp only[M.aW,M.cu,M.bM,M.bP,e0,aJ,bg,aij,aj,aX]
  rw[M.jY,aO hb];simp only[aj,bg,aJ];exact AX.fO g1 g2 g3 (fzN g4) g5
 ·have hs:=iM (IV aC aC hi) he;simp only[zaV] at hs;simp only[h1];refine AZ.fin (abX hl (lv:=10) (a:=a) (b:=b) (f:=λc c1 c2 c3=>M.bH m 11 false a b false c c1 c2 c3) aC aC ?_ ?_ ?_ n (λn' hn' i ns hi hn=>(H n' hn' m aC).a11 a b i ns hi hn) i 0 x j ns aC aC aC aC aC)
  ·intro cnt i rows hd ns hc;simp only[M.aW,M.cu,M.bM,M.bP,hlt cnt hc,aJ,bg,aij,aj,aX]
  ·intro cnt i rows hd ns hc hop;rw[<-Wp rfl] at hop;have his:=aie (l:=l) 10 p p1 a b p4 i ns aC aC;rw[hop] at his;have UL:M.mW 10 p p1 a b p4 (ay l) (i:Int) false (ay ns)=some (false,ay l,(i:Int),false,ay ns):=his;simp only[M.aW,M.cu,M.bM,M.bP,hlt cnt hc,aJ,bg,UL,aj,aX]
  ·intro cnt i rows hd ns hc hop aik hni;have hk0:=ND aC hop;rw[<-Wp rfl] at hop;have his:=aie (l:=l) 10 p p1 a b p4 i ns aC aC;rw[hop] at his;have UL:M.mW 10 p p1 a b p4 (ay l) (i:Int) false (ay ns)=some (true,ay l,(i:Int),false,ay ns):=his;have w1:i64.wrap ((cnt:Int)+1)=((cnt+1:Nat):Int):=by rw[bF aC aC];omega
   refine⟨ns,rfl, ?_⟩;simp only[M.aW,M.cu,M.bM,M.bP,hlt cnt hc,aJ,bg,UL,aj,bne,show((10:Int)==8)=false from rfl,show((10:Int)==3)=false from rfl,show((10:Int)==4)=false from rfl,Bool.not_false,aX,iy,aof hl aik,M.bT,M.gq,w1];rfl
theorem aGY(h:RX l n m)(p:Int)(p1 a b p4:Bool)(i:Nat)(ns:List Tk)(hi:i<=l.length)(hn:ns.length<=i):AX l i (M.qB (m+1) p p1 a b p4 6 1 (ay l) (i:Int) false (ay ns)) (ex l (n+1) 6 a b i (txt ns)):=by
 have e1:M.wH 6=some 67:=rfl;have e2:M.sU 67=some (7,7):=rfl;have e4:decide ((1:Int)>1)=false:=rfl;have e0:decide ((0:Int)<1)=true:=rfl;have e5:decide ((1:Int)<1)=false:=rfl;have e6:i64.wrap ((0:Int)+1)=1:=rfl;rw[M.BM];simp only[M.oN,M.qJ,M.bT,M.gq,e1,e2,e4,aj,bg,aJ,aX,ex];refine AX.elim (Q:=AX l i) (h.a7 a b i ns hi hn) (λ_=>trivial) (λfl rows hd j ns R g1 g2 g3 g4 g5=> ?_) (λx fl rows j ns h1 he=> ?_)
 ·have hb:M.aW (M.bH m) 6 1 7 p p1 a b p4 false (0,ay l,(j:Int),true,au rows,hd,ay ns)=some (.inr (0,ay l,(j:Int),true,au rows,hd,ay ns)):=by simp only[M.aW,M.cu,M.bM,M.bP,e0,aJ,bg,aij,aj,aX]
  rw[M.jY,aO hb];simp only[aj,bg,aJ];exact AX.fO g1 g2 g3 (fzN g4) g5
 ·have hs:=iM (IV aC aC hi) he;simp only[zaV] at hs;simp only[h1];have his:=aie (l:=l) 6 p p1 a b p4 j ns aC aC;have UL:M.mW 6 p p1 a b p4 (ay l) (j:Int) false (ay ns)=some (Ez 6 b (bG l j),ay l,(j:Int),false,ay ns):=his;have hpl:(bG l j==67||bG l j==46)=Ez 6 b (bG l j):=by rw[Wp rfl,show(b && Nat.beq 6 7)=false from Bool.and_false b,afP rfl];exact lv6 _
  rw[hpl];cases hop:Ez 6 b (bG l j) with
  |false=>
   have hb:M.aW (M.bH m) 6 1 7 p p1 a b p4 false (0,ay l,(j:Int),false,aU false (x.1.flat 0),x.2,ay ns)=some (.inr (0,ay l,(j:Int),false,aU false (x.1.flat 0),x.2,ay ns)):=by simp only[M.aW,M.cu,M.bM,M.bP,e0,aJ,bg,UL,hop,aj,aX]
   rw[M.jY,aO hb];simp only[aj,bg,aJ,aX];exact AX.mk (aV _ _) rfl
  |true=>
   have aik:=eP (ND (lv:=6) aC hop);have hb:M.aW (M.bH m) 6 1 7 p p1 a b p4 false (0,ay l,(j:Int),false,aU false (x.1.flat 0),x.2,ay ns)=(M.bH m 7 false a b false (ay l) ((j+1:Nat):Int) false (ay ns)).bind λr=>(M.dV 12 (bG l j) [] [] [] (au [[D.sl false 5 (aU false (x.1.flat 0))],[D.sl false 5 (au r.2.1)]])).bind λr'=>some (.inl (1,r.2.2.2.1,r.2.2.2.2.1,r.2.2.2.2.2.1,au r'.2.1,r'.2.2,r.2.2.2.2.2.2)):=by simp only[M.aW,M.cu,M.bM,M.bP,e0,aJ,bg,UL,hop,aj,bne,show((6:Int)==8)=false from rfl,show((6:Int)==3)=false from rfl,show((6:Int)==4)=false from rfl,Bool.not_false,aX,iy,aof hl aik,M.bT,M.gq,e6]
   have hr:=h.a7 a b (j+1) ns aC aC;have CJ:=IV (l:=l) (n:=n) (lv:=7) (a:=a) (b:=b) (i:=j+1) (ns:=ns) aC aC aC;simp only[aJ];rw[M.jY];generalize ex l n 7 a b (j+1) (txt ns)=q at hr CJ|-;cases q with
   |out=>trivial
   |bad j2=>
    obtain⟨fl',rows',hd',ns',R,g1,g2,g3,g4,g5,h2⟩:=hr;obtain⟨R',e7,e8⟩:=agS 12 (bG l j) [] [] [] (P:=[x.1.flat 0,R]) (b:=x.1.size+3 * (j2 - (j+1))) (by simp only[lens,Tn.flat_length];have:=g5.1;omega) aC (by simp) (KB.tree aC (KB.cons g5.2 KB.nil));simp only[h2,aj,g4,asQ,e7,aV] at hb;have hb2:M.aW (M.bH m) 6 1 7 p p1 a b p4 false (1,ay l,(j2:Int),true,aU false R',false,ay ns')=some (.inr (1,ay l,(j2:Int),true,aU false R',false,ay ns')):=by simp only[M.aW,M.cu,M.bM,M.bP,e5,aX]
    rw[aZ hb,aO hb2];simp only[aj,bg,aJ];exact AX.fO aC g2 g3 (aV _ _) (e8.mono aC)
   |ok y j2 m2=>
    obtain⟨fl',rows',ns',h3,rfl,h2⟩:=hr;have hs2:FE l (j+1) ns.length y.1.size j2 (txt ns').length:=CJ;have ho:=agQ 12 (bG l j) [] [] [] [x.1,y.1] (by simp only[sizes];omega);have ho':M.dV 12 (bG l j) [] [] [] (uy [x.1.flat 0,y.1.flat 0])=some (false,aU false ((Tn.mk 12 (bG l j) [] [] [x.1,y.1]).flat 0),false):=ho;simp only[h2,aj,h3,asQ,ho',aV] at hb;have hb2:M.aW (M.bH m) 6 1 7 p p1 a b p4 false (1,ay l,(j2:Int),false,aU false ((Tn.mk 12 (bG l j) [] [] [x.1,y.1]).flat 0),false,ay ns')=some (.inr (1,ay l,(j2:Int),false,aU false ((Tn.mk 12 (bG l j) [] [] [x.1,y.1]).flat 0),false,ay ns')):=by simp only[M.aW,M.cu,M.bM,M.bP,e5,aX]
    rw[aZ hb,aO hb2];simp only[aj,bg,aJ];exact AX.mk (aV _ _) rfl
theorem aGZ(h:RX l n m)(p:Int)(p1 a b p4:Bool)(i:Nat)(ns:List Tk)(hi:i<=l.length)(hn:ns.length<=i):AX l i (M.qB (m+1) p p1 a b p4 7 1 (ay l) (i:Int) false (ay ns)) (ex l (n+1) 7 a b i (txt ns)):=by
 have e1:M.wH 7=some 63:=rfl;have e2:M.sU 63=some (8,8):=rfl;have e4:decide ((1:Int)>1)=false:=rfl;have e0:decide ((0:Int)<1)=true:=rfl;have e5:decide ((1:Int)<1)=false:=rfl;have e6:i64.wrap ((0:Int)+1)=1:=rfl;rw[M.BM];simp only[M.oN,M.qJ,M.bT,M.gq,e1,e2,e4,aj,bg,aJ,aX,ex];refine AX.elim (Q:=AX l i) (h.a8 a b i ns hi hn) (λ_=>trivial) (λfl rows hd j ns R g1 g2 g3 g4 g5=> ?_) (λx fl rows j ns h1 he=> ?_)
 ·have hb:M.aW (M.bH m) 7 1 8 p p1 a b p4 false (0,ay l,(j:Int),true,au rows,hd,ay ns)=some (.inr (0,ay l,(j:Int),true,au rows,hd,ay ns)):=by simp only[M.aW,M.cu,M.bM,M.bP,e0,aJ,bg,aij,aj,aX]
  rw[M.jY,aO hb];simp only[aj,bg,aJ];exact AX.fO g1 g2 g3 (fzN g4) g5
 ·have hs:=iM (IV aC aC hi) he;simp only[zaV] at hs;simp only[h1];have his:=aie (l:=l) 7 p p1 a b p4 j ns aC aC;have UL:M.mW 7 p p1 a b p4 (ay l) (j:Int) false (ay ns)=some (Ez 7 b (bG l j),ay l,(j:Int),false,ay ns):=his;cases hop:Ez 7 b (bG l j) with
  |false=>
   have hb:M.aW (M.bH m) 7 1 8 p p1 a b p4 false (0,ay l,(j:Int),false,aU false (x.1.flat 0),x.2,ay ns)=some (.inr (0,ay l,(j:Int),false,aU false (x.1.flat 0),x.2,ay ns)):=by simp only[M.aW,M.cu,M.bM,M.bP,e0,aJ,bg,UL,hop,aj,aX]
   rw[M.jY,aO hb];simp only[aj,bg,aJ,aX];exact AX.mk (aV _ _) rfl
  |true=>
   have aik:=eP (ND (lv:=7) aC hop);have hb:M.aW (M.bH m) 7 1 8 p p1 a b p4 false (0,ay l,(j:Int),false,aU false (x.1.flat 0),x.2,ay ns)=(M.bH m 8 false a b false (ay l) ((j+1:Nat):Int) false (ay ns)).bind λr=>(M.dV 12 (bG l j) [] [] [] (au [[D.sl false 5 (aU false (x.1.flat 0))],[D.sl false 5 (au r.2.1)]])).bind λr'=>some (.inl (1,r.2.2.2.1,r.2.2.2.2.1,r.2.2.2.2.2.1,au r'.2.1,r'.2.2,r.2.2.2.2.2.2)):=by simp only[M.aW,M.cu,M.bM,M.bP,e0,aJ,bg,UL,hop,aj,bne,show((7:Int)==8)=false from rfl,show((7:Int)==3)=false from rfl,show((7:Int)==4)=false from rfl,Bool.not_false,aX,iy,aof hl aik,M.bT,M.gq,e6]
   have hr:=h.a8 a b (j+1) ns aC aC;have CJ:=IV (l:=l) (n:=n) (lv:=8) (a:=a) (b:=b) (i:=j+1) (ns:=ns) aC aC aC;simp only[aJ];rw[M.jY];generalize ex l n 8 a b (j+1) (txt ns)=q at hr CJ|-;cases q with
   |out=>trivial
   |bad j2=>
    obtain⟨fl',rows',hd',ns',R,g1,g2,g3,g4,g5,h2⟩:=hr;obtain⟨R',e7,e8⟩:=agS 12 (bG l j) [] [] [] (P:=[x.1.flat 0,R]) (b:=x.1.size+3 * (j2 - (j+1))) (by simp only[lens,Tn.flat_length];have:=g5.1;omega) aC (by simp) (KB.tree aC (KB.cons g5.2 KB.nil));simp only[h2,aj,g4,asQ,e7,aV] at hb;have hb2:M.aW (M.bH m) 7 1 8 p p1 a b p4 false (1,ay l,(j2:Int),true,aU false R',false,ay ns')=some (.inr (1,ay l,(j2:Int),true,aU false R',false,ay ns')):=by simp only[M.aW,M.cu,M.bM,M.bP,e5,aX]
    rw[aZ hb,aO hb2];simp only[aj,bg,aJ];exact AX.fO aC g2 g3 (aV _ _) (e8.mono aC)
   |ok y j2 m2=>
    obtain⟨fl',rows',ns',h3,rfl,h2⟩:=hr;have hs2:FE l (j+1) ns.length y.1.size j2 (txt ns').length:=CJ;have ho:=agQ 12 (bG l j) [] [] [] [x.1,y.1] (by simp only[sizes];omega);have ho':M.dV 12 (bG l j) [] [] [] (uy [x.1.flat 0,y.1.flat 0])=some (false,aU false ((Tn.mk 12 (bG l j) [] [] [x.1,y.1]).flat 0),false):=ho;simp only[h2,aj,h3,asQ,ho',aV] at hb;have hb2:M.aW (M.bH m) 7 1 8 p p1 a b p4 false (1,ay l,(j2:Int),false,aU false ((Tn.mk 12 (bG l j) [] [] [x.1,y.1]).flat 0),false,ay ns')=some (.inr (1,ay l,(j2:Int),false,aU false ((Tn.mk 12 (bG l j) [] [] [x.1,y.1]).flat 0),false,ay ns')):=by simp only[M.aW,M.cu,M.bM,M.bP,e5,aX]
    rw[aZ hb,aO hb2];simp only[aj,bg,aJ];exact AX.mk (aV _ _) rfl
end
def rx(hl:l.length<=3000):∀N n,n<=N->∀m,4 * n+20<=m->RX l n m:=by
 intro N;induction N with
 |zero=>intro n hn m hm;obtain rfl:n=0:=aC;exact⟨λ_ _ _ _ _ _=>by rw[ex];trivial,λ_ _ _ _ _ _=>by rw[ex];trivial,λ_ _ _ _ _ _=>by rw[ex];trivial,λ_ _ _ _ _ _=>by rw[ex];trivial,λ_ _ _ _ _ _=>by rw[ex];trivial,λ_ _ _ _ _ _=>by rw[ex];trivial,λ_ _ _ _ _ _=>by rw[ex];trivial,λ_ _ _ _ _ _=>by rw[ex];trivial,λ_ _ _ _ _ _=>by rw[ex];trivial,λ_ _ _ _ _ _=>by rw[ex];trivial,λ_ _ _ _ _ _=>by rw[ex];trivial,λ_ _ _ _ _ _=>by rw[ex];trivial,λ_ _ _ _ _ _=>by rw[ex];trivial,λ_ _ _ _ _ _=>by rw[ex];trivial,λ_ _ _ _ _ _=>by rw[ex];trivial,λ_ _ _ _ _ _ _ _ _=>by rw[ex];trivial,λ_ _ _ _ _ _=>by rw[ex];trivial,λ_ _ _ _ _ _ _ _ _ _=>by rw[XD];trivial⟩
 |succ N ih=>
  intro n hn m hm;cases n with
  |zero=>exact ih 0 aC m hm
  |succ n=>
   obtain⟨m,rfl⟩:∃m',m=m'+2:=⟨m - 2,aC⟩
   have H:∀n',n'<=n->∀m',4 * n'+20<=m'->RX l n' m':=λn' h=>ih n' aC
   have h:=H n (zaU _) m aC;have h1:=H n (zaU _) (m+1) aC;have hm1:1<=m:=aC;have hm2:4 * n+22<=m:=aC;refine⟨?_, ?_, ?_, ?_, ?_, ?_, ?_, ?_, ?_, ?_, ?_, ?_, ?_, ?_, ?_,λp p1 a b p4 i ns hi hn=>aAj hl h1 p p1 a b p4 i ns hi hn,λa b i ns hi hn=>aAn hl H aC a b i ns hi hn,λp p1 a b p4 i ns hi hn hst=>aGQ hl h1 aC p p1 a b p4 i ns hi hn hst⟩
   ·intro a b i ns hi hn;rw[M.oG];simp only[M.jU,M.fD,aX,bg,aJ,show((1:Int)==1)=true from rfl];exact AX.pass (awp hl h 1 false a b false i ns hi hn) (zaU i) (by intros;simp only[bg,aJ])
   ·intro a b i ns hi hn;rw[M.oG];simp only[M.jU,M.fD,aX,bg,aJ,show((2:Int)==1)=false from rfl,show((2:Int)==2)=true from rfl];exact AX.pass (aDf hl h hm1 2 false a b false i ns hi hn) (zaU i) (by intros;simp only[bg,aJ])
   ·intro a b i ns hi hn;rw[M.oG];simp only[M.jU,M.fD,aX,bg,aJ,show((3:Int)==1)=false from rfl,show((3:Int)==2)=false from rfl,show((3:Int)==5)=false from rfl,show((3:Int)==6)=false from rfl,show((3:Int)==7)=false from rfl,show((3:Int)==3)=true from rfl];exact AX.pass (aGU hl H hm2 3 false a b false i ns hi hn) (zaU i) (by intros;simp only[bg,aJ])
   ·intro a b i ns hi hn;rw[M.oG];simp only[M.jU,M.fD,aX,bg,aJ,show((4:Int)==1)=false from rfl,show((4:Int)==2)=false from rfl,show((4:Int)==5)=false from rfl,show((4:Int)==6)=false from rfl,show((4:Int)==7)=false from rfl,show((4:Int)==3)=false from rfl,show((4:Int)==4)=true from rfl];exact AX.pass (aGV hl H hm2 4 false a b false i ns hi hn) (zaU i) (by intros;simp only[bg,aJ])
   ·intro a b i ns hi hn;rw[M.oG];simp only[M.jU,M.fD,aX,bg,aJ,show((5:Int)==1)=false from rfl,show((5:Int)==2)=false from rfl,show((5:Int)==5)=true from rfl];exact AX.pass (aRp hl H hm2 5 false a b false i ns hi hn) (zaU i) (by intros;simp only[bg,aJ])
   ·intro a b i ns hi hn;rw[M.oG];simp only[M.jU,M.fD,aX,bg,aJ,show((6:Int)==1)=false from rfl,show((6:Int)==2)=false from rfl,show((6:Int)==5)=false from rfl,show((6:Int)==6)=true from rfl];exact AX.pass (aGY hl h 6 false a b false i ns hi hn) (zaU i) (by intros;simp only[bg,aJ])
   ·intro a b i ns hi hn;rw[M.oG];simp only[M.jU,M.fD,aX,bg,aJ,show((7:Int)==1)=false from rfl,show((7:Int)==2)=false from rfl,show((7:Int)==5)=false from rfl,show((7:Int)==6)=false from rfl,show((7:Int)==7)=true from rfl];exact AX.pass (aGZ hl h 7 false a b false i ns hi hn) (zaU i) (by intros;simp only[bg,aJ])
   ·intro a b i ns hi hn;rw[M.oG];simp only[M.jU,M.fD,aX,bg,aJ,show((8:Int)==1)=false from rfl,show((8:Int)==2)=false from rfl,show((8:Int)==5)=false from rfl,show((8:Int)==6)=false from rfl,show((8:Int)==7)=false from rfl,show((8:Int)==3)=false from rfl,show((8:Int)==4)=false from rfl,show((8:Int)==8)=true from rfl];exact AX.pass (aGW hl H hm2 8 false a b false i ns hi hn) (zaU i) (by intros;simp only[bg,aJ])
   ·intro a b i ns hi hn;rw[M.oG];simp only[M.jU,M.fD,aX,bg,aJ,show((9:Int)==1)=false from rfl,show((9:Int)==2)=false from rfl,show((9:Int)==5)=false from rfl,show((9:Int)==6)=false from rfl,show((9:Int)==7)=false from rfl,show((9:Int)==3)=false from rfl,show((9:Int)==4)=false from rfl,show((9:Int)==8)=false from rfl,show((9:Int)==9)=true from rfl];exact AX.pass (aGX hl H hm2 9 false a b false i ns hi hn) (zaU i) (by intros;simp only[bg,aJ])
   ·intro a b i ns hi hn;rw[M.oG];simp only[M.jU,M.fD,aX,bg,aJ,show((10:Int)==1)=false from rfl,show((10:Int)==2)=false from rfl,show((10:Int)==5)=false from rfl,show((10:Int)==6)=false from rfl,show((10:Int)==7)=false from rfl,show((10:Int)==3)=false from rfl,show((10:Int)==4)=false from rfl,show((10:Int)==8)=false from rfl,show((10:Int)==9)=false from rfl,show((10:Int)==10)=true from rfl];exact AX.pass (aDj hl H hm2 10 false a b false i ns hi hn) (zaU i) (by intros;simp only[bg,aJ])
   ·intro a b i ns hi hn;rw[M.oG];simp only[M.jU,M.fD,aX,bg,aJ,show((11:Int)==1)=false from rfl,show((11:Int)==2)=false from rfl,show((11:Int)==5)=false from rfl,show((11:Int)==6)=false from rfl,show((11:Int)==7)=false from rfl,show((11:Int)==3)=false from rfl,show((11:Int)==4)=false from rfl,show((11:Int)==8)=false from rfl,show((11:Int)==9)=false from rfl,show((11:Int)==10)=false from rfl,show((11:Int)==11)=true from rfl];exact AX.pass (aAk hl h 11 false a b false i ns hi hn) (zaU i) (by intros;simp only[bg,aJ])
   ·intro a b i ns hi hn;rw[M.oG];simp only[M.jU,M.fD,aX,bg,aJ,show((12:Int)==1)=false from rfl,show((12:Int)==2)=false from rfl,show((12:Int)==5)=false from rfl,show((12:Int)==6)=false from rfl,show((12:Int)==7)=false from rfl,show((12:Int)==3)=false from rfl,show((12:Int)==4)=false from rfl,show((12:Int)==8)=false from rfl,show((12:Int)==9)=false from rfl,show((12:Int)==10)=false from rfl,show((12:Int)==11)=false from rfl,show((12:Int)==12)=true from rfl];exact AX.pass (aAj hl h 12 false a b false i ns hi hn) (zaU i) (by intros;simp only[bg,aJ])
   ·intro a b i ns hi hn;rw[M.oG];simp only[M.jU,M.fD,aX,bg,aJ,show((13:Int)==1)=false from rfl,show((13:Int)==2)=false from rfl,show((13:Int)==5)=false from rfl,show((13:Int)==6)=false from rfl,show((13:Int)==7)=false from rfl,show((13:Int)==3)=false from rfl,show((13:Int)==4)=false from rfl,show((13:Int)==8)=false from rfl,show((13:Int)==9)=false from rfl,show((13:Int)==10)=false from rfl,show((13:Int)==11)=false from rfl,show((13:Int)==12)=false from rfl,show((13:Int)==13)=true from rfl];exact AX.pass (aDg hl h 13 false a b false i ns hi hn) (zaU i) (by intros;simp only[bg,aJ])
   ·intro a b i ns hi hn;rw[M.oG];simp only[M.jU,M.fD,aX,bg,aJ,show((14:Int)==1)=false from rfl,show((14:Int)==2)=false from rfl,show((14:Int)==5)=false from rfl,show((14:Int)==6)=false from rfl,show((14:Int)==7)=false from rfl,show((14:Int)==3)=false from rfl,show((14:Int)==4)=false from rfl,show((14:Int)==8)=false from rfl,show((14:Int)==9)=false from rfl,show((14:Int)==10)=false from rfl,show((14:Int)==11)=false from rfl,show((14:Int)==12)=false from rfl,show((14:Int)==13)=false from rfl,show((14:Int)==14)=true from rfl];exact AX.pass (aAl hl h 14 false a b false i ns hi hn) (zaU i) (by intros;simp only[bg,aJ])
   ·intro a b i ns hi hn;rw[M.oG];simp only[M.jU,M.fD,aX,bg,aJ,show((15:Int)==1)=false from rfl,show((15:Int)==2)=false from rfl,show((15:Int)==5)=false from rfl,show((15:Int)==6)=false from rfl,show((15:Int)==7)=false from rfl,show((15:Int)==3)=false from rfl,show((15:Int)==4)=false from rfl,show((15:Int)==8)=false from rfl,show((15:Int)==9)=false from rfl,show((15:Int)==10)=false from rfl,show((15:Int)==11)=false from rfl,show((15:Int)==12)=false from rfl,show((15:Int)==13)=false from rfl,show((15:Int)==14)=false from rfl];exact AX.pass (aAn hl H hm2 a b i ns hi hn) (zaU i) (by intros;simp only[bg,aJ])
def RX.of(hl:l.length<=3000)(n:Nat){m:Nat}(hm:4 * n+20<=m):RX l n m:=rx hl n n (zaU _) m hm
variable {l:List Tk}
structure RS(l:List Tk)(n m:Nat):Prop where
 st:∀i nt,i<=l.length->nt.length<=i->AT l (M.kE m (ay l) (i:Int) false (encS nt)) (stP l n i nt)
 blk:∀i nt,i<=l.length->nt.length<=i->AT l (M.oK m (ay l) (i:Int) false (encS nt)) (JZ l n i nt)
 body:∀i nt,i<=l.length->nt.length<=i->AT l (M.lV m (ay l) (i:Int) false (encS nt)) (Bc l n i nt)
def SS:∀a b:ak,au (a++b)=au a++au b
 |[],b=>rfl
 |r::a,b=>by rw[zca,au,au,SS a b];rfl
def afR:∀(r:List Tk) (i:Nat) (nt:gW),∃u,(Y0 r i nt).2=nt++u
 |[],i,nt=>⟨[],by rw[Y0,List.append_nil]⟩
 |t::r,i,nt=>by
  rw[Y0];cases(t.kind==1||t.kind==37)<;>cases t.kind==2<;>simp only[aJ,aX]
  ·exact⟨[],(List.append_nil _).symm⟩
  ·obtain⟨u,h⟩:=afR r (i+1) (nt++[t.text]);exact⟨[t.text]++u,by rw[h,XG]⟩
  ·exact afR r (i+1) nt
  ·exact afR r (i+1) nt
def Wq(m:Nat){i:Nat}{nt:gW}(hn:nt.length<=l.length):AT l (M.lV (m+1) (ay l) (i:Int) true (encS nt)) (.bad i):=by rw[M.V6];simp only[EY,M.wz,dY,aJ,JC,aj];exact AT.fO hn
def aDk(hl:l.length<=1048576)(m:Nat){i:Nat}{nt:gW}(hn:nt.length<=l.length):AT l (M.oK (m+1) (ay l) (i:Int) true (encS nt)) (.bad i):=by rw[M.UZ];simp only[M.uj,dY,aJ,wV,aj,akL];rw[show M.rY _ _=_ from aO rfl];simp only[aj,jg,dY,aJ,wV,EF (l:=l) _ _ nt aC,jf,dR,ED];rw[bC aC,aJ,bC aC,aJ];exact AT.fO (Nat.zero_le _)
section
variable {n m:Nat} (hl:l.length<=1048576) (H:∀n',n'<=n->∀m',3 * n'+10<=m'->RS l n' m') (hm:3 * (n+1)+10<=m+1)
include hl H hm
theorem aDl(i:Nat)(nt:gW)(hi:i<=l.length)(hn:nt.length<=i):AT l (M.lV (m+1) (ay l) (i:Int) false (encS nt)) (Bc l (n+1) i nt):=by
 have h:=H n (zaU _) m aC;have hf:=EC (l:=l) (nt:=nt) hi;rw[M.V6];simp only[EY,M.wz,dY,aJ,SN hl i nt hi hn,aj,aX,fG,Bc];generalize nl l i nt=q at hf|-;cases h30:bG l q.1==30 with
 |true=>simp only[aJ];exact AT.pass (h.blk q.1 q.2 aC aC) (by intros;simp only[dY,aJ])
 |false=>
  simp only[aX,EF (l:=l) _ _ q.2 aC,aj,cOw,dY,aJ,fG];cases h37:bG l q.1==37 with
  |true=>have hlt:=dI h37 (by decide);simp only[aJ,pX hl hlt];exact AT.mk rfl rfl rfl rfl (jf _ _)
  |false=>
   simp only[aX];refine AT.elim (R:=AT l) (h.st q.1 [] aC (Nat.zero_le _)) (λ_=>trivial) (λk op x y fl ks j nt hn=> ?_) (λx fl ks j nt hk he=> ?_)
   ·simp only[dR,ED,Bd,dY,aJ];rw[bC aC,aJ,bC aC,aJ];exact AT.fO hn
   ·simp only[dR,ED,Bd,dY,aJ];rw[bC aC,aJ,bC aC,aJ];exact AT.mk rfl rfl rfl rfl (by rw[SS,jf,fz1 (Og hk)];exact(Aa _ _ _).symm)
def ifP(l:List Tk)(n i:Nat)(nt:gW):PR Tn:=(U4 l n i nt).bind λx i nt=>(Bc l n i nt).bind λy i nt=>bif bG l (sep l i nt).1==14 then(Bc l n ((sep l i nt).1+1) (sep l i nt).2).bind λz i nt=> .ok (.mk 28 0 [] [] [x,y,z]) i nt else .ok (.mk 28 0 [] [] [x,y]) i nt
theorem awr(i:Nat)(nt:gW)(hi:i<=l.length)(hn:nt.length<=i):AT l (M.A8 m (ay l) (i:Int) false (encS nt)) (ifP l n i nt):=by
 obtain⟨m2,rfl⟩:∃m2,m=m2+1+1:=⟨m - 2,aC⟩
 have h:=H n (zaU _) (m2+1) aC;rw[M.abr,ifP];simp only[M.wR,dY,aJ];have hbad:∀{k op:Int} {x y:aK} {fl:Bool} {ks:ak} {k' op':Int} {x' y':aK} {ks':ak} {j:Nat} {nt:gW},nt.length<=l.length->
   AT l (some (28,0,[],[],true,[[D.int .i64 k,D.int .i64 op,D.str x,D.str y,D.sl false 5 ks],[D.int .i64 k',D.int .i64 op',D.str x',D.str y',D.sl false 5 ks']],ay l,(j:Int),true,encS nt)) (.bad j):=λhn=>AT.fO hn
 refine AT.elim (R:=AT l) (asO hl n hi hn) (λ_=>trivial) (λk op x y fl ks j nt hn=> ?_) (λx fl ks j nt hk he=> ?_)
 ·simp only[dY,aJ];refine AT.EN (R:=λo=>AT l o (.bad j)) (Wq m2 hn) λk op x y fl ks nt hn=> ?_
  simp only[dY,aJ,akL,aj,zaT,aX];exact AT.fO hn
 ·have hs:=iM (Ua hi) he;simp only[dY,aJ];refine AT.elim (R:=AT l) (h.body j nt aC aC) (λ_=>trivial) (λk op x y fl ks j nt hn=> ?_) (λy fl' kt j2 nt2 hk' he'=> ?_)
  ·simp only[dY,aJ,akL,aj,zaT,aX];exact AT.fO hn
  ·have hs':=iM ((RD l n).body j nt aC) he';have hf:=SK (l:=l) (i:=j2) (nt:=nt2) aC;obtain⟨u,hu⟩:=afR (l.drop j2) j2 nt2;have hu':(sep l j2 nt2).2=nt2++u:=hu;simp only[dY,aJ,am4 hl j2 nt2 aC aC,aj,aX,fG,bne];cases h14:bG l (sep l j2 nt2).1==14 with
   |false=>
    simp only[Bool.not_false,aJ,aX,lnS];have e1:(decide (0<=(nt2.length:Int)) && decide ((nt2.length:Int)<=((sep l j2 nt2).2.length:Int)))=true:=by rw[hu',DJ,zdt aC,zdt aC];rfl
    have e2:List.take (nt2.length:Int).toNat (encS (sep l j2 nt2).2)=encS nt2:=by rw[hu',ztn,encS,encS,<-List.map_take];congr 1;simp
    rw[e1,aJ,e2,dY,aJ];exact AT.mk rfl rfl rfl rfl (fz2 (Og hk) (Og hk'))
   |true=>
    have hlt:=dI h14 (by decide);simp only[zaT,aX,aJ,pX hl hlt];refine AT.elim (R:=AT l) (h.body _ _ aC aC) (λ_=>trivial) (λk op x y fl ks j nt hn=> ?_) (λz aXD ku j3 nt3 hk'' aXE=> ?_)
    ·simp only[dY,aJ];exact AT.fO hn
    ·simp only[dY,aJ];exact AT.mk rfl rfl rfl rfl (fz3 (Og hk) (Og hk') (Og hk''))
def aAp(l:List Tk)(n i:Nat)(nt:gW):PR Tn:=(JB l n 37 true i nt).bind λx i nt=>(jD l 37 i nt).bind λ_ i nt=>(JB l n 37 false (nl l i nt).1 (nl l i nt).2).bind λy i nt=>(jD l 37 i nt).bind λ_ i nt=>(JB l n 33 false (nl l i nt).1 (nl l i nt).2).bind λz i nt=>(jD l 33 i nt).bind λ_ i nt=>(Bc l n i nt).bind λw i nt=> .ok (.mk 31 0 [] [] [x,y,z,w]) i nt
omit hl H hm in
theorem fz4{x y z u:Tn}{kx ky kz ku:ak}(h:au kx=dN false x.kids)(h':au ky=dN false y.kids)(h'':au kz=dN false z.kids)(h3:au ku=dN false u.kids):
  au [[.int .i64 x.kind,.int .i64 x.op,.str x.text,.str x.other,.sl false 5 kx],[.int .i64 y.kind,.int .i64 y.op,.str y.text,.str y.other,.sl false 5 ky],[.int .i64 z.kind,.int .i64 z.op,.str z.text,.str z.other,.sl false 5 kz],[.int .i64 u.kind,.int .i64 u.op,.str u.text,.str u.other,.sl false 5 ku]]=dN false [x,y,z,u]:=by
 rw[au,fzT x _ kx h,au,fzT y _ ky h',au,fzT z _ kz h'',au,fzT u _ ku h3];rfl
omit hl H hm in
theorem aRq(m2:Nat){j:Nat}{nt:gW}(hn:nt.length<=l.length):AT l ((M.fP 37 true false (ay l) (j:Int) true (encS nt)).bind λSj=>
       (bif ah Sj.2.2.2.2.2.2.2.2.2 then
        ((M.aS 37 Sj.2.2.2.2.2.2.1 Sj.2.2.2.2.2.2.2.1 Sj.2.2.2.2.2.2.2.2.1 Sj.2.2.2.2.2.2.2.2.2).bind λaae=>
        (bif ah aae.2.2.2.2 then
         ((M.aT aae.2.1 aae.2.2.1 aae.2.2.2.1 aae.2.2.2.2).bind λaaf=>
         (bif ah aaf.2.2.2 then
          ((M.fP 37 false false aaf.1 aaf.2.1 aaf.2.2.1 aaf.2.2.2).bind λVe=>
          (bif ah Ve.2.2.2.2.2.2.2.2.2 then
           ((M.aS 37 Ve.2.2.2.2.2.2.1 Ve.2.2.2.2.2.2.2.1 Ve.2.2.2.2.2.2.2.2.1 Ve.2.2.2.2.2.2.2.2.2).bind λakO=>
           (bif ah akO.2.2.2.2 then
            ((M.aT akO.2.1 akO.2.2.1 akO.2.2.2.1 akO.2.2.2.2).bind λakP=>
            (bif ah akP.2.2.2 then
             ((M.fP 33 false false akP.1 akP.2.1 akP.2.2.1 akP.2.2.2).bind λXE=>
             (bif ah XE.2.2.2.2.2.2.2.2.2 then
              ((M.aS 33 XE.2.2.2.2.2.2.1 XE.2.2.2.2.2.2.2.1 XE.2.2.2.2.2.2.2.2.1 XE.2.2.2.2.2.2.2.2.2).bind λakQ=>
              (bif ah akQ.2.2.2.2 then
               ((M.lV (m2+1) akQ.2.1 akQ.2.2.1 akQ.2.2.2.1 akQ.2.2.2.2).bind λSl=>
               (bif ah Sl.2.2.2.2.2.2.2.2.2 then
                some (31,0,[],[],true,[[D.int .i64 Sj.1,D.int .i64 Sj.2.1,D.str Sj.2.2.1,D.str Sj.2.2.2.1,D.sl false 5 (au Sj.2.2.2.2.2.1)],[D.int .i64 Ve.1,D.int .i64 Ve.2.1,D.str Ve.2.2.1,D.str Ve.2.2.2.1,D.sl false 5 (au Ve.2.2.2.2.2.1)],[D.int .i64 XE.1,D.int .i64 XE.2.1,D.str XE.2.2.1,D.str XE.2.2.2.1,D.sl false 5 (au XE.2.2.2.2.2.1)],[D.int .i64 Sl.1,D.int .i64 Sl.2.1,D.str Sl.2.2.1,D.str Sl.2.2.2.1,D.sl false 5 (au Sl.2.2.2.2.2.1)]],Sl.2.2.2.2.2.2.1,Sl.2.2.2.2.2.2.2.1,Sl.2.2.2.2.2.2.2.2.1,Sl.2.2.2.2.2.2.2.2.2) else none)) else none)) else none)) else none)) else none)) else none)) else none)) else none)) else none)) (.bad j):=by
 refine AT.EN (R:=λo=>AT l o (.bad j)) (Vo 37 true false hn) λk op x y fl ks nt hn=> ?_
 simp only[dY,aJ,wV,aj,JC];refine AT.EN (R:=λo=>AT l o (.bad j)) (Vo 37 false false hn) λk op x y fl ks nt hn=> ?_
 simp only[dY,aJ,wV,aj,JC];refine AT.EN (R:=λo=>AT l o (.bad j)) (Vo 33 false false hn) λk op x y fl ks nt hn=> ?_
 simp only[dY,aJ,wV,aj,JC];refine AT.EN (R:=λo=>AT l o (.bad j)) (Wq m2 hn) λk op x y fl ks nt hn=> ?_
 simp only[dY,aJ];exact AT.fO hn
theorem aRr(m2:Nat)(hm2:m=m2+1+1)(i:Nat)(nt:gW)(hi:i<=l.length)(hn:nt.length<=i):AT l ((M.fP 37 true false (ay l) (i:Int) false (encS nt)).bind λSj=>
       (bif ah Sj.2.2.2.2.2.2.2.2.2 then
        ((M.aS 37 Sj.2.2.2.2.2.2.1 Sj.2.2.2.2.2.2.2.1 Sj.2.2.2.2.2.2.2.2.1 Sj.2.2.2.2.2.2.2.2.2).bind λaae=>
        (bif ah aae.2.2.2.2 then
         ((M.aT aae.2.1 aae.2.2.1 aae.2.2.2.1 aae.2.2.2.2).bind λaaf=>
         (bif ah aaf.2.2.2 then
          ((M.fP 37 false false aaf.1 aaf.2.1 aaf.2.2.1 aaf.2.2.2).bind λVe=>
          (bif ah Ve.2.2.2.2.2.2.2.2.2 then
           ((M.aS 37 Ve.2.2.2.2.2.2.1 Ve.2.2.2.2.2.2.2.1 Ve.2.2.2.2.2.2.2.2.1 Ve.2.2.2.2.2.2.2.2.2).bind λakO=>
           (bif ah akO.2.2.2.2 then
            ((M.aT akO.2.1 akO.2.2.1 akO.2.2.2.1 akO.2.2.2.2).bind λakP=>
            (bif ah akP.2.2.2 then
             ((M.fP 33 false false akP.1 akP.2.1 akP.2.2.1 akP.2.2.2).bind λXE=>
             (bif ah XE.2.2.2.2.2.2.2.2.2 then
              ((M.aS 33 XE.2.2.2.2.2.2.1 XE.2.2.2.2.2.2.2.1 XE.2.2.2.2.2.2.2.2.1 XE.2.2.2.2.2.2.2.2.2).bind λakQ=>
              (bif ah akQ.2.2.2.2 then
               ((M.lV (m2+1) akQ.2.1 akQ.2.2.1 akQ.2.2.2.1 akQ.2.2.2.2).bind λSl=>
               (bif ah Sl.2.2.2.2.2.2.2.2.2 then
                some (31,0,[],[],true,[[D.int .i64 Sj.1,D.int .i64 Sj.2.1,D.str Sj.2.2.1,D.str Sj.2.2.2.1,D.sl false 5 (au Sj.2.2.2.2.2.1)],[D.int .i64 Ve.1,D.int .i64 Ve.2.1,D.str Ve.2.2.1,D.str Ve.2.2.2.1,D.sl false 5 (au Ve.2.2.2.2.2.1)],[D.int .i64 XE.1,D.int .i64 XE.2.1,D.str XE.2.2.1,D.str XE.2.2.2.1,D.sl false 5 (au XE.2.2.2.2.2.1)],[D.int .i64 Sl.1,D.int .i64 Sl.2.1,D.str Sl.2.2.1,D.str Sl.2.2.2.1,D.sl false 5 (au Sl.2.2.2.2.2.1)]],Sl.2.2.2.2.2.2.1,Sl.2.2.2.2.2.2.2.1,Sl.2.2.2.2.2.2.2.2.1,Sl.2.2.2.2.2.2.2.2.2) else none)) else none)) else none)) else none)) else none)) else none)) else none)) else none)) else none)) (aAp l n i nt):=by
 have h:=H n (zaU _) (m2+1) aC;rw[aAp];refine AT.elim (R:=AT l) (aoj hl n 37 true hi hn) (λ_=>trivial) (λk op x y fl ks j nt hn=> ?_) (λx fx kx j nt hx ex=> ?_)
 ·simp only[dY,aJ,wV,aj,JC];refine AT.EN (R:=λo=>AT l o (.bad j)) (Vo 37 false false hn) λk op x y fl ks nt hn=> ?_
  simp only[dY,aJ,wV,aj,JC];refine AT.EN (R:=λo=>AT l o (.bad j)) (Vo 33 false false hn) λk op x y fl ks nt hn=> ?_
  simp only[dY,aJ,wV,aj,JC];refine AT.EN (R:=λo=>AT l o (.bad j)) (Wq m2 hn) λk op x y fl ks nt hn=> ?_
  simp only[dY,aJ];exact AT.fO hn
 have s1:=iM (Ri hi) ex;simp only[dY,aJ];refine NU (R:=AT l) hl (by decide) ?_ (λ_ hlt=> ?_)
 ·simp only[dY,aJ,JC,aj];have hn:nt.length<=l.length:=aC;refine AT.EN (R:=λo=>AT l o (.bad j)) (Vo 37 false false hn) λk op x y fl ks nt hn=> ?_
  simp only[dY,aJ,wV,aj,JC];refine AT.EN (R:=λo=>AT l o (.bad j)) (Vo 33 false false hn) λk op x y fl ks nt hn=> ?_
  simp only[dY,aJ,wV,aj,JC];refine AT.EN (R:=λo=>AT l o (.bad j)) (Wq m2 hn) λk op x y fl ks nt hn=> ?_
  simp only[dY,aJ];exact AT.fO hn
 have g1:=EC (l:=l) (i:=j+1) (nt:=nt) aC;simp only[dY,aJ,SN hl (j+1) nt aC aC,aj];refine AT.elim (R:=AT l) (aoj hl n 37 false aC aC) (λ_=>trivial) (λk op x y fl ks j nt hn=> ?_) (λy fy ky j nt hy ey=> ?_)
 ·simp only[dY,aJ,wV,aj,JC];refine AT.EN (R:=λo=>AT l o (.bad j)) (Vo 33 false false hn) λk op x y fl ks nt hn=> ?_
  simp only[dY,aJ,wV,aj,JC];refine AT.EN (R:=λo=>AT l o (.bad j)) (Wq m2 hn) λk op x y fl ks nt hn=> ?_
  simp only[dY,aJ];exact AT.fO hn
 have s2:=iM (Ri aC) ey;simp only[dY,aJ];refine NU (R:=AT l) hl (by decide) ?_ (λ_ hlt=> ?_)
 ·simp only[dY,aJ,JC,aj];have hn:nt.length<=l.length:=aC;refine AT.EN (R:=λo=>AT l o (.bad j)) (Vo 33 false false hn) λk op x y fl ks nt hn=> ?_
  simp only[dY,aJ,wV,aj,JC];refine AT.EN (R:=λo=>AT l o (.bad j)) (Wq m2 hn) λk op x y fl ks nt hn=> ?_
  simp only[dY,aJ];exact AT.fO hn
 have g2:=EC (l:=l) (i:=j+1) (nt:=nt) aC;simp only[dY,aJ,SN hl (j+1) nt aC aC,aj];refine AT.elim (R:=AT l) (aoj hl n 33 false aC aC) (λ_=>trivial) (λk op x y fl ks j nt hn=> ?_) (λz fz kz j nt hz ez=> ?_)
 ·simp only[dY,aJ,wV,aj];refine AT.EN (R:=λo=>AT l o (.bad j)) (Wq m2 hn) λk op x y fl ks nt hn=> ?_
  simp only[dY,aJ];exact AT.fO hn
 have s3:=iM (Ri aC) ez;simp only[dY,aJ];refine NU (R:=AT l) hl (by decide) ?_ (λ_ hlt=> ?_)
 ·simp only[dY,aJ];have hn:nt.length<=l.length:=aC;refine AT.EN (R:=λo=>AT l o (.bad j)) (Wq m2 hn) λk op x y fl ks nt hn=> ?_
  simp only[dY,aJ];exact AT.fO hn
 simp only[dY,aJ];refine AT.elim (R:=AT l) (h.body _ _ aC aC) (λ_=>trivial) (λk op x y fl ks j nt hn=> ?_) (λw fw kw j nt hw ew=> ?_)
 ·simp only[dY,aJ];exact AT.fO hn
 ·simp only[dY,aJ];exact AT.mk rfl rfl rfl rfl (fz4 (Og hx) (Og hy) (Og hz) (Og hw))
def lpP(l:List Tk)(n i:Nat)(nt:gW):PR Tn:=(jD l 32 i nt).bind λ_ i nt=>(bif bG l i==6 && bG l (i+1)==24 then(nameP l (i+2) nt).bind λs j nt=>(jD l 33 j nt).bind λ_ j nt=>(Bc l n j nt).bind λy j nt=> .ok (.mk 32 0 (CG l i) s [y]) j nt else aAp l n i nt)
theorem aDm(i:Nat)(nt:gW)(hi:i<=l.length)(hn:nt.length<=i):AT l (M.En m (ay l) (i:Int) false (encS nt)) (lpP l n i nt):=by
 obtain⟨m2,hm2⟩:∃m2,m=m2+1+1:=⟨m - 2,aC⟩
 subst hm2;have h:=H n (zaU _) (m2+1) aC;rw[M.aeG,lpP];simp only[M.zM,M.yE,dY,aJ];refine NU (R:=AT l) hl (by decide) ?_ (λ_ hlt=> ?_)
 ·simp only[zaT,aX,dY,aJ];exact aRq m2 aC
 ·simp only[Bool.not_false,aJ,dY,fG,aj,dZ];have aok:=aRr hl H hm m2 rfl (i+1) nt aC aC;cases h6:bG l (i+1)==6 with
  |false=>simp only[aX,Bool.false_and];exact aok
  |true=>
   have aG0:=dI h6 (by decide);simp only[aJ,pX hl aG0,Bool.true_and]
   by_cases hb:i+1+1<l.length
   ·obtain⟨t,ht⟩:∃t,l[i+1+1]? =some t:=⟨l[i+1+1],by simp[hb]⟩
    have e1:bG l (i+1+1)=t.kind:=by rw[bG,ht]
    rw[zdt aC,aJ];simp only[dG,iE,ht,Ir,aj,cT0,e1];cases h24:t.kind==24 with
    |false=>simp only[aX];exact aok
    |true=>
     have n1:M.bJ (ay l) ((i+1:Nat):Int) false (encS nt)=some (CG l (i+1),ay l,((i+1+1:Nat):Int),false,encS nt):=by simp only[M.bJ,M.jl,dY,aJ,aX,fG,aj,bne,h6,zaT,NT hl aG0]
     have n2:M.aS 24 (ay l) ((i+1+1:Nat):Int) false (encS nt)=some (true,ay l,((i+1+1+1:Nat):Int),false,encS nt):=by simp only[M.aS,M.vW,dY,aJ,aX,fG,aj,bne,e1,h24,zaT,pX hl hb]
     simp only[aJ,n1,n2,aj,dY];refine az1 (R:=AT l) hl ?_ (λ_ hlt=> ?_)
     ·simp only[dY,aJ,wV,aj];refine AT.EN (R:=λo=>AT l o (.bad (i+1+1+1))) (Wq m2 aC) λk op x y fl ks nt hn=> ?_
      simp only[dY,aJ];exact AT.fO hn
     ·simp only[dY,aJ];refine NU (R:=AT l) hl (by decide) ?_ (λ_ hlt=> ?_)
      ·simp only[dY,aJ];refine AT.EN (R:=λo=>AT l o (.bad (i+1+1+1+1))) (Wq m2 aC) λk op x y fl ks nt hn=> ?_
       simp only[dY,aJ];exact AT.fO hn
      ·simp only[dY,aJ];refine AT.elim (R:=AT l) (h.body _ _ aC aC) (λ_=>trivial) (λk op x y fl ks j nt hn=> ?_) (λw fw kw j nt hw ew=> ?_)
       ·simp only[dY,aJ];exact AT.fO hn
       ·simp only[dY,aJ];exact AT.mk rfl rfl rfl rfl (fz1 (Og hw))
   ·have e0:bG l (i+1+1)=0:=by rw[bG,List.getElem?_eq_none aC]
    rw[Ac aC,aX,e0];exact aok
end
variable {l:List Tk}
def K1(R:List Nd):Prop:=∀n,n∈R->n.kids.length<=100000
def K1.nil:K1 []:=λn h=>by cases h
def AS(l:List Tk)(i n0:Nat)(o:Option TY):PR Tn->Prop
 | .ok t j nt=>∃fl rows ns,au rows=aU false (t.flat 0)/\txt ns=nt/\o=some (fl,rows,ay l,(j:Int),false,ay ns)
 | .bad j=>∃fl rows ns R,i<=j/\j<=l.length/\ns.length<=l.length/\au rows=aU false R/\R.length+ns.length<=9 * (j - i)+n0+l.length+4/\K1 R/\o=some (fl,rows,ay l,(j:Int),true,ay ns)
 | .out=>True
def AS.elim{β γ:Type}{Q:Option β->PR γ->Prop}{i n0:Nat}{o:Option TY}{p:PR Tn}(h:AS l i n0 o p){f:TY->Option β}{g:Tn->Nat->gW->PR γ}(hout:∀o,Q o .out)
  (hbad:∀fl rows j ns R,i<=j->j<=l.length->ns.length<=l.length->au rows=aU false R->R.length+ns.length<=9 * (j - i)+n0+l.length+4->K1 R->Q (f (fl,rows,ay l,((j:Nat):Int),true,ay ns)) (.bad j))
  (hok:∀x fl rows j ns,au rows=aU false (x.flat 0)->p=.ok x j (txt ns)->Q (f (fl,rows,ay l,(j:Int),false,ay ns)) (g x j (txt ns))):Q (o.bind f) (p.bind g):=by
 cases p with
 |ok x j nt=>obtain⟨fl,rows,ns,h1,rfl,rfl⟩:=h;exact hok x fl rows j ns h1 rfl
 |bad j=>obtain⟨fl,rows,ns,R,h1,h2,h3,h4,h5,h6,rfl⟩:=h;exact hbad fl rows j ns R h1 h2 h3 h4 h5 h6
 |out=>exact hout _
def AS.mk{x:Tn}{i n0 j:Nat}{fl:Bool}{rows:ak}{ns:List Tk}(h:au rows=aU false (x.flat 0)):AS l i n0 (some (fl,rows,ay l,(j:Int),false,ay ns)) (.ok x j (txt ns)):=⟨_,_,_,h,rfl,rfl⟩
def AS.fO{i n0 j:Nat}{fl:Bool}{rows:ak}{ns:List Tk}{R:List Nd}(h1:i<=j)(h2:j<=l.length)(h3:ns.length<=l.length)(h4:au rows=aU false R)(h5:R.length+ns.length<=9 * (j - i)+n0+l.length+4)(h6:K1 R):
  AS l i n0 (some (fl,rows,ay l,(j:Int),true,ay ns)) (.bad j):=⟨_,_,_,_,h1,h2,h3,h4,h5,h6,rfl⟩
def AS.pass{i i' n0 n0':Nat}{o:Option TY}{p:PR Tn}(h:AS l i n0 o p)(hi:i'<=i)(hn:9 * i'+n0<=9 * i+n0'){f:TY->Option TY}
  (hf:∀fl rows c1 b ns,f (fl,rows,ay l,c1,b,ay ns)=some (false,au rows,ay l,c1,b,ay ns)):AS l i' n0' (o.bind f) p:=by
 rw[<-PR.bind_ok p];refine AS.elim (Q:=AS l i' n0') h (λ_=>trivial) (λfl rows j ns R h1 h2 h3 h4 h5 h6=> ?_) (λx fl rows j ns hk _=> ?_)
 ·rw[hf];exact AS.fO aC h2 h3 (fzN h4) aC h6
 ·rw[hf];exact AS.mk (fzN hk)
def AX.lim{i:Nat}{o o':Option TX}{p:PR Xp}(h:AX l i o p)(hof:∀r,o=some r->o'=some r):AX l i o' p:=by
 cases p with
 |ok x j nt=>obtain⟨fl,rows,ns,h1,h2,h3⟩:=h;exact⟨fl,rows,ns,h1,h2,hof _ h3⟩
 |bad j=>obtain⟨fl,rows,hd,ns,R,h1,h2,h3,h4,h5,h6⟩:=h;exact⟨fl,rows,hd,ns,R,h1,h2,h3,h4,h5,hof _ h6⟩
 |out=>trivial
def AS.lim{i n0:Nat}{o o':Option TY}{p:PR Tn}(h:AS l i n0 o p)(hof:∀r,o=some r->o'=some r):AS l i n0 o' p:=by
 cases p with
 |ok x j nt=>obtain⟨fl,rows,ns,h1,h2,h3⟩:=h;exact⟨fl,rows,ns,h1,h2,hof _ h3⟩
 |bad j=>obtain⟨fl,rows,ns,R,h1,h2,h3,h4,h5,h6,h7⟩:=h;exact⟨fl,rows,ns,R,h1,h2,h3,h4,h5,h6,hof _ h7⟩
 |out=>trivial
def AY.lim{i:Nat}{o o':Option TY}{p:PR (List Tn)}(h:AY l i o p)(hof:∀r,o=some r->o'=some r):AY l i o' p:=by
 cases p with
 |ok L j nt=>obtain⟨fl,ns,h1,h2⟩:=h;exact⟨fl,ns,h1,hof _ h2⟩
 |bad j=>obtain⟨fl,ns,P,h1,h2,h3,h4,h5,h6,h7⟩:=h;exact⟨fl,ns,P,h1,h2,h3,h4,h5,h6,hof _ h7⟩
 |out=>trivial
section
variable (hl:l.length<=3000)
include hl
theorem at1(n:Nat)(a b:Bool){i:Nat}{ns:List Tk}(hi:i<=l.length)(hn:ns.length<=i):AX l i (M.fB 1 false a b false (ay l) (i:Int) false (ay ns)) (ex l n 1 a b i (txt ns)):=
 ((RX.of hl n (zaU _)).a1 a b i ns hi hn).lim λr h=>M.Xx h
theorem at9(n:Nat)(a b:Bool){i:Nat}{ns:List Tk}(hi:i<=l.length)(hn:ns.length<=i):AX l i (M.fB 9 false a b false (ay l) (i:Int) false (ay ns)) (ex l n 9 a b i (txt ns)):=
 ((RX.of hl n (zaU _)).a9 a b i ns hi hn).lim λr h=>M.Xx h
theorem aRs(n:Nat){i:Nat}{ns:List Tk}(hi:i<=l.length)(hn:ns.length<=i):AY l i (M.oC 35 1 (ay l) (i:Int) false (ay ns)) (aif l n 35 i (txt ns)):=
 (asP hl (m:=4 * n+20) (by decide) (λn' hn' i ns hi hn=>(RX.of hl n' aC).a1 false false i ns hi hn) hi hn).lim λr h=>M.Zb h
end
def atB(p:Int)(p1 p2 p3 p4:Bool)(i:Nat)(ns:List Tk):M.fB p p1 p2 p3 p4 (ay l) (i:Int) true (ay ns)=some (true,[],false,ay l,(i:Int),true,ay ns):=M.Xx (aAh 0 p p1 p2 p3 p4 i ns)
def aG1(i:Nat)(ns:List Tk):M.oC 35 1 (ay l) (i:Int) true (ay ns)=some (true,[],ay l,(i:Int),true,ay ns):=by refine M.Zb (n:=1) ?_;rw[M.Qq];have h10:((1:Int)==0)=false:=rfl;simp only[M.xU,M.vC,h10,aX];rw[show M.yI _ _=_ from aO rfl];simp only[aj,jg,letE,bg,aJ,lN]
def acp(k op:Int)(x y:aK)(P:List (List Nd)){b:Nat}(hb:lens P<=b)(hl:b<=90000)(hn:P.length<=100000)(hk:KB P):
  ∃R',M.eF k op x y [] (uy P)=some (false,aU false R')/\M.bU k op x y [] (uy P)=some (aU true R')/\R'.length<=b+1/\K1 R':=by
 obtain⟨R',h1,h2⟩:=aeO k op x y [] hb hl hn hk;exact⟨R',by simp only[M.eF,M.Ls,h1,aj,aV],h1,h2.1,h2.2⟩
def aAq(k op:Int)(x y:aK)(ts:List Tn)(h:sizes ts<=100000):M.eF k op x y [] (parts ts)=some (false,aU false ((Tn.mk k op x y ts).flat 0)):=by simp only[M.eF,M.Ls,EI k op x y [] ts aC,aj,aV]
def abY(hl:l.length<=3000){i q n0 nq:Nat}{k op:Int}{x x':aK}(ts:List Tn){o:Option TY}{p:PR Tn}(h:AS l q nq o p)(hq:i<=q)(hn0:nq<=4000)(hs:sizes ts+9 * i+nq+1<=9 * q+n0)(hts:sizes ts<=30000)(CJ:p.sat λx j m=>x.size<=30000):
  AS l i n0 (o.bind λr=>(M.eF k op x x' [] (au (parts ts++[[D.sl false 5 (au r.2.1)]]))).bind λr'=>
   bif ah r.2.2.2.2.2 then some (false,au r'.2,r.2.2.1,r.2.2.2.1,r.2.2.2.2.1,r.2.2.2.2.2) else none)
   (p.bind λy j nt=> .ok (.mk k op x x' (ts++[y])) j nt):=by
 have hlen:(ts.map λt=>t.flat 0).length<=sizes ts:=by rw[zaV];exact yP ts
 cases p with
 |out=>trivial
 |bad j=>obtain⟨fl,rows,ns,R,g1,g2,g3,g4,g5,g6,rfl⟩:=h;obtain⟨R',e1,_,e2,e3⟩:=acp k op x x' ((ts.map λt=>t.flat 0)++[R]) (b:=sizes ts+R.length) (by rw[yZ,pq,lens,lens];omega) aC (by rw[DJ,Bd];omega) (KB.trees ts aC (KB.cons g6 KB.nil));simp only[aj,PL g4,Df,e1,bg,aJ,aV];exact AS.fO aC g2 g3 (aV _ _) aC e3
 |ok y j m=>obtain⟨fl,rows,ns,h1,rfl,rfl⟩:=h;have hs':y.size<=30000:=CJ;have ho:=aAq k op x x' (ts++[y]) (by rw[sizes1];omega);simp only[aj,JD h1,NV,ho,bg,aJ,aV];exact AS.mk (aV _ _)
def auk(hl:l.length<=3000){i q n0:Nat}{k op:Int}{x x':aK}(ts:List Tn){o:Option TX}{p:PR Xp}(h:AX l q o p)(hq:i<=q)(hs:sizes ts+9 * i+1<=9 * q+n0+4)(hts:sizes ts<=30000)(CJ:p.sat λx j m=>x.1.size<=30000):
  AS l i n0 (o.bind λr=>(M.eF k op x x' [] (au (parts ts++[[D.sl false 5 (au r.2.1)]]))).bind λr'=>
   bif ah r.2.2.2.2.2.2 then some (false,au r'.2,r.2.2.2.1,r.2.2.2.2.1,r.2.2.2.2.2.1,r.2.2.2.2.2.2) else none)
   (p.bind λy j nt=> .ok (.mk k op x x' (ts++[y.1])) j nt):=by
 have hlen:(ts.map λt=>t.flat 0).length<=sizes ts:=by rw[zaV];exact yP ts
 cases p with
 |out=>trivial
 |bad j=>obtain⟨fl,rows,hd,ns,R,g1,g2,g3,g4,g5,rfl⟩:=h;have g51:=g5.1;obtain⟨R',e1,_,e2,e3⟩:=acp k op x x' ((ts.map λt=>t.flat 0)++[R]) (b:=sizes ts+R.length) (by rw[yZ,pq,lens,lens];omega) aC (by rw[DJ,Bd];omega) (KB.trees ts aC (KB.cons g5.2 KB.nil));simp only[aj,PL g4,Df,e1,bg,aJ,aV];exact AS.fO aC g2 g3 (aV _ _) aC e3
 |ok y j m=>obtain⟨fl,rows,ns,h1,rfl,rfl⟩:=h;have hs':y.1.size<=30000:=CJ;have ho:=aAq k op x x' (ts++[y.1]) (by rw[sizes1];omega);simp only[aj,JD h1,NV,ho,bg,aJ,aV];exact AS.mk (aV _ _)
def aEz(hl:l.length<=3000){n lv i:Nat}{a b:Bool}{nt:gW}(h1:1<=lv)(h2:lv<=15)(hi:i<=l.length):(ex l n lv a b i nt).sat λx j m=>x.1.size<=30000:=bK ((sats l n).ex lv a b i nt h1 h2 hi) λx j m h=>by omega
def aul(i:Nat)(b:Bool)(ns:List Tk):M.pU (ay l) (i:Int) b (ay ns)=some (ay l,(i:Int),b|| !(Ip (bG l i)),ay ns):=by simp only[M.pU,M.TA,bg,aJ,iy,aj,aoh];cases b<;>cases Ip (bG l i)<;>rfl
def aum(i:Nat)(ns:List Tk):M.pG (ay l) (i:Int) true (ay ns)=some (false,[],ay l,(i:Int),true,ay ns):=by simp only[M.pG,M.JQ,M.jH,M.tY,bg,aJ,lN,aj,atB];rfl
def aol(hl:l.length<=3000)(n:Nat){i:Nat}{ns:List Tk}(hi:i<=l.length)(hn:ns.length<=i):AS l i ns.length (M.pG (ay l) (i:Int) false (ay ns)) (U4 l n i (txt ns)):=by
 simp only[M.pG,M.JQ,M.jH,M.tY,bg,aJ,aj,U4];rw[jD];cases hc:bG l i==32 with
 |false=>simp only[wS hc,aj,bg,aJ,aX,atB,lN];exact AS.fO (R:=[]) (zaU i) hi aC rfl (by simp;omega) K1.nil
 |true=>
  have hlt:=dI hc (by decide);have e:bG l i=32:=by rwa [beq_iff_eq] at hc
  simp only[fM hl e (by decide),aj,bg,aJ,PR.bind];refine AX.elim (Q:=AS l i ns.length) (at1 hl n false false aC aC) (λ_=>trivial) (λfl rows hd j ns' R g1 g2 g3 g4 g5=> ?_) (λx fl rows j ns' h1 he=> ?_)
  ·have g51:=g5.1;simp only[bg,aJ,lN,aj];exact AS.fO aC g2 g3 (fzN g4) aC g5.2
  ·have hs:=iM (IV aC aC aC) he;simp only[zaV] at hs;simp only[bg,aJ,jD];cases hc2:bG l j==33 with
   |false=>simp only[wS hc2,aj,bg,aJ,aX];exact AS.fO (R:=x.1.flat 0) aC aC aC (fzN h1) (by rw[x.1.flat_length];omega) (Yp _ aC)
   |true=>
    have e2:bG l j=33:=by rwa [beq_iff_eq] at hc2
    simp only[fM hl e2 (by decide),aj,bg,aJ];exact AS.mk (fzN h1)
def asV(e:Int)(p:Int)(p1 p2 p3 p4:Bool)(i:Nat)(ns:List Tk):∃fl rows R,M.nI e p p1 p2 p3 p4 (ay l) (i:Int) true (ay ns)=some (fl,rows,ay l,(i:Int),true,ay ns)/\au rows=aU false R/\R.length<=1/\K1 R:=by
 simp only[M.nI,M.Lu,bg,aJ,iy,aj,atB];cases bG l i==e with
 |true=>exact⟨_,_,(Tn.mk 16 0 [] [] []).flat 0,rfl,OX 16 [],by rw[Tn.flat_length];rw[Xf];exact zaU 1,Yp _ (by rw[Xf];omega)⟩
 |false=>exact⟨_,_,[],rfl,rfl,by simp,K1.nil⟩
def asW(hl:l.length<=3000)(n:Nat)(e:Int)(a:Bool){i:Nat}{ns:List Tk}(hi:i<=l.length)(hn:ns.length<=i):AS l i ns.length (M.nI e 1 false a false false (ay l) (i:Int) false (ay ns)) (JB l n e a i (txt ns)):=by
 simp only[M.nI,M.Lu,bg,aJ,iy,aj,JB];cases bG l i==e with
 |true=>exact AS.mk (OX 16 [])
 |false=>
  simp only[aX];refine AX.elim (Q:=AS l i ns.length) (at1 hl n a false hi hn) (λ_=>trivial) (λfl rows hd j ns' R g1 g2 g3 g4 g5=> ?_) (λx fl rows j ns' h1 he=> ?_)
  ·have g51:=g5.1;simp only[bg,aJ];exact AS.fO aC g2 g3 (fzN g4) aC g5.2
  ·simp only[bg,aJ];exact AS.mk (fzN h1)
def aom(hl:l.length<=3000)(i:Nat)(ns:List Tk)(hi:i<=l.length)(hn:ns.length<=i):
  ∃ns',txt ns'=(sep l i (txt ns)).2/\M.lX (ay l) (i:Int) false (ay ns)=some (ay l,((sep l i (txt ns)).1:Int),false,ay ns'):=by
 have hloop:∀k i (ns:List Tk),l.length - i<=k->i<=l.length->ns.length<=i->∃ns',txt ns'=(sep l i (txt ns)).2/\
   ((M.bZ (ay l) (i:Int) false (ay ns)).bind λr=>M.BK (r.1,r.2.1,r.2.2.1,r.2.2.2))=some (ay l,((sep l i (txt ns)).1:Int),false,ay ns'):=by
  intro k;induction k with
  |zero=>
   intro i ns hk hi hn;obtain⟨U5,t1,h1⟩:=KU hl i ns hi hn;have hf:=EC (l:=l) (nt:=txt ns) hi;have e0:bG l (nl l i (txt ns)).1=0:=by rw[bG,List.getElem?_eq_none aC]
   have e:sep l i (txt ns)=nl l i (txt ns):=by rw[aod,e0];rfl
   refine⟨U5,by rw[e,t1], ?_⟩;have hb:M.xK (ay l,((nl l i (txt ns)).1:Int),false,ay U5)=some (.inr (ay l,((nl l i (txt ns)).1:Int),false,ay U5)):=by have h0:((0:Int)==37)=false:=rfl;simp only[M.xK,M.Bg,Bool.not_false,aJ,bg,iy,aj,e0,h0,aX]
   rw[h1,aj,e,M.BK,aO hb]
  |succ k ih=>
   intro i ns hk hi hn;obtain⟨U5,t1,h1⟩:=KU hl i ns hi hn;have hf:=EC (l:=l) (nt:=txt ns) hi;rw[<-t1] at hf;simp only[zaV] at hf;rw[h1,aj,M.BK,aod];cases h37:bG l (nl l i (txt ns)).1==37 with
   |false=>
    have hb:M.xK (ay l,((nl l i (txt ns)).1:Int),false,ay U5)=some (.inr (ay l,((nl l i (txt ns)).1:Int),false,ay U5)):=by simp only[M.xK,M.Bg,Bool.not_false,aJ,bg,iy,aj,h37,aX]
    rw[aO hb];exact⟨U5,t1,rfl⟩
   |true=>
    have hlt:=dI h37 (by decide);have e37:bG l (nl l i (txt ns)).1=37:=by rwa [beq_iff_eq] at h37
    obtain⟨NG,t2,h2⟩:=ih ((nl l i (txt ns)).1+1) U5 aC aC aC;obtain⟨ns3,t3,h3⟩:=KU hl ((nl l i (txt ns)).1+1) U5 aC aC;rw[h3,aj] at h2;have hb:M.xK (ay l,((nl l i (txt ns)).1:Int),false,ay U5)=some (.inl (ay l,((nl l ((nl l i (txt ns)).1+1) (txt U5)).1:Int),false,ay ns3)):=by simp only[M.xK,M.Bg,Bool.not_false,aJ,bg,iy,aj,h37,fM hl e37 (by decide),h3]
    rw[aZ hb,aJ,<-t1];exact⟨NG,t2,h2⟩
 obtain⟨ns',e1,e2⟩:=hloop _ i ns (zaU _) hi hn;refine⟨ns',e1, ?_⟩;simp only[M.lX,M.Ld,bg,aJ];obtain⟨U5,t1,h1⟩:=KU hl i ns hi hn;rw[h1,aj] at e2|-;rw[e2,aj];simp only[bg,aJ]
def aon(i:Nat)(ns:List Tk):M.lX (ay l) (i:Int) true (ay ns)=some (ay l,(i:Int),true,ay ns):=by have:M.BK (ay l,(i:Int),true,ay ns)=some (ay l,(i:Int),true,ay ns):=aO rfl;simp only[M.lX,M.Ld,bg,aJ,Md,aj,this]
def RF(ns:List Tk):ak:=ns.map λt=>[D.sl true 5 [[D.int .i64 34,D.int .i64 0,D.str t.text,D.str [],D.sl true 1 []]]]
def abL:∀ns:List Tk,au (RF ns)=parts (EU (txt ns))
 |[]=>rfl
 |t::ns=>by have h:RF (t::ns)=[D.sl true 5 [[D.int .i64 34,D.int .i64 0,D.str t.text,D.str [],D.sl true 1 []]]]::RF ns:=rfl;rw[h,au,abL ns];rfl
def Vp(c1:Int)(b:Bool)(ns:List Tk)(hn:ns.length<=1048576):M.pz (ay l) c1 b (ay ns)=some (true,RF ns,ay l,c1,b,ay []):=by
 have hloop:=wC (b:=M.Je (ay l) c1 b (ay ns)) (t:=((ns.length:Int),RF ns)) (λj=>((j:Int),RF (ns.take j))) ns.length
  (by
   intro j hj;obtain⟨t,ht⟩:∃t,ns[j]? =some t:=⟨ns[j],by simp⟩
   have h2:RF (ns.take (j+1))=RF (ns.take j)++[[D.sl true 5 [[D.int .i64 34,D.int .i64 0,D.str t.text,D.str [],D.sl true 1 []]]]]:=by rw[qL ht,RF,List.map_append];rfl
   have h3:(RF (ns.take j)).length=j:=by rw[RF,zaV,zlt];omega
   simp only[EY,M.Je,M.DX,dZ];rw[zdt aC,aJ];simp only[dG,iE,ht,Ir,aj,ztn,cT1,h3,Bd];rw[bC aC,aJ,bC aC,aJ,bF aC aC,h2];rfl)
  (by simp only[EY,M.Je,M.DX,dZ];rw[Ac aC,aX,List.take_length]) 0 (Nat.zero_le _)
 have Mc:M.MR (ay l) c1 b (ay ns) (0,[])=some ((ns.length:Int),RF ns):=hloop;simp only[M.pz,M.Ou,Mc,aj];rfl
def aG2(rows:ak):aoC 1 [D.sl true 1 rows] 0=some rows:=rfl
def agT(ns:List Tk):(RF ns).length=ns.length:=by rw[RF,zaV]
def aAr(i:Nat)(ns:List Tk)(hl:l.length<=3000)(hi:i<=l.length):M.sV (ay l) (i:Int) true (ay ns)=some (false,ay l,(i:Int),true,ay ns):=by
 have hloop:∀k j,l.length - j<=k->j<=l.length->∃v,M.BN (ay l) (i:Int) true (ay ns) (j:Int)=some v:=by
  intro k;induction k with
  |zero=>intro j hk hj;exact⟨_,aO (by simp only[M.xY,M.xX,dZ];rw[Ac aC,aX])⟩
  |succ k ih=>
   intro j hk hj
   by_cases hlt:j<l.length
   ·obtain⟨t,ht⟩:∃t,l[j]? =some t:=⟨l[j],by simp[hlt]⟩
    have w:i64.wrap ((j:Int)+1)=((j+1:Nat):Int):=by rw[bF aC aC];omega
    have hdec:decide ((j:Int)<(l.length:Int))=true:=by rw[zdt];omega
    have hb:M.xY (ay l) (i:Int) true (ay ns) (j:Int)=bif t.kind==1 then some (.inl ((j+1:Nat):Int)) else bif t.kind==2 then some (.inl ((j+1:Nat):Int)) else bif t.kind==37 then some (.inl ((j+1:Nat):Int)) else some (.inr (j:Int)):=by simp only[M.xY,M.xX,dZ,hdec,aJ,dG,iE,ht,Ir,aj,cT0,w]
    rw[M.BN];cases h1:t.kind==1 with
    |true=>rw[h1,aJ] at hb;rw[aZ hb];exact ih (j+1) aC aC
    |false=>
     cases h2:t.kind==2 with
     |true=>rw[h1,h2,aX,aJ] at hb;rw[aZ hb];exact ih (j+1) aC aC
     |false=>
      cases h3:t.kind==37 with
      |true=>rw[h1,h2,h3,aX,aX,aJ] at hb;rw[aZ hb];exact ih (j+1) aC aC
      |false=>rw[h1,h2,h3,aX,aX,aX] at hb;exact⟨_,aO hb⟩
   ·exact ih j aC hj
 obtain⟨v,hv⟩:=hloop _ i (zaU _) hi;simp only[M.sV,M.D8,hv,aj,aJ,bg]
def aG3(hl:l.length<=3000)(i:Nat)(ns:List Tk)(hi:i<=l.length)(hn:ns.length<=i):
  (bG l (sep l i (txt ns)).1==14)=true/\(∃ns',txt ns'=(sep l i (txt ns)).2/\M.sV (ay l) (i:Int) false (ay ns)=some (true,ay l,(((sep l i (txt ns)).1+1:Nat):Int),false,ay ns'))\/
  (bG l (sep l i (txt ns)).1==14)=false/\M.sV (ay l) (i:Int) false (ay ns)=some (false,ay l,(i:Int),false,ay ns):=by
 have hloop:∀k j (nt:gW),l.length - j<=k->j<=l.length->M.BN (ay l) (i:Int) false (ay ns) (j:Int)=some ((sep l j nt).1:Int):=by
  intro k;induction k with
  |zero=>
   intro j nt hk hj;have e0:bG l j=0:=by rw[bG,List.getElem?_eq_none aC]
   rw[akK,e0];exact aO (by simp only[M.xY,M.xX,dZ];rw[Ac aC,aX];rfl)
  |succ k ih=>
   intro j nt hk hj
   by_cases hlt:j<l.length
   ·obtain⟨t,ht⟩:∃t,l[j]? =some t:=⟨l[j],by simp[hlt]⟩
    have ek:bG l j=t.kind:=by rw[bG,ht]
    have w:i64.wrap ((j:Int)+1)=((j+1:Nat):Int):=by rw[bF aC aC];omega
    have hdec:decide ((j:Int)<(l.length:Int))=true:=by rw[zdt];omega
    have hb:M.xY (ay l) (i:Int) false (ay ns) (j:Int)=bif t.kind==1 then some (.inl ((j+1:Nat):Int)) else bif t.kind==2 then some (.inl ((j+1:Nat):Int)) else bif t.kind==37 then some (.inl ((j+1:Nat):Int)) else some (.inr (j:Int)):=by simp only[M.xY,M.xX,dZ,hdec,aJ,dG,iE,ht,Ir,aj,cT0,w]
    rw[M.BN,akK,ek];cases h1:t.kind==1 with
    |true=>rw[h1,aJ] at hb;rw[aZ hb,Bool.true_or,aJ];exact ih (j+1) nt aC aC
    |false=>
     rw[Bool.false_or];cases h2:t.kind==2 with
     |true=>
      have h3:(t.kind==37)=false:=by
       have:t.kind=2:=by rwa [beq_iff_eq] at h2
       rw[this];rfl
      rw[h1,h2,aX,aJ] at hb;rw[aZ hb,h3,aX,aJ];exact ih (j+1) _ aC aC
     |false=>
      cases h3:t.kind==37 with
      |true=>rw[h1,h2,h3,aX,aX,aJ] at hb;rw[aZ hb,aJ];exact ih (j+1) nt aC aC
      |false=>rw[h1,h2,h3,aX,aX,aX] at hb;rw[aO hb,aX,aX]
   ·exact ih j nt aC hj
 have hv:=hloop _ i (txt ns) (zaU _) hi;obtain⟨ns',t1,hsp⟩:=aom hl i ns hi hn;have hf:=SK (l:=l) (nt:=txt ns) hi
 by_cases hlt:(sep l i (txt ns)).1<l.length
 ·obtain⟨t,ht⟩:∃t,l[(sep l i (txt ns)).1]? =some t:=⟨l[(sep l i (txt ns)).1],by simp[hlt]⟩
  have ek:bG l (sep l i (txt ns)).1=t.kind:=by rw[bG,ht]
  cases h14:t.kind==14 with
  |true=>
   have e14:bG l (sep l i (txt ns)).1=14:=by rw[ek];rwa [beq_iff_eq] at h14
   refine .inl ⟨by rw[ek,h14],ns',t1, ?_⟩;simp only[M.sV,M.D8,hv,aj,aX,dZ];rw[Ac aC,aX];simp only[dG,iE,ht,Ir,aj,cT0,bne,h14,zaT,aX,bg,aJ,hsp,fM hl e14 (by decide)]
  |false=>refine .inr ⟨by rw[ek,h14], ?_⟩;simp only[M.sV,M.D8,hv,aj,aX,dZ];rw[Ac aC,aX];simp only[dG,iE,ht,Ir,aj,cT0,bne,h14,Bool.not_false,aJ,bg]
 ·have e0:bG l (sep l i (txt ns)).1=0:=by rw[bG,List.getElem?_eq_none aC]
  refine .inr ⟨by rw[e0];rfl, ?_⟩;simp only[M.sV,M.D8,hv,aj,aX,dZ];rw[zdt aC,aJ];simp only[bg,aJ]
variable {l:List Tk}
def aAs(hl:l.length<=3000)(n:Nat)(k:Int){i:Nat}{ns:List Tk}(h:bG l i≠0)(hn:ns.length<=i):AS l i ns.length (M.qW k true (ay l) (i:Int) false (ay ns)) (Zq l n k i (txt ns)):=by
 have hlt:=eP h;simp only[M.qW,M.LC,M.jH,M.tY,bg,aJ,iy,aj,fM hl rfl h,zaT,aX,aoh,Zq];cases Ip (bG l (i+1)) with
 |true=>exact AS.mk (OX k [])
 |false=>simp only[aX];exact auk hl [] (at1 hl n false false (i:=i+1) (ns:=ns) aC aC) aC (by simp only[sizes];omega) (by simp[sizes]) (aEz hl aC aC aC)
def asX(hl:l.length<=3000)(k:Int){i:Nat}{ns:List Tk}(h:bG l i≠0)(n0:Nat):AS l i n0 (M.qW k false (ay l) (i:Int) false (ay ns)) (.ok (.mk k 0 [] [] []) (i+1) (txt ns)):=by simp only[M.qW,M.LC,bg,aJ,iy,aj,fM hl rfl h,Bool.not_false];exact AS.mk (OX k [])
def aDn(hl:l.length<=3000){n i:Nat}{nt:gW}{e:Int}(hi:i<=l.length):(aif l n e i nt).sat λL _ _=>sizes L<=9000:=by
 rw[aif,eU];refine bK (adS (l:=l) hi) λL j m hL=> ?_
 rw[eU,yY];intro _;show sizes L<=9000;omega
def aRt(hl:l.length<=3000)(n:Nat){i:Nat}{ns:List Tk}(h:bG l i=23)(hn:ns.length<=i):AS l i ns.length (M.Ag (ay l) (i:Int) false (ay ns)) (akG l n i (txt ns)):=by
 have hlt:i<l.length:=eP (by rw[h];decide);simp only[M.Ag,M.MW,bg,aJ,fM hl h (by decide),aj,akG];rw[nameP];cases h6:bG l (i+1)==6 with
 |false=>
  simp only[wS h6,bg,aJ,iy,aj,bne,aX,lN,aG1];cases bG l (i+1)==34 with
  |false=>simp only[Bool.not_false,aJ];exact AS.fO (R:=(Tn.mk 27 0 [] [] []).flat 0) aC aC aC (OX 27 []) (by rw[Tn.flat_length,Xf];omega) (Yp _ (by rw[Xf];omega))
  |true=>obtain⟨R',_,e1,e2,e3⟩:=acp 27 0 [] [] [] (b:=0) (by simp[lens]) aC (by simp) KB.nil;have e1':M.bU 27 0 [] [] [] (au [])=some (aU true R'):=e1;simp only[zaT,aX,e1',aj,bg,aJ,aV];exact AS.fO aC aC aC (aV _ _) aC e3
 |true=>
  have aG0:=dI h6 (by decide);have e6:bG l (i+1)=6:=by rwa [beq_iff_eq] at h6
  simp only[fM hl e6 (by decide),bg,aJ,iy,aj,bne,PR.bind];cases hc:bG l (i+1+1)==34 with
  |false=>simp only[Bool.not_false,aJ,aX];exact AS.mk (OX 27 _)
  |true=>
   have hlt':=dI hc (by decide);have e34:bG l (i+1+1)=34:=by rwa [beq_iff_eq] at hc
   simp only[zaT,aX,aJ,fM hl e34 (by decide),aj,bg];have e:(PK l n false false [] (i+1+1+1) (txt ns)).bind (λL j nt=>(jD l 35 j nt).bind λ_ j nt=>PR.ok (Tn.mk 27 0 (CG l (i+1)) [] L) j nt)=
     (aif l n 35 (i+1+1+1) (txt ns)).bind λL j nt=> .ok (Tn.mk 27 0 (CG l (i+1)) [] L) j nt:=by
    rw[aif];cases PK l n false false [] (i+1+1+1) (txt ns) with
    |ok L j m=>simp only[PR.bind];cases jD l 35 j m<;>rfl
    |bad j=>rfl
    |out=>rfl
   show AS l i ns.length _ ((PK l n false false [] (i+1+1+1) (txt ns)).bind (λL j nt=>(jD l 35 j nt).bind λ_ j nt=>PR.ok (Tn.mk 27 0 (CG l (i+1)) [] L) j nt));rw[e];refine AY.elim (Q:=AS l i ns.length) (aRs hl n (i:=i+1+1+1) (ns:=ns) aC aC) (λ_=>trivial) (λfl j ns' P g1 g2 g3 g4 g5 g6=> ?_) (λL fl j ns' he=> ?_)
   ·obtain⟨R',_,e1,e2,e3⟩:=acp 27 0 (CG l (i+1)) [] P (b:=3 * (j - (i+1+1+1))) g4 aC aC g6;simp only[Df,e1,aj,bg,aJ,aV];exact AS.fO aC g2 g3 (aV _ _) aC e3
   ·have hs:sizes L<=9000:=iM (aDn hl aC) he;have hmk:=EI 27 0 (CG l (i+1)) [] [] L aC;simp only[NV,hmk,aj,bg,aJ,aV];exact AS.mk (aV _ _)
def aeP(l:List Tk):Prop:=∀i,zQ (bG l i)=true->M.sQ (bG l i)=some (CG l i)
noncomputable def prT(op:Int)(c:ak)(c1:Int)(c2:Bool)(rows:ak)(c3:ak):Option TY:=
 (bif ah c3 then
 ((M.aN c c1 c2 c3).bind λJg=>
 (bif !Jg.2.2.2.1 then
 ((M.ng Jg.1).bind λaFI=>
 (bif aFI then
 (bif ah Jg.2.2.2.2 then
 ((M.aI Jg.1 Jg.2.1 Jg.2.2.1 Jg.2.2.2.1 Jg.2.2.2.2).bind λakd=>
 ((M.sQ Jg.1).bind λaFJ=>
 (bif ah akd.2.2.2.2.2.2 then
 ((M.fB 9 false false false false akd.2.2.2.1 akd.2.2.2.2.1 akd.2.2.2.2.2.1 akd.2.2.2.2.2.2).bind λaal=>
 (bif((rows.length+[[D.sl false 5 (au aal.2.1)]].length) * 24).ble 140737488355328 then
 (bif(rows.length+[[D.sl false 5 (au aal.2.1)]].length).ble 140737488355328 then
 ((M.bU 21 op [] aFJ [] (au (rows++[[D.sl false 5 (au aal.2.1)]]))).bind λaFK=>
 (bif ah aal.2.2.2.2.2.2 then
 (some ((false,au aFK,aal.2.2.2.1,aal.2.2.2.2.1,aal.2.2.2.2.2.1,aal.2.2.2.2.2.2))) else none)) else none) else none)) else none))) else none) else
 ((M.bU 21 op [] [] [] (au rows)).bind λaFL=>
 (bif ah Jg.2.2.2.2 then
 (some ((false,au aFL,Jg.2.1,Jg.2.2.1,Jg.2.2.2.1,Jg.2.2.2.2))) else none)))) else
 ((M.bU 21 op [] [] [] (au rows)).bind λaFM=>
 (bif ah Jg.2.2.2.2 then
 (some ((false,au aFM,Jg.2.1,Jg.2.2.1,Jg.2.2.2.1,Jg.2.2.2.2))) else none)))) else none)
def aAt(hl:l.length<=3000)(hx:aeP l)(n:Nat)(op:Int){i n0:Nat}{L:List Tn}{j:Nat}{ns:List Tk}(hij:i<j)(hj:j<=l.length)(hn:ns.length<=j)(hL:sizes L+2 * i<=2 * j)(h6:L.length<=6):
  AS l i n0 (prT op (ay l) (j:Int) false (parts L) (ay ns)) (bif zQ (bG l j) then(ex l n 9 false false (j+1) (txt ns)).bind λx k nt=> .ok (.mk 21 op [] (CG l j) (L++[x.1])) k nt else .ok (.mk 21 op [] [] L) j (txt ns)):=by
 simp only[prT,bg,aJ,iy,aj,Bool.not_false,aoi];cases hs:zQ (bG l j) with
 |false=>simp only[aX,NV,EI 21 op [] [] [] L aC,aj,aV];exact AS.mk (aV _ _)
 |true=>
  have hlt:=eP (abJ hs);simp only[aJ,fM hl rfl (abJ hs),aj,hx j hs,bg];refine AX.elim (Q:=AS l i n0) (at9 hl n false false (i:=j+1) (ns:=ns) aC aC) (λ_=>trivial) (λfl rows hd j2 ns' R g1 g2 g3 g4 g5=> ?_) (λx fl rows j2 ns' h1 he=> ?_)
  ·have g51:=g5.1;obtain⟨R',_,e1,e2,e3⟩:=acp 21 op [] (CG l j) ((L.map λt=>t.flat 0)++[R]) (b:=sizes L+R.length) (by rw[yZ,pq,lens,lens];omega) aC (by rw[DJ,zaV,Bd];omega) (KB.trees L aC (KB.cons g5.2 KB.nil));simp only[rD,Bd];rw[bC aC,aJ,bC aC,aJ];simp only[PL g4,Df,e1,aj,bg,aJ,aV];exact AS.fO aC g2 g3 (aV _ _) aC e3
  ·have hs2:=iM (IV aC aC aC) he;simp only[zaV] at hs2;simp only[rD,Bd];rw[bC aC,aJ,bC aC,aJ];simp only[JD h1,NV,EI 21 op [] (CG l j) [] (L++[x.1]) (by rw[sizes1];omega),aj,bg,aJ,aV];exact AS.mk (aV _ _)
def aun(hl:l.length<=3000)(op:Int){i n0:Nat}{P:List (List Nd)}{j:Nat}{ns:List Tk}(g1:i<=j)(g2:j<=l.length)(g3:ns.length<=l.length)(g4:lens P<=3 * (j - i))(g5:P.length<=8)(g6:KB P):
  AS l i n0 (prT op (ay l) (j:Int) true (uy P) (ay ns)) (.bad j):=by
 obtain⟨R',_,e1,e2,e3⟩:=acp 21 op [] [] P (b:=3 * (j - i)) g4 aC aC g6;simp only[prT,bg,aJ,iy,aj,zaT,aX,Df,e1,aV];exact AS.fO aC g2 g3 (aV _ _) aC e3
abbrev S5:=ak×Int×Bool×ak×ak
def AJ(l:List Tk)(i:Nat)(o:Option (S5⊕S5)):PR (List Tn)->Prop
 | .ok L j nt=>∃ns,txt ns=nt/\o=some (.inl (ay l,(j:Int),false,parts L,ay ns))
 | .bad j=>∃ns P u,i<=j/\j<=l.length/\ns.length<=l.length/\lens P<=3 * (j - i)/\P.length<=8/\KB P/\o=some u/\(u=.inl (ay l,(j:Int),true,uy P,ay ns)\/u=.inr (ay l,(j:Int),true,uy P,ay ns))
 | .out=>True
def aAu(hl:l.length<=3000)(op:Int)(hop:op=1\/op=0):
  ∀(n i0:Nat) (L:List Tn) (i:Nat) (ns:List Tk),(op=1\/0<L.length\/Ip (bG l i)=false/\zQ (bG l i)=false)->
    L.length<6->i0<=i->i<=l.length->ns.length<=i->sizes L+2 * i0<=2 * i->AJ l i0 (M.zu 21 op [] [] (ay l,(i:Int),false,parts L,ay ns)) (PK l n false true L i (txt ns))
 |0,_,_,_,_,_,_,_,_,_,_=>by rw[PK];trivial
 |n+1,i0,L,i,ns,hc0,hL,hi0,hi,hn,hsz=>by
  rw[PK,M.zu];have hb:M.vU 21 op [] [] (ay l,(i:Int),false,parts L,ay ns)=(M.fB 1 false false true false (ay l) (i:Int) false (ay ns)).bind λNP=>
    (bif(((parts L).length+[[D.sl false 5 (au NP.2.1)]].length) * 24).ble 140737488355328 then
     (bif((parts L).length+[[D.sl false 5 (au NP.2.1)]].length).ble 140737488355328 then
     (bif ah NP.2.2.2.2.2.2 then
      ((M.aN NP.2.2.2.1 NP.2.2.2.2.1 NP.2.2.2.2.2.1 NP.2.2.2.2.2.2).bind λxR=>
      (bif xR.1 !=36 then
       (some (.inr (.inl ((xR.2.1,xR.2.2.1,xR.2.2.2.1,parts L++[[D.sl false 5 (au NP.2.1)]],xR.2.2.2.2))))) else
       (bif((parts L++[[D.sl false 5 (au NP.2.1)]]).length:Int)==6 then
       (bif ah xR.2.2.2.2 then
        ((M.aI 36 xR.2.1 xR.2.2.1 true xR.2.2.2.2).bind λVR=>
        (bif ah VR.2.2.2.2.2.2 then
         ((M.bZ VR.2.2.2.1 VR.2.2.2.2.1 VR.2.2.2.2.2.1 VR.2.2.2.2.2.2).bind λYM=>
         (some (.inl ((YM.1,YM.2.1,YM.2.2.1,parts L++[[D.sl false 5 (au NP.2.1)]],YM.2.2.2))))) else none)) else none) else
       (bif ah xR.2.2.2.2 then
        ((M.aI 36 xR.2.1 xR.2.2.1 xR.2.2.2.1 xR.2.2.2.2).bind λVT=>
        (bif ah VT.2.2.2.2.2.2 then
         ((M.bZ VT.2.2.2.1 VT.2.2.2.2.1 VT.2.2.2.2.2.1 VT.2.2.2.2.2.2).bind λYN=>
         (some (.inl ((YN.1,YN.2.1,YN.2.2.1,parts L++[[D.sl false 5 (au NP.2.1)]],YN.2.2.2))))) else none)) else none)))) else none) else none) else none):=by
   by_cases h1:op=1
   ·subst h1;simp only[M.vU,M.vT,M.qM,Bool.not_false,aJ,bg,aj,BEq.rfl]
   ·have h0:op=0:=aC;subst h0;have w:((0:Int)==1)=false:=rfl
    by_cases hL0:0<L.length
    ·have hd:decide (((parts L).length:Int)>0)=true:=by rw[zdt];rw[rD];omega
     simp only[M.vU,M.vT,M.qM,Bool.not_false,aJ,aX,bg,aj,w,hd]
    ·have hd:decide (((parts L).length:Int)>0)=false:=by rw[Ac];rw[rD];omega
     have hes:Ip (bG l i)=false/\zQ (bG l i)=false:=by
      rcases hc0 with h|h|h
      ·exact absurd h h1
      ·exact absurd h hL0
      ·exact h
     simp only[M.vU,M.vT,M.qM,Bool.not_false,aJ,aX,bg,aj,w,hd,iy,aoh,hes.1,aoi,hes.2]
  have hr:=at1 hl n false true hi hn;have CJ:=(sats l n).ex 1 false true i (txt ns) aC aC hi;generalize ex l n 1 false true i (txt ns)=p at hr CJ|-;cases p with
  |out=>trivial
  |bad j=>
   obtain⟨fl,rows,hd,ns',R,g1,g2,g3,g4,g5,h2⟩:=hr;have hP:lens ((L.map λt=>t.flat 0)++[R])<=3 * (j - i0):=by rw[yZ,pq,lens,lens];have:=g5.1;omega
   have hKB:KB ((L.map λt=>t.flat 0)++[R]):=KB.trees L aC (KB.cons g5.2 KB.nil);have hlen:((L.map λt=>t.flat 0)++[R]).length<=8:=by rw[DJ,zaV,Bd];omega
   rw[h2,aj] at hb;simp only[PL g4,rD,Bd,bg,aJ,iy,aj,bne,lN,Md] at hb;rw[bC aC,aJ,bC aC,aJ] at hb;simp only[PR.bind];cases hc:bG l j==36 with
   |false=>simp only[hc,Bool.not_false,aJ] at hb;exact⟨ns',_,_,aC,g2,g3,hP,hlen,hKB,aO hb,.inl rfl⟩
   |true=>simp only[hc,zaT,aX,Bool.cond_self] at hb;rw[aZ hb];exact⟨ns',_,_,aC,g2,g3,hP,hlen,hKB,aO rfl,.inr rfl⟩
  |ok x j m=>
   obtain⟨fl,rows,ns',h1,rfl,h2⟩:=hr;have hs':FE l i (txt ns).length x.1.size j (txt ns').length:=CJ;simp only[zaV] at hs';rw[h2,aj] at hb;simp only[JD h1,rD,Bd,DJ,bg,aJ,iy,aj,bne] at hb;rw[bC aC,aJ,bC aC,aJ] at hb;simp only[PR.bind];cases hc:bG l j==36 with
   |false=>simp only[hc,Bool.not_false,aJ] at hb;rw[aO hb];exact⟨ns',rfl,rfl⟩
   |true=>
    have hlt:=dI hc (by decide);have e36:bG l j=36:=by rwa [beq_iff_eq] at hc
    simp only[hc,zaT,aX] at hb;simp only[aJ];cases h6:Nat.beq (L.length+1) 6 with
    |true=>
     have e:=MB h6;have e':(((L.length+1:Nat):Int)==6)=true:=by rw[e];rfl
     simp only[e',aJ,lN,Md,aj,bg] at hb;rw[aZ hb];refine⟨ns',(L++[x.1]).map λt=>t.flat 0,.inr _,aC,aC,aC, ?_, ?_, ?_,aO rfl,.inr (by rw[yC])⟩
     ·rw[pq,sizes1];omega
     ·rw[zaV,DJ,Bd];omega
     ·have:=KB.trees (P:=[]) (L++[x.1]) (by rw[sizes1];omega) KB.nil
      rwa [List.append_nil] at this
    |false=>
     have hne:L.length+1≠6:=Nat.ne_of_beq_eq_false h6;have e':(((L.length+1:Nat):Int)==6)=false:=by rw[Y6];omega
     obtain⟨NG,t2,hln⟩:=KU hl (j+1) ns' aC aC;have hf:=EC (l:=l) (i:=j+1) (nt:=txt ns') aC;simp only[e',aX,fM hl e36 (by decide),aj,bg,aJ,hln] at hb;rw[aZ hb,aX,<-t2];rw[<-t2] at hf;simp only[zaV] at hf;exact aAu hl op hop n i0 (L++[x.1]) _ NG (.inr (.inl (by rw[DJ,Bd];omega))) (by rw[DJ,Bd];omega) aC aC aC (by rw[sizes1];omega)
def aAv(hl:l.length<=3000)(hx:aeP l)(n:Nat)(op:Int){i:Nat}{ns:List Tk}(hi:i<l.length)(hn:ns.length<=i){o:Option (S5⊕S5)}(h:AJ l (i+1) o (PK l n false true [] (i+1) (txt ns))):
  AS l i ns.length (o.bind λu=>jg u (λt=>prT op t.1 t.2.1 t.2.2.1 t.2.2.2.1 t.2.2.2.2) λu=>letE u λt=>prT op t.1 t.2.1 t.2.2.1 t.2.2.2.1 t.2.2.2.2)
   ((PK l n false true [] (i+1) (txt ns)).bind λL j nt=>bif zQ (bG l j) then(ex l n 9 false false (j+1) nt).bind λx k nt=> .ok (.mk 21 op [] (CG l j) (L++[x.1])) k nt else .ok (.mk 21 op [] [] L) j nt):=by
 have CJ:=adS (l:=l) (n:=n) (a:=false) (b:=true) (i:=i+1) (nt:=txt ns) aC;have hsh:=abK (l:=l) (a:=false) (b:=true) n [] (i+1) (txt ns) (by decide);generalize PK l n false true [] (i+1) (txt ns)=p at h CJ hsh|-;cases p with
 |out=>trivial
 |bad j=>
  obtain⟨ns',P,u,g1,g2,g3,g4,g5,g6,rfl,rfl|rfl⟩:=h
  ·exact aun hl op aC g2 g3 aC g5 g6
  ·exact aun hl op aC g2 g3 aC g5 g6
 |ok L j m=>obtain⟨ns',rfl,rfl⟩:=h;have hs':FE l (i+1) (txt ns).length (sizes L) j (txt ns').length:=CJ;have h6:L.length<=6:=hsh;simp only[zaV] at hs';exact aAt hl hx n op aC aC aC aC h6
def aEA(hl:l.length<=3000)(hx:aeP l)(n:Nat){i:Nat}{ns:List Tk}(hk:bG l i=25\/bG l i=26)(hn:ns.length<=i):AS l i ns.length (M.xq (ay l) (i:Int) false (ay ns)) (afO l n i (txt ns)):=by
 have hlt:i<l.length:=eP (by rcases hk with h|h<;>rw[h]<;>decide);have hk0:bG l i≠0:=by rcases hk with h|h<;>rw[h]<;>decide
 rcases hk with h|h
 ·have w2:((25:Int)==26)=false:=rfl;have w3:(25:Int) - 25=0:=rfl;have wk:(bG l i==26)=false:=by rw[h];rfl
  simp only[M.xq,M.JU,M.H8,M.H9,bg,aJ,iy,aj,h,fM hl h (by decide),w2,aX,afO,w3,Bool.false_or]
  by_cases hes:Ip (bG l (i+1))=false/\zQ (bG l (i+1))=false
  ·rw[hes.1,hes.2];simp only[Bool.or_self,Bool.not_false,aJ];exact aAv hl hx n 0 hlt hn (aAu hl 0 (.inr rfl) n (i+1) [] (i+1) ns (.inr (.inr hes)) (by decide) (zaU _) aC aC (by rw[sizes0];omega))
  ·have hor:(Ip (bG l (i+1))||zQ (bG l (i+1)))=true:=by
    cases h1:Ip (bG l (i+1)) with
    |true=>rfl
    |false=>
     cases h2:zQ (bG l (i+1)) with
     |true=>rfl
     |false=>exact absurd ⟨h1,h2⟩ hes
   rw[hor];have hb:M.vU 21 0 [] [] (ay l,((i+1:Nat):Int),false,[],ay ns)=some (.inr (.inr (ay l,((i+1:Nat):Int),false,[],ay ns))):=by
    have w:((0:Int)==1)=false:=rfl;have hd:decide (((([]:ak).length:Nat):Int)>0)=false:=rfl;simp only[M.vU,M.vT,M.qM,Bool.not_false,aJ,aX,bg,aj,w,hd,iy,aoh,aoi];cases h1:Ip (bG l (i+1)) with
    |true=>rfl
    |false=>rw[h1,Bool.false_or] at hor;simp only[Bool.not_false,aJ,hor,zaT,aX]
   rw[M.zu,aO hb];simp only[zaT,aX,aj,jg,letE,PR.bind];exact aAt hl hx n 0 (L:=[]) aC aC aC (by rw[sizes0];omega) (by decide)
 ·have w3:(26:Int) - 25=1:=rfl;have wk:(bG l i==26)=true:=by rw[h];rfl
  simp only[M.xq,M.JU,M.H8,M.H9,bg,aJ,iy,aj,h,fM hl h (by decide),afO,w3,BEq.rfl,Bool.true_or];exact aAv hl hx n 1 hlt hn (aAu hl 1 (.inl rfl) n (i+1) [] (i+1) ns (.inl rfl) (by decide) (zaU _) aC aC (by rw[sizes0];omega))
end Go.Proofs.YtoaeipkhadpbiaaGreatDoor
