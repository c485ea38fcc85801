import Derived.Test.YtbpldgeajbfgnaaGreatDoorXSpec3
import Derived.Test.YtbpldgeajbfgnaaGreatDoorXDsz2
import Derived.Shelf.Strings.Builder1
import Derived.Shelf.Strings.Builder2
import Derived.Shelf.Strings.OnBuilder
import Derived.Shelf.Strings.BuilderF
import Derived.Shelf.Utf8.RuneCount
import Derived.Shelf.Strings.Search1
import Derived.Shelf.Strings.Search2
import Derived.Shelf.Strings.Search3
import Derived.Shelf.Strings.Count
import Derived.Shelf.LaysM
import Derived.Shelf.Strings.Shaped
import Derived.Shelf.Strings.Prefix
import Derived.Shelf.Strings.Split
import Derived.Shelf.Strings.SplitShaped
import Derived.Shelf.Unicode.Decode
import Derived.Shelf.Strings.RuneCount
import Derived.Shelf.Strings.Explode
import Derived.Shelf.Bits.Mul64
import Derived.Shelf.Strings.Repeat
import Derived.Shelf.Unicode.DecodeSlow
import Derived.Shelf.Unicode.DecodeAny
import Derived.Test.YtbpldgeajbfgnaaGreatDoorProg
import Derived.Test.YtbpldgeajbfgnaaGreatDoorPForms
import Derived.Test.YtbpldgeajbfgnaaGreatDoorVm4
import Derived.Test.YtbpldgeajbfgnaaGreatDoorZFields
import Derived.Test.YtbpldgeajbfgnaaGreatDoorRows
set_option linter.defProp false
namespace Go.Proofs.YtbpldgeajbfgnaaGreatDoor
set_option linter.unusedVariables false
set_option linter.unusedSimpArgs false
open Go Go.Vm
open Go.IntKind (i64)
def aaw{k op:Int}{ks:List Tn}{p:Ps}(hp:l9 p=true)(h:(lvl k op=15)∨(k=13∧Nat.blt 1 ks.length=true∧lvl k op≠0))(ht:∀j,oG k j=false):jF k op ks.length p ks 0=ES ks:=by
 refine acS ht (λj hj=> ?_) ks 0 (by omega);rcases h with h|⟨h1,h2,h3⟩
 ·exact EP hp hj h
 ·have hb:Nat.blt j ks.length=true:=by rw[Nat.blt_eq];exact hj
  have h4:(lvl k op==0)=false:=by simpa using h3
  subst h1;unfold eP;rw[hp,hb,h4,h2];simp
def aax(k:Int)(x:aC):([[D.int .i64 k,D.str x,D.int .i64 0]]:au)=kY [⟨k,x,0⟩]:=rfl
def aja(x:aC):([[D.int .i64 24,D.str (spell 24),D.int .i64 0],[D.int .i64 6,D.str x,D.int .i64 0]]:au)=kY [tok 24,⟨6,x,0⟩]:=rfl
set_option maxHeartbeats 2000000 in
def amA(t:Tn):CJ t->Rw t->t.size<=1048576->PS t:=by
 refine Tn.ind (P:=λt=>CJ t->Rw t->t.size<=1048576->PS t) ?_ t;intro k op x y ks ih hok he hsz;intro o f p l b hl h hf hp;have aXX:=h;simp only[Rw,Tn.kind] at he;have hc:=KZ hok;have hsz':sizes ks+1=(Tn.mk k op x y ks).size:=by rw[Tn.size]
 have ih':∀u,u∈ks->PS u:=by intro u hu;obtain⟨i,hi⟩:=List.mem_iff_getElem?.1 hu;obtain⟨h1,h2⟩:=Xo hok he hi;have:=iW hu;exact ih u hu h2 h1 (by omega)
 have hat:At l b ks:=λj u hj=>Lies.QW h hj
 obtain⟨g,rfl⟩:∃g,f=g+1:=⟨f - 1,by omega⟩
 have hr:idx (dF o l) ((b+sizes ks:Nat):Int)=some (MN o ⟨k,op,x,y,ends ks b⟩):=by have hr0:l[b+sizes ks]? =some ⟨k,op,x,y,ends ks b⟩:=Lies.root' h;rw[fQ,nN,hr0];rfl
 have hkl:=lW ks;have tgt:∀{u:Tn},ks[0]? =some u->cls k op ks.length 0=6->CJ u∧Rw u∧13<=lvl u.kind u.op:=by intro u hu hcls;obtain⟨h1,h2⟩:=Xo hok he hu;obtain⟨h3,_⟩:=IV hok hu;rw[hcls] at h3;exact⟨h2,h1,(afO h3).1⟩
 rw[M.abA,Tn.kids];have hk:k=1∨k=2∨k=3∨k=4∨k=5∨k=7∨k=8∨k=6∨k=9∨k=10∨k=11∨k=13∨k=15∨k=12∨k=14:=by omega
 rw[tX];rcases hk with rfl|rfl|rfl|rfl|rfl|rfl|rfl|rfl|rfl|rfl|rfl|rfl|rfl|rfl|rfl
 ·simp only[jY,M.gQ,hr,ah,Gf,G7,GL,G8,Ef,M.dN,M.dG,Int.reduceBEq,Int.reduceBNe,cO,dO,aax];rfl
 ·simp only[jY,M.gQ,hr,ah,Gf,G7,GL,G8,Ef,M.dN,M.dG,Int.reduceBEq,Int.reduceBNe,cO,dO,aax];rfl
 ·simp only[jY,M.gQ,hr,ah,Gf,G7,GL,G8,Ef,M.dN,M.dG,Int.reduceBEq,Int.reduceBNe,cO,dO,aax];rfl
 ·simp only[jY,M.gQ,hr,ah,Gf,G7,GL,G8,Ef,M.dN,M.dG,Int.reduceBEq,Int.reduceBNe,cO,dO,aax];rfl
 ·have a1:=afW ih' (o:=o) (f:=g) (b:=b) hl hat (by omega) (by omega) 6 x 34 (.inr rfl);rw[aaw hp (.inl rfl) (λj=>by simp[oG])];simp only[jY,M.gQ,hr,ah,Gf,G7,GL,G8,Ef,M.dN,M.dG,Int.reduceBEq,Int.reduceBNe,cO,dO,a1,dU];rfl
 ·have a1:=afW ih' (o:=o) (f:=g) (b:=b) hl hat (by omega) (by omega) 7 x 32 (.inl rfl);rw[aaw hp (.inl rfl) (λj=>by simp[oG])];simp only[jY,M.gQ,hr,ah,Gf,G7,GL,G8,Ef,M.dN,M.dG,Int.reduceBEq,Int.reduceBNe,cO,dO,a1,dU];rfl
 ·have a1:=afW ih' (o:=o) (f:=g) (b:=b) hl hat (by omega) (by omega) 8 x 32 (.inl rfl);rw[aaw hp (.inl rfl) (λj=>by simp[oG])];simp only[jY,M.gQ,hr,ah,Gf,G7,GL,G8,Ef,M.dN,M.dG,Int.reduceBEq,Int.reduceBNe,cO,dO,a1,dU];rfl
 ·obtain⟨u,rfl⟩:=Xx.1 (hc.one (by omega));have hs1:=Zj u;have e1:=(lH 68 (by constructor<;>decide)).2;obtain⟨⟨a1,a2,a3⟩,a4⟩:=UW ih' (o:=o) (f:=g) (b:=b) (k:=6) (op:=op) (x:=x) (y:=y) (p:=p) (j:=0) (u:=u) (by omega) hc hp hl hat (by omega) (by omega) rfl (TJ 6 (by omega) 0);rw[qP] at a1 a2;rw[Ns];generalize (eP 6 op [u].length 0 p).zo=q0 at a2 a3;generalize su 6 op [u].length p 0 u=K0 at a3 a4⊢;simp(disch:=omega) only[jY,M.gQ,hr,ah,Gf,G7,GL,G8,Ef,M.dN,M.dG,Int.reduceBEq,Int.reduceBNe,cO,dO,a1,a2,a3,e1,KG,uS,<-lT,iJ,uq,OJ,mZ,xq,room,Kz,dU];simp[Ee,yN]
 ·obtain⟨u,rfl⟩:=Xx.1 (hc.one (by omega));have hs1:=Zj u;have e1:=(lH op (by rcases hc.stp (by omega) with rfl|rfl<;>constructor<;>decide)).2;have a1:=kW (ks:=[u]) (b:=b) (j:=0) (u:=u) rfl;obtain⟨t1,t2,t3⟩:=tgt (u:=u) rfl (by simp[cls]);have a3:=acT (ih' u (by simp)) t1 t2 t3 (o:=o) (f:=g) (p:=eP 9 op [u].length 0 p) hl (hat 0 u rfl) (by rw[Zj] at hsz';omega) (tY hp (by simp) (by simp[lvl]));have a4:=oQ u (eP 9 op [u].length 0 p);rw[Zj] at hsz';rw[qP] at a1;rw[Ns,su,show oG 9 0=true from rfl,Bool.true_or,cO];generalize tX u (eP 9 op [u].length 0 p)=K0 at a3 a4⊢;simp(disch:=omega) only[jY,M.gQ,hr,ah,Gf,G7,GL,G8,Ef,M.dN,M.dG,Int.reduceBEq,Int.reduceBNe,cO,dO,a1,a3,e1,KG,uS,<-lT,iJ,uq,OJ,mZ,xq,room,Kz,dU];simp[Ee,yN]
 ·obtain⟨u,rfl⟩:=Xx.1 (hc.one (by omega));have hs1:=Zj u;have e1:=(lH op (by rcases hc.stp (by omega) with rfl|rfl<;>constructor<;>decide)).2;have a1:=kW (ks:=[u]) (b:=b) (j:=0) (u:=u) rfl;obtain⟨t1,t2,t3⟩:=tgt (u:=u) rfl (by simp[cls]);have a3:=acT (ih' u (by simp)) t1 t2 t3 (o:=o) (f:=g) (p:=eP 10 op [u].length 0 p) hl (hat 0 u rfl) (by rw[Zj] at hsz';omega) (tY hp (by simp) (by simp[lvl]));have a4:=oQ u (eP 10 op [u].length 0 p);rw[Zj] at hsz';rw[qP] at a1;rw[Ns,su,show oG 10 0=true from rfl,Bool.true_or,cO];generalize tX u (eP 10 op [u].length 0 p)=K0 at a3 a4⊢;simp(disch:=omega) only[jY,M.gQ,hr,ah,Gf,G7,GL,G8,Ef,M.dN,M.dG,Int.reduceBEq,Int.reduceBNe,cO,dO,a1,a3,e1,KG,uS,<-lT,iJ,uq,OJ,mZ,xq,room,Kz,dU];simp[Ee,yN]
 ·obtain⟨u,rfl⟩:=Xx.1 (hc.one (by omega));have hs1:=Zj u;have e1:=(lH op (by rcases hc.una (by omega) with rfl|rfl|rfl<;>constructor<;>decide)).2;obtain⟨⟨a1,a2,a3⟩,a4⟩:=UW ih' (o:=o) (f:=g) (b:=b) (k:=11) (op:=op) (x:=x) (y:=y) (p:=p) (j:=0) (u:=u) (by omega) hc hp hl hat (by omega) (by omega) rfl (TJ 11 (by omega) 0);rw[qP] at a1 a2;rw[Ns];generalize (eP 11 op [u].length 0 p).zo=q0 at a2 a3;generalize su 11 op [u].length p 0 u=K0 at a3 a4⊢;simp(disch:=omega) only[jY,M.gQ,hr,ah,Gf,G7,GL,G8,Ef,M.dN,M.dG,Int.reduceBEq,Int.reduceBNe,cO,dO,a1,a2,a3,e1,KG,uS,<-lT,iJ,uq,OJ,mZ,xq,room,Kz,dU];simp[Ee,yN]
 ·have e1:=(lH 24 (by constructor<;>decide)).2;have e2:=(lH 32 (by constructor<;>decide)).2;have e3:=(lH 33 (by constructor<;>decide)).2;obtain⟨u,hu⟩:∃u,ks[0]? =some u:=by have:=hc.some_ (by omega);exact⟨ks[0],by simp⟩
  obtain⟨⟨a1,a2,a3⟩,a4⟩:=UW ih' (o:=o) (f:=g) (b:=b) (k:=13) (op:=op) (x:=x) (y:=y) (p:=p) (j:=0) (u:=u) (by omega) hc hp hl hat (by omega) (by omega) hu (TJ 13 (by omega) 0);have hus:=iW (Au hu);rw[qP] at a1 a2;have hel:(encI (ends ks b)).length=ks.length:=by rw[dh,gu]
  cases hm:Nat.blt 1 ks.length with
  |true=>have b1:=aqh ih' (o:=o) (f:=g) (b:=b) hl hat (by omega) (by omega);have b2:=VY ks true;rw[aaw hp (.inr ⟨rfl,hm,by simp[lvl]⟩) (λj=>by simp[oG])];simp(disch:=omega) only[jY,M.gQ,hr,ah,Gf,G7,GL,G8,Ef,M.dN,M.dG,Int.reduceBEq,Int.reduceBNe,cO,dO,a1,a2,a3,b1,e1,e2,e3,KG,hel,many,hm,aja,uS 32,uS 33,<-lT,iJ,uq,OJ,mZ,xq,room,Kz,dU];simp[Ee,hm]
  |false=>
   have h1:ks.length=1:=by
    have h2:=hc.some_ (by omega);have h3:¬1<ks.length:=by rw[<-Nat.blt_eq,hm];simp
    omega
   obtain⟨u',rfl⟩:=Xx.1 h1;obtain rfl:u'=u:=by simpa using hu
   rw[Ns];generalize (eP 13 op [u'].length 0 p).zo=q0 at a2 a3;generalize su 13 op [u'].length p 0 u'=K0 at a3 a4⊢;simp(disch:=omega) only[jY,M.gQ,hr,ah,Gf,G7,GL,G8,Ef,M.dN,M.dG,Int.reduceBEq,Int.reduceBNe,cO,dO,a1,a2,a3,e1,e2,e3,KG,hel,many,hm,aja,<-lT,iJ,uq,OJ,mZ,xq,room,Kz,dU];simp[Ee,yN,show Nat.blt 1 1=false from rfl]
 ·obtain⟨u,v,rfl⟩:=IY (hc.two (by omega));have hsv:=sz2 u v;have e1:=(lH op (by rcases hc.asg rfl with rfl|h<;>constructor<;>omega)).2;have a1:=kW (ks:=[u,v]) (b:=b) (j:=0) (u:=u) rfl;obtain⟨t1,t2,t3⟩:=tgt (u:=u) rfl (by simp[cls]);have a3:=acT (ih' u (by simp)) t1 t2 t3 (o:=o) (f:=g) (p:=eP 15 op [u,v].length 0 p) hl (hat 0 u rfl) (by omega) (tY hp (by simp) (by simp[lvl]));have a4:=oQ u (eP 15 op [u,v].length 0 p);obtain⟨⟨b1,b2,b3⟩,b4⟩:=UW ih' (o:=o) (f:=g) (b:=b) (k:=15) (op:=op) (x:=x) (y:=y) (p:=p) (j:=1) (u:=v) (by omega) hc hp hl hat (by omega) (by omega) rfl rfl;rw[qP] at a1;rw[Q8] at b1 b2;have e98:(op==99)=false:=by rw[VZ];have:=hc.asg rfl;omega
  rw[TB]
  conv=>rhs;rw[su,show oG 15 0=true from rfl,Bool.true_or,cO]
  generalize tX u (eP 15 op [u,v].length 0 p)=K0 at a3 a4⊢;generalize (eP 15 op [u,v].length 1 p).zo=q1 at b2 b3;generalize su 15 op [u,v].length p 1 v=K1 at b3 b4⊢;simp(disch:=omega) only[jY,M.gQ,hr,ah,Gf,G7,GL,G8,Ef,M.dN,M.dG,Int.reduceBEq,Int.reduceBNe,cO,dO,a1,a3,b1,b2,b3,e1,KG,uS,<-lT,iJ,uq,OJ,mZ,xq,room,Kz,dU];simp[Ee,yN,e98]
 ·have a1:=aln ih' (o:=o) (f:=g) (b:=b) (k:=12) (op:=op) (x:=x) (y:=y) (p:=p) (.inl rfl) hc hp hl hat (by omega) (by omega);simp only[jY,M.gQ,hr,ah,Gf,G7,GL,G8,Ef,M.dN,M.dG,Int.reduceBEq,Int.reduceBNe,cO,dO,a1,dU]
 ·have a1:=aln ih' (o:=o) (f:=g) (b:=b) (k:=14) (op:=op) (x:=x) (y:=y) (p:=p) (.inr rfl) hc hp hl hat (by omega) (by omega);simp only[jY,M.gQ,hr,ah,Gf,G7,GL,G8,Ef,M.dN,M.dG,Int.reduceBEq,Int.reduceBNe,cO,dO,a1,dU]
def dE(t:Tn):au:=fD true (t.flat 0)
def TK(t:Tn):Row:=[D.sl true 4 (dE t)]
def jP(s:aC):M.aI s=some (dE (lI s)):=by simp[M.aI,M.JE,dE,lI,Tn.flat,lV,ends,fD,Uo,encI]
def akh:M.pU=some (dE Rj):=by simp[M.pU,M.JF,dE,Rj,Tn.flat,lV,ends,fD,Uo,encI]
def aki:M.og=some (dE OH):=by simp[M.og,M.JK,dE,OH,Tn.flat,lV,ends,fD,Uo,encI]
def mJ(t:Tn):[[D.sl true 4 (dE t)]].all dQ=true:=aeA _
def MF(L:List Tn):bM (L.map TK)=qx L:=by
 induction L with
 |nil=>rfl
 |cons t L ih=>
  have h1:sD (TK t)=[D.sl false 4 (fD false (t.flat 0))]:=by simp[TK,sD,D.fz,dE]
  rw[Ug,bM,ih,h1];rfl
section
variable (a b c d e f g h:Tn)
def fz1:bM [[D.sl true 4 (dE a)]]=qx [a]:=MF [a]
def fz2:bM [[D.sl true 4 (dE a)],[D.sl true 4 (dE b)]]=qx [a,b]:=MF [a,b]
def fz3:bM [[D.sl true 4 (dE a)],[D.sl true 4 (dE b)],[D.sl true 4 (dE c)]]=qx [a,b,c]:=MF [a,b,c]
def fz4:bM [[D.sl true 4 (dE a)],[D.sl true 4 (dE b)],[D.sl true 4 (dE c)],[D.sl true 4 (dE d)]]=qx [a,b,c,d]:=MF [a,b,c,d]
def fz5:bM [[D.sl true 4 (dE a)],[D.sl true 4 (dE b)],[D.sl true 4 (dE c)],[D.sl true 4 (dE d)],[D.sl true 4 (dE e)]]=qx [a,b,c,d,e]:=MF [a,b,c,d,e]
def fz8:bM [[D.sl true 4 (dE a)],[D.sl true 4 (dE b)],[D.sl true 4 (dE c)],[D.sl true 4 (dE d)],[D.sl true 4 (dE e)],[D.sl true 4 (dE f)],[D.sl true 4 (dE g)],[D.sl true 4 (dE h)]]=qx [a,b,c,d,e,f,g,h]:=MF [a,b,c,d,e,f,g,h]
end
def qQ(ts:List Tn)(h:sizes ts<=90000000):M.aS 6 0 (qx ts)=some (dE (nV ts)):=akb 6 0 ts h
def afX(t:Tn)(h:sizes [t]<=90000000):M.aS 4 4 (qx [t])=some (dE (UU t)):=akb 4 4 [t] h
def aqi(t:Tn)(h:sizes [t]<=90000000):M.aS 5 0 (qx [t])=some (dE (amn t)):=akb 5 0 [t] h
def ajb(p:Ps):∀ks:List Tn,sizes (V4 p ks)+3 * ks.length<=16 * sizes ks
 |[]=>by simp[V4,sizes]
 |t::ts=>by have h1:=mG t p;have h2:=ajb p ts;simp only[V4,Ug,sizes,mZ] at h2⊢;omega
def DS(t:Tn):Prop:=∀(o:Bool) (f:Nat) (p:Ps) (l:List Nd) (b:Nat),l.length<=1048576->Lies l b t->5 * t.size<=f->l9 p=true->
 M.zU f (dF o l) false ((b+sizes t.kids:Nat):Int) p.level p.lQ p.qp p.qw p.kU=some (dE (qL t p))
def OI{u:Tn}{o:Bool}{l:List Nd}{b:Nat}(h:Lies l b u):idx (dF o l) ((b+sizes u.kids:Nat):Int)=some (MN o ⟨u.kind,u.op,u.text,u.other,ends u.kids b⟩):=by rw[fQ,nN,Lies.root' h];rfl
def ax8{u:Tn}(hS:DS u){o:Bool}{f:Nat}{p:Ps}{l:List Nd}{b:Nat}(hl:l.length<=1048576)(h:Lies l b u)(hf:5 * u.size+1<=f)(hp:l9 p=true):
  M.qj f (dF o l) false ((b+sizes u.kids:Nat):Int) p.level p.lQ p.qp p.qw p.kU=some (dE (Ap u p)):=by
 obtain⟨g,rfl⟩:∃g,f=g+1:=⟨f - 1,by omega⟩
 have hlt:=h.lt;have h1:=hS o g p l b hl h (by omega) hp;have h2:=hS o g .top l b hl h (by omega) rfl;have hb:=IW u .top;simp only[Ps.top] at h2 hb;rw[M.afq];simp only[jY,M.Fq,OI h,ah,Gf,G7,GL,G8,Ef,(aar u.kind u.op u.text u.other _ p).2,Ap];cases fits u.kind u.op p with
 |true=>simp only[cO,h1,ah]
 |false=>
  have hs:sizes [lI [40],qL u ⟨1,false,false,false,false⟩,lI [41]]<=90000000:=by simp only[sizes,gV];omega
  simp only[dO,jP,zi.2,ah,h2,fz3,qQ _ hs,mJ,cO,Ps.top]
def akj{ks:List Tn}(ih:∀u,u∈ks->DS u){o:Bool}{f:Nat}{p:Ps}(hp:l9 p=true){l:List Nd}{b:Nat}(hl:l.length<=1048576)(hat:At l b ks)(hf:5 * sizes ks+2<=f)(hu:sizes ks<=1048575):
  M.vW f (dF o l) false (encI (ends ks b)) p.level p.lQ p.qp p.qw p.kU=some (dE (MQ p ks)):=by
 obtain⟨g,rfl⟩:∃g,f=g+1:=⟨f - 1,by omega⟩
 have hkl:=lW ks;have hpz:=ajb p ks;have hcz:=Yh (V4 p ks) true;rw[Xu] at hcz;have hloop:=iV (b:=M.DJ (M.qj g) (encI (ends ks b)) (dF o l) false p.level p.lQ p.qp p.qw p.kU) (t:=((ks.length:Int),(OL true (V4 p ks)).map TK)) (λj=>((j:Int),(OL true (V4 p (ks.take j))).map TK)) ks.length
  (by
   intro j hj;obtain⟨u,hu'⟩:∃u,ks[j]? =some u:=⟨ks[j],by simp[hj]⟩
   have hus:=iW (Au hu');have ha:=ax8 (ih u (Au hu')) (o:=o) (f:=g) (p:=p) hl (hat j u hu') (by omega) hp;have hi:=kW (b:=b) hu';have hcl:=acH (V4 p (ks.take j)) true;rw[Xu,PE] at hcl;have hw:i64.wrap ((j:Int)+1)=((j+1:Nat):Int):=by rw[aJ (by omega) (by omega)];omega
   have e:V4 p (ks.take (j+1))=V4 p (ks.take j)++[Ap u p]:=by rw[jo hu'];simp[V4]
   rw[e,Yn];simp only[jY,M.DJ,M.yc,dh,gu,jP,akh,hi,KG,ha,ah,uq,List.length_map,mZ,xq,hw];rw[zdt (by omega),cO]
   by_cases h0:j=0
   ·subst h0;rw[uw (by omega),dO,dP (by omega),cO,dP (by omega),cO];rfl
   ·have z:(V4 p (ks.take j)).isEmpty=false:=by
     cases hq:V4 p (ks.take j) with
     |nil=>have:=Xu p (ks.take j);rw[hq,xq,PE] at this;omega
     |cons _ _=>rfl
    rw[zdt (by omega),cO,dP (by omega),cO,dP (by omega),cO,dP (by omega),cO,dP (by omega),cO,z,Bool.false_and,dO,List.map_append,Gp];rfl)
  (by simp only[jY,M.DJ,M.yc,dh,gu];rw[uw (by omega),dO,List.take_length]) 0 (Nat.zero_le _)
 have zh:M.Hy (M.qj g) (encI (ends ks b)) (dF o l) false p.level p.lQ p.qp p.qw p.kU (0,[])=some ((ks.length:Int),(OL true (V4 p ks)).map TK):=hloop;have z1:sizes [nV (OL true (V4 p ks))]<=90000000:=by simp only[sizes,nM];omega
 have z2:sizes [UU (nV (OL true (V4 p ks)))]<=90000000:=by simp only[sizes,nM,Ql];omega
 rw[M.abC];simp only[M.zM,zh,ah,MF,qQ _ (show sizes (OL true (V4 p ks))<=90000000 by omega),mJ,cO,fz1,afX _ z1,aqi _ z2];rfl
def Xv{ks:List Tn}(ih:∀u,u∈ks->DS u){o:Bool}{f:Nat}{l:List Nd}{b:Nat}{k op:Int}{x y:aC}{p:Ps}{j:Nat}{u:Tn}(he:1<=k∧k<=15)(hc:Cnt k op y ks.length)(hp:l9 p=true)(hl:l.length<=1048576)(hat:At l b ks)(hf:5 * sizes ks+1<=f)(hu:sizes ks<=1048575)(hj:ks[j]? =some u)(ht:oG k j=false):
  (idx (encI (ends ks b)) (j:Int)=some [D.int .i64 ((b+sizes (ks.take j)+sizes u.kids:Nat):Int)]∧
   M.fH k op x y (encI (ends ks b)) (j:Int) p.level p.lQ p.qp p.qw p.kU=some (eP k op ks.length j p).zo∧
   M.qj f (dF o l) false ((b+sizes (ks.take j)+sizes u.kids:Nat):Int) (eP k op ks.length j p).zo.1 (eP k op ks.length j p).zo.2.1 (eP k op ks.length j p).zo.2.2.1 (eP k op ks.length j p).zo.2.2.2.1 (eP k op ks.length j p).zo.2.2.2.2=some (dE (Ku k op ks.length p j u)))∧(Ku k op ks.length p j u).size+3<=16 * u.size:=by
 have hkl:=lW ks;have hus:=iW (Au hj);have hjl:j<ks.length:=(MG.1 hj).1;have hen:(encI (ends ks b)).length=ks.length:=by rw[dh,gu]
 have hlv:lvl k op≠0:=by have:=Pg he hc;omega
 refine⟨⟨kW hj, ?_, ?_⟩,aez (IW u)⟩
 ·have h:=TI (x:=x) (r:=encI (ends ks b)) (j:=j) (p:=p) he (by rw[hen];exact hc) (by omega) (by omega);rw[hen] at h;exact h
 ·have h:=ax8 (ih u (Au hj)) (o:=o) (f:=f) (p:=eP k op ks.length j p) hl (hat j u hj) (by omega) (tY hp hjl hlv);rw[Ku,ht,Bool.false_or];exact h
def afY{ks:List Tn}(ih:∀u,u∈ks->DS u){o:Bool}{f:Nat}{l:List Nd}{b:Nat}(hl:l.length<=1048576)(hat:At l b ks)(hf:5 * sizes ks+3<=f)(hu:sizes ks<=1048575)(k op:Int)(x y:aC)(hx:x.length<=1048576)(c d:UInt8):
  M.CW f (dF o l) false k op x y (encI (ends ks b)) [c] [d]=some (dE (nV [lI (x++[c]),MQ .top ks,lI [d]])):=by
 obtain⟨g,rfl⟩:∃g,f=g+1:=⟨f - 1,by omega⟩
 have h1:=akj ih (o:=o) (f:=g) (p:=.top) rfl (b:=b) hl hat (by omega) hu;have h2:=IX .top ks;simp only[Ps.top] at h1 h2;have hs:sizes [lI (x++[c]),MQ ⟨1,false,false,false,false⟩ ks,lI [d]]<=90000000:=by simp only[sizes,gV];omega
 rw[M.ZC];simp(disch:=omega) only[M.wW,mZ,xq,yQ,cO,jP,zi.2,h1,ah,fz3,qQ _ hs,mJ,Ps.top]
def acU{u:Tn}(hS:DS u)(hok:CJ u)(he:Rw u)(hh:13<=lvl u.kind u.op){o:Bool}{f:Nat}{l:List Nd}{b:Nat}(hl:l.length<=1048576)(h:Lies l b u)(hf:5 * u.size+1<=f)(p:Ps)(hp:l9 p=true):
  M.zT f (dF o l) false ((b+sizes u.kids:Nat):Int)=some (dE (qL u p)):=by
 obtain⟨g,rfl⟩:∃g,f=g+1:=⟨f - 1,by omega⟩
 have h1:=hS o g ⟨14,false,false,false,false⟩ l b hl h (by omega) rfl;rw[akd u hok hh he _ p rfl hp] at h1;rw[M.X7];simp only[M.vH,h1,ah]
def aNg{ks:List Tn}(ih:∀u,u∈ks->DS u){o:Bool}{f:Nat}{l:List Nd}{b:Nat}{op:Int}{x y:aC}{p:Ps}(hc:Cnt 12 op y ks.length)(hp:l9 p=true)(hl:l.length<=1048576)(hat:At l b ks)(hf:5 * sizes ks+2<=f)(hu:sizes ks<=1048575)(gp:Bool):
  M.GN f (dF o l) false 12 op x y (encI (ends ks b)) p.level p.lQ p.qp p.qw p.kU=some (dE (VO 12 op ks.length x gp (rF 12 op ks.length p ks 0))):=by
 obtain⟨g,rfl⟩:∃g,f=g+1:=⟨f - 1,by omega⟩
 rw[M.ado];obtain⟨u,v,rfl⟩:=IY (hc.two (by omega));have hsz:=sz2 u v;have hI:=aau (hc.bin rfl).1;have hsl:=La op;obtain⟨⟨a1,a2,a3⟩,a4⟩:=Xv ih (o:=o) (f:=g) (b:=b) (k:=12) (op:=op) (x:=x) (y:=y) (p:=p) (j:=0) (u:=u) (by omega) hc hp hl hat (by omega) hu rfl (TJ 12 (by omega) 0);obtain⟨⟨b1,b2,b3⟩,b4⟩:=Xv ih (o:=o) (f:=g) (b:=b) (k:=12) (op:=op) (x:=x) (y:=y) (p:=p) (j:=1) (u:=v) (by omega) hc hp hl hat (by omega) hu rfl (TJ 12 (by omega) 1);rw[qP] at a1 a2;rw[Q8] at b1 b2;rw[afT];generalize (eP 12 op [u,v].length 0 p).zo=q0 at a2 a3;generalize Ku 12 op [u,v].length p 0 u=K0 at a3 a4⊢;generalize (eP 12 op [u,v].length 1 p).zo=q1 at b2 b3;generalize Ku 12 op [u,v].length p 1 v=K1 at b3 b4⊢
 by_cases h99:op=99
 ·subst h99;have hs:sizes [K0,lI [32],K1]<=90000000:=by simp only[sizes,gV];omega
  simp only[M.rY,a1,a2,a3,b1,b2,b3,KG,ah,Int.reduceBEq,cO,dO,jP,fz3,qQ _ hs,mJ];rfl
 ·have e1:(op==99)=false:=by simpa using h99
  have hs:sizes [K0,lI ([32]++spell op),Rj,K1]<=90000000:=by simp only[sizes,gV,Tj];omega
  have z1:sizes [nV [K0,lI ([32]++spell op),Rj,K1]]<=90000000:=by simp only[sizes,gV,Tj,nM];omega
  have z2:sizes [UU (nV [K0,lI ([32]++spell op),Rj,K1])]<=90000000:=by simp only[sizes,gV,Tj,nM,Ql];omega
  by_cases h45:op=45
  ·subst h45;simp(disch:=omega) only[M.rY,a1,a2,a3,b1,b2,b3,KG,ah,Int.reduceBEq,cO,dO,(mX 45 hI).1,jP,akh,fz4,fz1,qQ _ hs,afX _ z1,aqi _ z2,mJ,yQ];rfl
  ·have e2:(op==45)=false:=by simpa using h45
   by_cases h44:op=44
   ·subst h44;simp(disch:=omega) only[M.rY,a1,a2,a3,b1,b2,b3,KG,ah,Int.reduceBEq,cO,dO,(mX 44 hI).1,jP,akh,fz4,fz1,qQ _ hs,afX _ z1,aqi _ z2,mJ,yQ];rfl
   ·have e3:(op==44)=false:=by simpa using h44
    have hs3:sizes [K0,lI ([32]++spell op++[32]),K1]<=90000000:=by simp only[sizes,gV];omega
    simp(disch:=omega) only[M.rY,a1,a2,a3,b1,b2,b3,KG,ah,e1,e2,e3,cO,dO,(mX op hI).1,uq,mZ,xq,jP,fz3,qQ _ hs3,mJ,yQ];simp[VO,e1,e2,e3,wQ]
set_option maxHeartbeats 4000000 in
def acV(t:Tn):CJ t->Rw t->Ue t->t.size<=1048576->DS t:=by
 refine Tn.ind (P:=λt=>CJ t->Rw t->Ue t->t.size<=1048576->DS t) ?_ t;intro k op x y ks ih hok he hsm hsz;intro o f p l b hl h hf hp;have aXX:=h;simp only[Rw,Tn.kind] at he;have hc:=KZ hok;rw[Ue] at hsm;obtain⟨⟨hx,hy⟩,hss⟩:=hsm;rw[Tn.size] at hsz hf;have hkE:∀u,u∈ks->CJ u∧Rw u∧Ue u:=by intro u hu;obtain⟨i,hi⟩:=List.mem_iff_getElem?.1 hu;obtain⟨h1,h2⟩:=Xo hok he hi;exact⟨h2,h1,zB hss hu⟩
 have ih':∀u,u∈ks->DS u:=by intro u hu;obtain⟨h1,h2,h3⟩:=hkE u hu;have:=iW hu;exact ih u hu h1 h2 h3 (by omega)
 have hat:At l b ks:=λj u hj=>Lies.QW h hj
 obtain⟨g,rfl⟩:∃g,f=g+1:=⟨f - 1,by omega⟩
 have hr:idx (dF o l) ((b+sizes ks:Nat):Int)=some (MN o ⟨k,op,x,y,ends ks b⟩):=by have hr0:l[b+sizes ks]? =some ⟨k,op,x,y,ends ks b⟩:=Lies.root' h;rw[fQ,nN,hr0];rfl
 have hkl:=lW ks;have tgt:∀{u:Tn},ks[0]? =some u->cls k op ks.length 0=6->CJ u∧Rw u∧13<=lvl u.kind u.op:=by intro u hu hcls;obtain⟨h1,h2⟩:=Xo hok he hu;obtain⟨h3,_⟩:=IV hok hu;rw[hcls] at h3;exact⟨h2,h1,(afO h3).1⟩
 rw[M.abD,Tn.kids];have hk:k=1∨k=2∨k=3∨k=4∨k=5∨k=7∨k=8∨k=6∨k=9∨k=10∨k=11∨k=13∨k=15∨k=12∨k=14:=by omega
 rw[qL];rcases hk with rfl|rfl|rfl|rfl|rfl|rfl|rfl|rfl|rfl|rfl|rfl|rfl|rfl|rfl|rfl
 ·simp only[jY,M.gU,hr,ah,Gf,G7,GL,G8,Ef,M.dN,M.dG,Int.reduceBEq,Int.reduceBNe,cO,dO,jP];rfl
 ·simp only[jY,M.gU,hr,ah,Gf,G7,GL,G8,Ef,M.dN,M.dG,Int.reduceBEq,Int.reduceBNe,cO,dO,jP];rfl
 ·simp only[jY,M.gU,hr,ah,Gf,G7,GL,G8,Ef,M.dN,M.dG,Int.reduceBEq,Int.reduceBNe,cO,dO,jP];rfl
 ·simp only[jY,M.gU,hr,ah,Gf,G7,GL,G8,Ef,M.dN,M.dG,Int.reduceBEq,Int.reduceBNe,cO,dO,jP];rfl
 ·have a1:=afY ih' (o:=o) (f:=g) (b:=b) hl hat (by omega) (by omega) 5 op x y hx 91 93;rw[MW hp (.inl rfl) (λj=>by simp[oG])];simp only[jY,M.gU,hr,ah,Gf,G7,GL,G8,Ef,M.dN,M.dG,Int.reduceBEq,Int.reduceBNe,cO,dO,a1];rfl
 ·have a1:=afY ih' (o:=o) (f:=g) (b:=b) hl hat (by omega) (by omega) 7 op x y hx 40 41;rw[MW hp (.inl rfl) (λj=>by simp[oG])];simp only[jY,M.gU,hr,ah,Gf,G7,GL,G8,Ef,M.dN,M.dG,Int.reduceBEq,Int.reduceBNe,cO,dO,a1];rfl
 ·have a1:=afY ih' (o:=o) (f:=g) (b:=b) hl hat (by omega) (by omega) 8 op x y hx 40 41;rw[MW hp (.inl rfl) (λj=>by simp[oG])];simp only[jY,M.gU,hr,ah,Gf,G7,GL,G8,Ef,M.dN,M.dG,Int.reduceBEq,Int.reduceBNe,cO,dO,a1];rfl
 ·obtain⟨u,rfl⟩:=Xx.1 (hc.one (by omega));have hs1:=Zj u;obtain⟨⟨a1,a2,a3⟩,a4⟩:=Xv ih' (o:=o) (f:=g) (b:=b) (k:=6) (op:=op) (x:=x) (y:=y) (p:=p) (j:=0) (u:=u) (by omega) hc hp hl hat (by omega) (by omega) rfl (TJ 6 (by omega) 0);rw[qP] at a1 a2;rw[PD];generalize (eP 6 op [u].length 0 p).zo=q0 at a2 a3;generalize Ku 6 op [u].length p 0 u=K0 at a3 a4⊢;have hs:sizes [lI [36],K0]<=90000000:=by simp only[sizes,gV];omega
  simp only[jY,M.gU,hr,ah,Gf,G7,GL,G8,Ef,M.dN,M.dG,Int.reduceBEq,Int.reduceBNe,cO,dO,a1,a2,a3,KG,jP,fz2,qQ _ hs,mJ];rfl
 ·obtain⟨u,rfl⟩:=Xx.1 (hc.one (by omega));have hs1:=Zj u;have hI:I64 op:=by rcases hc.stp (by omega) with rfl|rfl<;>constructor<;>decide
  have a1:=kW (ks:=[u]) (b:=b) (j:=0) (u:=u) rfl;obtain⟨t1,t2,t3⟩:=tgt (u:=u) rfl (by simp[cls]);have a3:=acU (ih' u (by simp)) t1 t2 t3 (o:=o) (f:=g) (p:=eP 9 op [u].length 0 p) hl (hat 0 u rfl) (by omega) (tY hp (by simp) (by simp[lvl]));have a4:=IW u (eP 9 op [u].length 0 p);rw[qP] at a1;rw[PD,Ku,show oG 9 0=true from rfl,Bool.true_or,cO];generalize qL u (eP 9 op [u].length 0 p)=K0 at a3 a4⊢;have hs:sizes [lI (spell op),K0]<=90000000:=by simp only[sizes,gV];omega
  simp only[jY,M.gU,hr,ah,Gf,G7,GL,G8,Ef,M.dN,M.dG,Int.reduceBEq,Int.reduceBNe,cO,dO,a1,a3,(mX op hI).1,KG,jP,fz2,qQ _ hs,mJ];rfl
 ·obtain⟨u,rfl⟩:=Xx.1 (hc.one (by omega));have hs1:=Zj u;have hI:I64 op:=by rcases hc.stp (by omega) with rfl|rfl<;>constructor<;>decide
  have a1:=kW (ks:=[u]) (b:=b) (j:=0) (u:=u) rfl;obtain⟨t1,t2,t3⟩:=tgt (u:=u) rfl (by simp[cls]);have a3:=acU (ih' u (by simp)) t1 t2 t3 (o:=o) (f:=g) (p:=eP 10 op [u].length 0 p) hl (hat 0 u rfl) (by omega) (tY hp (by simp) (by simp[lvl]));have a4:=IW u (eP 10 op [u].length 0 p);rw[qP] at a1;rw[PD,Ku,show oG 10 0=true from rfl,Bool.true_or,cO];generalize qL u (eP 10 op [u].length 0 p)=K0 at a3 a4⊢;have hs:sizes [K0,lI (spell op)]<=90000000:=by simp only[sizes,gV];omega
  simp only[jY,M.gU,hr,ah,Gf,G7,GL,G8,Ef,M.dN,M.dG,Int.reduceBEq,Int.reduceBNe,cO,dO,a1,a3,(mX op hI).1,KG,jP,fz2,qQ _ hs,mJ];rfl
 ·obtain⟨u,rfl⟩:=Xx.1 (hc.one (by omega));have hs1:=Zj u;obtain⟨u1,u2,u3⟩:=hkE u (by simp);have hI:I64 op:=by rcases hc.una (by omega) with rfl|rfl|rfl<;>constructor<;>decide
  have ihS:∀v,v∈[u]->PS v:=by intro v hv;rw[List.mem_singleton.1 hv];exact amA u u1 u2 (by omega)
  obtain⟨⟨a1,a2,a3⟩,a4⟩:=Xv ih' (o:=o) (f:=g) (b:=b) (k:=11) (op:=op) (x:=x) (y:=y) (p:=p) (j:=0) (u:=u) (by omega) hc hp hl hat (by omega) (by omega) rfl (TJ 11 (by omega) 0);obtain⟨⟨c1,c2,c3⟩,c4⟩:=UW ihS (o:=o) (f:=5 * sizes [u]+1) (b:=b) (k:=11) (op:=op) (x:=x) (y:=y) (p:=p) (j:=0) (u:=u) (by omega) hc hp hl hat (by omega) (by omega) rfl (TJ 11 (by omega) 0);have c3':=M.adk c3;rw[qP] at a1 a2;rw[PD,Ns];have hne:=alj (k:=11) (op:=op) (n:=[u].length) (p:=p) (j:=0) u1 u2;have aNh:=ap7 (k:=11) (op:=op) (n:=[u].length) (p:=p) (j:=0) u3;clear c3 c2;generalize (eP 11 op [u].length 0 p).zo=q0 at a2 a3 c3';generalize Ku 11 op [u].length p 0 u=K0 at a3 a4⊢;generalize su 11 op [u].length p 0 u=K at hne aNh c3'⊢;cases K with
  |nil=>exact absurd rfl hne
  |cons t0 K=>
   have hsl:=La op;have hg:M.rP op (spell op) 0 t0.kind t0.text t0.at_=some (EL (tok op) t0):=Yp (tok op) t0 (by show(spell op).length<=_;omega) (by have:=aNh t0 zmf;omega);have i0:idx (kY (t0::K)) 0=some (abl t0):=rfl;have i1:(kY (t0::K))[0]? =some (abl t0):=rfl;have hs:sizes [lI (spell op),K0]<=90000000:=by simp only[sizes,gV];omega
   have hs2:sizes [lI (spell op++[32]),K0]<=90000000:=by simp only[sizes,gV];omega
   have ha:VO 11 op [u].length x (aex op [t0::K]) [K0]=nV [lI (bif EL (tok op) t0 then spell op++[32] else spell op),K0]:=rfl;rw[ha];simp(disch:=omega) only[jY,M.gU,hr,ah,Gf,G7,GL,G8,Ef,M.dN,M.dG,Int.reduceBEq,Int.reduceBNe,cO,dO,a1,a2,a3,c3',i0,i1,cT0,cT1,cT2,hg,(mX op hI).1,(lH op hI).2,KG,jP,fz2,qQ _ hs,qQ _ hs2,mJ,yQ];cases EL (tok op) t0<;>rfl
 ·obtain⟨u,hu⟩:∃u,ks[0]? =some u:=by have:=hc.some_ (by omega);exact⟨ks[0],by simp⟩
  obtain⟨⟨a1,a2,a3⟩,a4⟩:=Xv ih' (o:=o) (f:=g) (b:=b) (k:=13) (op:=op) (x:=x) (y:=y) (p:=p) (j:=0) (u:=u) (by omega) hc hp hl hat (by omega) (by omega) hu (TJ 13 (by omega) 0);have hus:=iW (Au hu);rw[qP] at a1 a2;have hel:(encI (ends ks b)).length=ks.length:=by rw[dh,gu]
  cases hm:Nat.blt 1 ks.length with
  |true=>
   have b1:=akj ih' (o:=o) (f:=g) (p:=.top) rfl (b:=b) hl hat (by omega) (by omega);have b2:=IX .top ks;simp only[Ps.top] at b1 b2;have e1:((ks.length:Int)==1)=false:=by rw[Nat.blt_eq] at hm;rw[VZ];omega
   have hs:sizes [lI [40],MQ ⟨1,false,false,false,false⟩ ks,lI ([41,32,105,110,32]++x)]<=90000000:=by simp only[sizes,gV];omega
   rw[MW hp (.inr ⟨rfl,hm,by simp[lvl]⟩) (λj=>by simp[oG])];simp(disch:=omega) only[jY,M.gU,hr,ah,Gf,G7,GL,G8,Ef,M.dN,M.dG,Int.reduceBEq,Int.reduceBNe,cO,dO,hel,e1,jP,zi.2,b1,fz3,qQ _ hs,mJ,yQ];simp[VO,hm,ai8,Ps.top]
  |false=>
   have h1:ks.length=1:=by
    have h2:=hc.some_ (by omega);have h3:¬1<ks.length:=by rw[<-Nat.blt_eq,hm];simp
    omega
   obtain⟨u',rfl⟩:=Xx.1 h1;obtain rfl:u'=u:=by simpa using hu
   rw[PD];have e1:(([u'].length:Int)==1)=true:=rfl;generalize (eP 13 op [u'].length 0 p).zo=q0 at a2 a3;generalize Ku 13 op [u'].length p 0 u'=K0 at a3 a4⊢;have hs:sizes [K0,lI ([32,105,110,32]++x)]<=90000000:=by simp only[sizes,gV];omega
   simp(disch:=omega) only[jY,M.gU,hr,ah,Gf,G7,GL,G8,Ef,M.dN,M.dG,Int.reduceBEq,Int.reduceBNe,cO,dO,hel,e1,a1,a2,a3,KG,jP,fz2,qQ _ hs,mJ,yQ];rfl
 ·obtain⟨u,v,rfl⟩:=IY (hc.two (by omega));have hsv:=sz2 u v;have hI:I64 op:=by rcases hc.asg rfl with rfl|h<;>constructor<;>omega
  have hsl:=La op;have a1:=kW (ks:=[u,v]) (b:=b) (j:=0) (u:=u) rfl;obtain⟨t1,t2,t3⟩:=tgt (u:=u) rfl (by simp[cls]);have a3:=acU (ih' u (by simp)) t1 t2 t3 (o:=o) (f:=g) (p:=eP 15 op [u,v].length 0 p) hl (hat 0 u rfl) (by omega) (tY hp (by simp) (by simp[lvl]));have a4:=IW u (eP 15 op [u,v].length 0 p);obtain⟨⟨b1,b2,b3⟩,b4⟩:=Xv ih' (o:=o) (f:=g) (b:=b) (k:=15) (op:=op) (x:=x) (y:=y) (p:=p) (j:=1) (u:=v) (by omega) hc hp hl hat (by omega) (by omega) rfl rfl;rw[qP] at a1;rw[Q8] at b1 b2;rw[afT]
  conv=>rhs;rw[Ku,show oG 15 0=true from rfl,Bool.true_or,cO]
  generalize qL u (eP 15 op [u,v].length 0 p)=K0 at a3 a4⊢;generalize (eP 15 op [u,v].length 1 p).zo=q1 at b2 b3;generalize Ku 15 op [u,v].length p 1 v=K1 at b3 b4⊢;have hs3:sizes [K0,lI ([32]++spell op++[32]),K1]<=90000000:=by simp only[sizes,gV];omega
  simp(disch:=omega) only[jY,M.gU,hr,ah,Gf,G7,GL,G8,Ef,M.dN,M.dG,Int.reduceBEq,Int.reduceBNe,cO,dO,a1,a3,b1,b2,b3,(mX op hI).1,KG,uq,mZ,xq,jP,fz3,qQ _ hs3,mJ,yQ];simp[VO,wQ]
 ·have a1:=aNg ih' (o:=o) (f:=g) (b:=b) (op:=op) (x:=x) (y:=y) (p:=p) hc hp hl hat (by omega) (by omega) (aex op (jF 12 op ks.length p ks 0));simp only[jY,M.gU,hr,ah,Gf,G7,GL,G8,Ef,M.dN,M.dG,Int.reduceBEq,Int.reduceBNe,cO,dO,a1]
 ·obtain⟨u,v,z,rfl⟩:=Qp (hc.three rfl);have hsz3:=sz3 u v z;obtain⟨⟨a1,a2,a3⟩,a4⟩:=Xv ih' (o:=o) (f:=g) (b:=b) (k:=14) (op:=op) (x:=x) (y:=y) (p:=p) (j:=0) (u:=u) (by omega) hc hp hl hat (by omega) (by omega) rfl (TJ 14 (by omega) 0);obtain⟨⟨b1,b2,b3⟩,b4⟩:=Xv ih' (o:=o) (f:=g) (b:=b) (k:=14) (op:=op) (x:=x) (y:=y) (p:=p) (j:=1) (u:=v) (by omega) hc hp hl hat (by omega) (by omega) rfl (TJ 14 (by omega) 1);obtain⟨⟨c1,c2,c3⟩,c4⟩:=Xv ih' (o:=o) (f:=g) (b:=b) (k:=14) (op:=op) (x:=x) (y:=y) (p:=p) (j:=2) (u:=z) (by omega) hc hp hl hat (by omega) (by omega) rfl (TJ 14 (by omega) 2);rw[qP] at a1 a2;rw[Q8] at b1 b2;rw[amw] at c1 c2;rw[aqb];generalize (eP 14 op [u,v,z].length 0 p).zo=q0 at a2 a3;generalize Ku 14 op [u,v,z].length p 0 u=K0 at a3 a4⊢;generalize (eP 14 op [u,v,z].length 1 p).zo=q1 at b2 b3;generalize Ku 14 op [u,v,z].length p 1 v=K1 at b3 b4⊢;generalize (eP 14 op [u,v,z].length 2 p).zo=q2 at c2 c3;generalize Ku 14 op [u,v,z].length p 2 z=K2 at c3 c4⊢;have hs:sizes [K0,lI [32,63,32],K1,lI [32,58,32],K2]<=90000000:=by simp only[sizes,gV];omega
  simp only[jY,M.gU,hr,ah,Gf,G7,GL,G8,Ef,M.dN,M.dG,Int.reduceBEq,Int.reduceBNe,cO,dO,a1,a2,a3,b1,b2,b3,c1,c2,c3,KG,jP,fz5,qQ _ hs,mJ];rfl
def aeI:∀(ks:List Tn) (b m:Nat),(ends ks b).take m=ends (ks.take m) b
 |[],b,m=>by simp[ends]
 |t::ts,b,0=>by simp[ends]
 |t::ts,b,m+1=>by rw[ends,List.take_succ_cons,List.take_succ_cons,ends,aeI ts]
def asC{l:List Nd}{b:Nat}{ks:List Tn}(hat:At l b ks)(m:Nat):At l b (ks.take m):=by
 intro j u hj;have hjm:j<m:=by have:=(MG.1 hj).1;rw[PE] at this;omega
 rw[List.getElem?_take,if_pos hjm] at hj;have:=hat j u hj
 rwa [List.take_take,Nat.min_eq_left (by omega)]
section
variable {o:Bool} {l:List Nd} {b:Nat} (hl:l.length<=1048576)
include hl
theorem ax9{u:Tn}(h:Ex' u)(hh:Lies l b u){p:Ps}(hp:l9 p=true):M.eX (dF o l) false ((b+sizes u.kids:Nat):Int) p.level p.lQ p.qp p.qw p.kU=some (dE (Ap u p)):=
 M.adp (ax8 (acV u h.ok h.e h.sm h.sz) (f:=5 * u.size+1) hl hh (Nat.le_refl _) hp)
theorem Q9{u:Tn}(h:Ex' u)(hh:Lies l b u):M.eX (dF o l) false ((b+sizes u.kids:Nat):Int) 1 false false false false=some (dE (Je u)):=ax9 (o:=o) hl h hh (p:=.top) rfl
theorem aqj{ks:List Tn}(h:∀u,u∈ks->Ex' u)(hat:At l b ks)(hs:sizes ks<=1048575){p:Ps}(hp:l9 p=true):M.jC (dF o l) false (encI (ends ks b)) p.level p.lQ p.qp p.qw p.kU=some (dE (MQ p ks)):=
 M.ZE (akj (λu hu=>acV u (h u hu).ok (h u hu).e (h u hu).sm (h u hu).sz) (f:=5 * sizes ks+2) hp hl hat (Nat.le_refl _) hs)
theorem akk{u:Tn}(h:u.kind=16∨Ex' u)(hh:Lies l b u):M.ny (dF o l) false ((b+sizes u.kids:Nat):Int)=some (dE (OM u)):=by
 simp only[M.ny,M.JI,OI hh,ah,Gf,OM];rcases h with h|h
 ·rw[h];simp only[beq_self_eq_true,cO,jP,ah]
 ·have h1:(u.kind==16)=false:=by have:=h.e;unfold Rw at this;rw[VZ];omega
  have h2:=Q9 (o:=o) hl h hh;have h3:=mG u .top;have h4:=h.sz;have hs:sizes [lI [32],Je u]<=90000000:=by simp only[sizes,gV,Je];omega
  simp only[h1,dO,jP,zi.2,ah,h2,fz2,qQ _ hs,mJ,cO]
theorem atF{ks:List Tn}(h:∀u,u∈ks->Ex' u)(hat:At l b ks)(wd:aC):M.uN (dF o l) false wd (encI (ends ks b))=some (dE (acs wd ks)):=by
 simp only[M.uN,M.JJ,dh,gu];cases ks with
 |nil=>rw[show(((([]:List Tn).length:Nat):Int)==0)=true from rfl];simp only[cO,jP,ah];rfl
 |cons u t=>
  have hu:=h u zmf;have hi:=kW (ks:=u::t) (b:=b) (j:=0) (u:=u) rfl;have h1:=akk (o:=o) hl (.inr hu) (hat 0 u rfl);have h3:=NY u;have h4:=hu.sz;have e0:((((u::t).length:Nat):Int)==0)=false:=by rw[VZ,mZ];omega
  have hs:sizes [lI wd,OM u]<=90000000:=by simp only[sizes,gV];omega
  rw[qP] at hi;simp only[e0,dO,jP,ah,hi,KG,h1,fz2,qQ _ hs,mJ,cO];rfl
theorem aNi{ks:List Tn}(h:∀u,u∈ks->Ex' u)(hat:At l b ks)(hs:sizes ks<=1048575)(op:Int)(x y:aC)(hop:op=0∨op=1)(hy:y≠[]->1<=ks.length)(hyl:y.length<=1048576):
  M.uV (dF o l) false 21 op x y (encI (ends ks b))=some (dE (aj6 op y ks)):=by
 have hkl:=lW ks;have key:∀wd:aC,(bif !(y==[]) then
   ((cut (encI (ends ks b)) 0 (i64.wrap (((encI (ends ks b)).length:Int) - 1))).bind λrows=>(bif decide ((rows.length:Int)>0) then
    ((M.aI [32]).bind λr2=>((M.jC (dF o l) false rows 1 false false true false).bind λr3=>(bif(1+y.length).ble 9223372036854775807 then(bif(([32]++y).length+1).ble 9223372036854775807 then((M.aI ([32]++y++[32])).bind λr4=>((idx (encI (ends ks b)) (i64.wrap (((encI (ends ks b)).length:Int) - 1))).bind λrow=>((fB IntKind.i64 row 0).bind λn=>((M.eX (dF o l) false n 9 false false false false).bind λr5=>((M.aS 6 0 (bM ([[D.sl true 4 (dE (lI wd))]]++[[D.sl true 4 r2],[D.sl true 4 r3]]++[[D.sl true 4 r4],[D.sl true 4 r5]]))).bind λr6=>(bif[[D.sl true 4 r6]].all dQ then some r6 else none)))))) else none) else none))) else
    (bif(1+y.length).ble 9223372036854775807 then(bif(([32]++y).length+1).ble 9223372036854775807 then((M.aI ([32]++y++[32])).bind λr4=>((idx (encI (ends ks b)) (i64.wrap (((encI (ends ks b)).length:Int) - 1))).bind λrow=>((fB IntKind.i64 row 0).bind λn=>((M.eX (dF o l) false n 9 false false false false).bind λr5=>((M.aS 6 0 (bM ([[D.sl true 4 (dE (lI wd))]]++[[D.sl true 4 r4],[D.sl true 4 r5]]))).bind λr6=>(bif[[D.sl true 4 r6]].all dQ then some r6 else none)))))) else none) else none))) else
   (bif decide (((encI (ends ks b)).length:Int)>0) then
    ((M.aI [32]).bind λr2=>((M.jC (dF o l) false (encI (ends ks b)) 1 false false true false).bind λr3=>((M.aS 6 0 (bM ([[D.sl true 4 (dE (lI wd))]]++[[D.sl true 4 r2],[D.sl true 4 r3]]))).bind λr6=>(bif[[D.sl true 4 r6]].all dQ then some r6 else none)))) else
    ((M.aS 6 0 (bM [[D.sl true 4 (dE (lI wd))]])).bind λr6=>(bif[[D.sl true 4 r6]].all dQ then some r6 else none))))=
   some (dE (nV ([lI wd]++((bif Nat.blt 0 (bif y==[] then ks else ks.take (ks.length - 1)).length then[lI [32],MQ ⟨1,false,false,true,false⟩ (bif y==[] then ks else ks.take (ks.length - 1))] else[])++
    (bif y==[] then[] else[lI (([32]++y)++[32]),Ap (Cj ks (ks.length - 1)) ⟨9,false,false,false,false⟩]))))):=by
  intro wd;have gt:∀L:List Tn,decide (((encI (ends L b)).length:Int)>0)=Nat.blt 0 L.length:=by intro L;rw[dh,gu];exact Uc 0 L.length
  by_cases hy0:y=[]
  ·have e0:(y==[])=true:=by simpa using hy0
   have l1:=aqj (o:=o) hl h hat hs (p:=⟨1,false,false,true,false⟩) rfl;have l2:=IX ⟨1,false,false,true,false⟩ ks;have z1:sizes [lI wd,lI [32],MQ ⟨1,false,false,true,false⟩ ks]<=90000000:=by simp only[sizes,gV];omega
   have z2:sizes [lI wd]<=90000000:=by simp only[sizes,gV];omega
   simp only[e0,Bool.not_true,cO,dO,gt];cases Nat.blt 0 ks.length with
   |true=>simp only[cO,ah,jP,l1,Ru,List.nil_append,fz3,qQ _ z1,mJ]
   |false=>simp only[dO,ah,fz1,qQ _ z2,mJ,cO];rfl
  ·have e0:(y==[])=false:=by simpa using hy0
   have hn:=hy hy0;have hw:i64.wrap (((encI (ends ks b)).length:Int) - 1)=((ks.length - 1:Nat):Int):=by rw[dh,gu,aJ (by omega) (by omega)];omega
   have hcut:cut (encI (ends ks b)) 0 ((ks.length - 1:Nat):Int)=some (encI (ends (ks.take (ks.length - 1)) b)):=by rw[amu _ _ (by rw[dh,gu];omega),<-aeI ks b,encI,encI,List.map_take]
   obtain⟨u,hu⟩:∃u,ks[ks.length - 1]? =some u:=⟨ks[ks.length - 1],by simp⟩
   have hnt:Cj ks (ks.length - 1)=u:=by rw[Cj,hu];rfl
   have hue:=h u (Au hu);have he:=ax9 (o:=o) hl hue (hat _ u hu) (p:=⟨9,false,false,false,false⟩) rfl;have hi:=kW (b:=b) hu;have s1:=mG u ⟨9,false,false,false,false⟩;have s2:=hue.sz;have s3:=take_size ks (ks.length - 1);have l1:=aqj (o:=o) hl (ks:=ks.take (ks.length - 1)) (λv hv=>h v (List.mem_of_mem_take hv)) (asC hat _) (by omega) (p:=⟨1,false,false,true,false⟩) rfl;have l2:=IX ⟨1,false,false,true,false⟩ (ks.take (ks.length - 1));have z1:sizes [lI wd,lI [32],MQ ⟨1,false,false,true,false⟩ (ks.take (ks.length - 1)),lI ([32]++y++[32]),Ap u ⟨9,false,false,false,false⟩]<=90000000:=by simp only[sizes,gV];omega
   have z2:sizes [lI wd,lI ([32]++y++[32]),Ap u ⟨9,false,false,false,false⟩]<=90000000:=by simp only[sizes,gV];omega
   have r1:(1+y.length).ble 9223372036854775807=true:=yQ (by omega);have r2:(([32]++y).length+1).ble 9223372036854775807=true:=yQ (by simp only[uq,mZ,xq];omega);simp only[e0,Bool.not_false,cO,dO,hw,hcut,ah,gt,hnt,r1,r2];cases Nat.blt 0 (ks.take (ks.length - 1)).length with
   |true=>rw[Ru,List.nil_append] at z1 z2⊢;simp only[cO,ah,jP,l1,hi,KG,he,Ru,List.nil_append,fz5,mJ] at z1⊢;rw[qQ _ z1,ah,mJ,cO]
   |false=>simp only[cO,dO,ah,jP,hi,KG,he,Ru,List.nil_append,fz3,mJ] at z2⊢;rw[qQ _ z2,ah,mJ,cO]
 have hyy:∀{R:Type} (a c:R),(bif !(y==[]) then(bif !(y==[]) then a else c) else c)=bif !(y==[]) then a else c:=by intro R a c;cases(y==[])<;>rfl
 simp only[M.uV,M.H6,aj6];rcases hop with rfl|rfl
 ·have k1:=key [112,114,105,110,116];rw[show((0:Int)==1)=false from rfl,dO,jP,ah];rw[show((0:Int)==0)=true from rfl,cO,<-k1];cases(y==[])<;>rfl
 ·have k1:=key [112,114,105,110,116,102];rw[show((1:Int)==1)=true from rfl,cO,jP,ah];rw[show((1:Int)==0)=false from rfl,dO,<-k1];cases(y==[])<;>rfl
end
def SS(u:Tn):Prop:=∀(o:Bool) (f:Nat) (l:List Nd) (b:Nat),l.length<=1048576->Lies l b u->6 * u.size<=f->M.EC f (dF o l) false ((b+sizes u.kids:Nat):Int)=some (dE (jd u))
def BS(u:Tn):Prop:=∀(o:Bool) (f:Nat) (l:List Nd) (b:Nat),l.length<=1048576->Lies l b u->6 * u.size<=f+3->M.gY f (dF o l) false ((b+sizes u.kids:Nat):Int)=some (dE (jd u))
def Rn:List Tn->au
 |[]=>[]
 |d::l=>[D.sl true 4 (dE OH)]::[D.sl false 4 (fD false (d.flat 0))]::Rn l
def acW:∀(L:List Tn) (x:Tn),Rn (L++[x])=Rn L++[[D.sl true 4 (dE OH)],[D.sl false 4 (fD false (x.flat 0))]]
 |[],x=>rfl
 |y::L,x=>by rw[Ru,Rn,Rn,acW L x];rfl
def aeJ:∀L:List Tn,(Rn L).length=2 * L.length
 |[]=>rfl
 |y::L=>by have:=aeJ L;rw[Rn,mZ,mZ,this,mZ];omega
def ajc:∀L:List Tn,bM (Rn L)=qx (Dt L)
 |[]=>rfl
 |d::l=>by
  have h1:sD [D.sl true 4 (dE OH)]=[D.sl false 4 (fD false (OH.flat 0))]:=by simp[sD,D.fz,dE]
  have h2:sD [D.sl false 4 (fD false (d.flat 0))]=[D.sl false 4 (fD false (d.flat 0))]:=by simp[sD,D.fz]
  rw[Rn,bM,bM,h1,h2,ajc l];rfl
def asD(L:List Tn)(hn:L.length<=1048576)(hs:sizes (Dt L)<=90000000):M.uX (qx L)=some (dE (nV (Dt L))):=by
 have hpl:(qx L).length=L.length:=by simp[qx]
 have hloop:=iV (b:=M.BL (qx L)) (t:=((L.length:Int),Rn L)) (λj=>((j:Int),Rn (L.take j))) L.length
  (by
   intro j hj;obtain⟨d,hd⟩:∃d,L[j]? =some d:=⟨L[j],by simp[hj]⟩
   have hr:idx (qx L) (j:Int)=some [.sl false 4 (fD false (d.flat 0))]:=by rw[fQ];simp[qx,hd]
   have c0:TL 4 [D.sl false 4 (fD false (d.flat 0))] 0=some (fD false (d.flat 0)):=rfl;have hll:=aeJ (L.take j);rw[PE] at hll;have hw:i64.wrap ((j:Int)+1)=((j+1:Nat):Int):=by rw[aJ (by omega) (by omega)];omega
   simp only[jY,M.BL,M.vZ,hpl,aki,hr,ah,c0,mZ,xq,hw];rw[zdt (by omega),cO,dP (by omega),cO,dP (by omega),cO,jo hd,acW])
  (by simp only[jY,M.BL,M.vZ,hpl];rw[uw (by omega),dO,List.take_length]) 0 (Nat.zero_le _)
 have zh:M.Fz (qx L) (0,[])=some ((L.length:Int),Rn L):=hloop;simp only[M.uX,M.H9,zh,ah,ajc,qQ _ hs,mJ,cO]
def aqk{u:Tn}(hS:SS u)(hk:20<=u.kind∧u.kind<=34){o:Bool}{f:Nat}{l:List Nd}{b:Nat}(hl:l.length<=1048576)(h:Lies l b u)(hf:6 * u.size+1<=f):
  M.nU f (dF o l) false ((b+sizes u.kids:Nat):Int)=some (dE (jd u)):=by
 obtain⟨g,rfl⟩:∃g,f=g+1:=⟨f - 1,by omega⟩
 have h1:=hS o g l b hl h (by omega);have n0:(u.kind==40)=false:=by rw[VZ];omega
 have n1:(u.kind==41)=false:=by rw[VZ];omega
 have n2:(u.kind==42)=false:=by rw[VZ];omega
 have n3:(u.kind==43)=false:=by rw[VZ];omega
 have n4:(u.kind==44)=false:=by rw[VZ];omega
 rw[M.JM];simp only[jY,M.ql,OI h,ah,Gf,G7,GL,G8,Ef,n0,n1,n2,n3,n4,dO,h1]
def aya{ks:List Tn}{o:Bool}{f:Nat}{l:List Nd}{b:Nat}{D':Tn->Tn}(ih:∀j u,ks[j]? =some u->M.nU f (dF o l) false ((b+sizes (ks.take j)+sizes u.kids:Nat):Int)=some (dE (D' u)))(hn:ks.length<=1048576):
  M.zZ (f+1) (dF o l) false (encI (ends ks b))=some ((ks.map D').map TK):=by
 have hloop:=iV (b:=M.DN (M.nU f) (encI (ends ks b)) (dF o l) false) (t:=((ks.length:Int),(ks.map D').map TK)) (λj=>((j:Int),((ks.take j).map D').map TK)) ks.length
  (by
   intro j hj;obtain⟨u,hu⟩:∃u,ks[j]? =some u:=⟨ks[j],by simp[hj]⟩
   have hi:=kW (b:=b) hu;have h1:=ih j u hu;have hw:i64.wrap ((j:Int)+1)=((j+1:Nat):Int):=by rw[aJ (by omega) (by omega)];omega
   simp only[jY,M.DN,M.yt,dh,gu,hi,ah,KG,h1,List.length_map,PE,mZ,xq,hw];rw[zdt (by omega),cO,dP (by omega),cO,dP (by omega),cO,jo hu,List.map_append,List.map_append];rfl)
  (by simp only[jY,M.DN,M.yt,dh,gu];rw[uw (by omega),dO,List.take_length]) 0 (Nat.zero_le _)
 have zh:M.H8 (M.nU f) (encI (ends ks b)) (dF o l) false (0,[])=some ((ks.length:Int),(ks.map D').map TK):=hloop;rw[M.abL];simp only[M.zX,zh,ah]
def aeK:∀ks:List Tn,nX ks=ks.map jd
 |[]=>rfl
 |t::ts=>by rw[nX,aeK ts];rfl
def asE{k op:Int}{x y:aC}{ks:List Tn}(ih:∀u,u∈ks->SS u∧(20<=u.kind∧u.kind<=34)){o:Bool}{f:Nat}{l:List Nd}{b:Nat}(hl:l.length<=1048576)(h:Lies l b (.mk k op x y ks))(hf:6 * sizes ks+3<=f)(hu:sizes ks<=1048575)(hz:sizes (nX ks)+2 * ks.length<=40 * sizes ks):
  M.gY f (dF o l) false ((b+sizes ks:Nat):Int)=some (dE (aj3 (nX ks))):=by
 obtain⟨g,rfl⟩:∃g,f=g+1+1:=⟨f - 2,by omega⟩
 have hkl:=lW ks;have hr:idx (dF o l) ((b+sizes ks:Nat):Int)=some (MN o ⟨k,op,x,y,ends ks b⟩):=OI h;have hk:M.zZ (g+1) (dF o l) false (encI (ends ks b))=some ((nX ks).map TK):=by rw[aeK];refine aya (λj u hj=> ?_) (by omega);obtain⟨h1,h2⟩:=ih u (Au hj);have:=iW (Au hj);exact aqk h1 h2 hl (Lies.QW h hj) (by omega)
 have hll:=Tq (nX ks);rw[Kv] at hll;have hL:=asD (nX ks) (by rw[Kv];omega) (by omega);have z1:sizes [nV (Dt (nX ks))]<=90000000:=by simp only[sizes,nM];omega
 have z2:sizes [lI [123],UU (nV (Dt (nX ks))),OH,lI [125]]<=90000000:=by simp only[sizes,nM,Ql,gV,Xp];omega
 rw[M.ZL];simp only[M.wY,jP,aki,hr,ah,Ef,hk,MF,hL,mJ,cO,fz1,afX _ z1,fz4,qQ _ z2];rfl
set_option maxHeartbeats 4000000 in
def aql(t:Tn):CJ t->isS t->Ue t->t.size<=1048576->SS t∧(t.kind=33->BS t):=by
 refine Tn.ind (P:=λt=>CJ t->isS t->Ue t->t.size<=1048576->SS t∧(t.kind=33->BS t)) ?_ t;intro k op x y ks ih hok hs hsm hsz;have hc:=KZ hok;simp only[isS,Tn.kind] at hs;rw[Ue] at hsm;obtain⟨⟨hx,hy⟩,hss⟩:=hsm;rw[Tn.size] at hsz;have kE:∀{j:Nat} {u:Tn},ks[j]? =some u->cls k op ks.length j=0->Ex' u:=by intro j u hj hcl;obtain⟨h1,h2⟩:=IV hok hj;rw[hcl] at h1;have:=iW (Au hj);exact⟨h2,h1,zB hss (Au hj),by omega⟩
 have kE3:∀{j:Nat} {u:Tn},ks[j]? =some u->cls k op ks.length j=3->u.kind=16∨Ex' u:=by
  intro j u hj hcl;obtain⟨h1,h2⟩:=IV hok hj;rw[hcl] at h1;have:=iW (Au hj);rcases h1 with h1|h1
  ·exact .inl h1
  ·exact .inr ⟨h2,h1,zB hss (Au hj),by omega⟩
 have kB:∀{j:Nat} {u:Tn},ks[j]? =some u->cls k op ks.length j=1->BS u∧(jd u).size+2<=40 * u.size:=by intro j u hj hcl;obtain⟨h1,h2⟩:=IV hok hj;rw[hcl] at h1;have h1':u.kind=33:=h1;have:=iW (Au hj);exact⟨(ih u (Au hj) h2 (by constructor<;>omega) (zB hss (Au hj)) (by omega)).2 h1',QY u h2 (by constructor<;>omega)⟩
 have kS:k=33->∀u,u∈ks->SS u∧(20<=u.kind∧u.kind<=34):=by intro e u hu;subst e;obtain⟨j,hj⟩:=List.mem_iff_getElem?.1 hu;obtain⟨h1,h2⟩:=ak7 hok hj (.inr (by simp[cls]));have:=iW hu;exact⟨(ih u hu h2 h1 (zB hss hu) (by omega)).1,h1⟩
 have hB:k=33->BS (.mk k op x y ks):=by
  intro e o f l b hl h hf;have hz:sizes (nX ks)+2 * ks.length<=40 * sizes ks:=VP λu hu=>by subst e;obtain⟨j,hj⟩:=List.mem_iff_getElem?.1 hu;obtain⟨h1,h2⟩:=ak7 hok hj (.inr (by simp[cls]));exact QY u h2 h1
  have h1:=asE (k:=k) (op:=op) (x:=x) (y:=y) (kS e) (o:=o) (f:=f) hl h (by rw[Tn.size] at hf;omega) (by omega) hz;have h2:jd (.mk k op x y ks)=aj3 (nX ks):=by rw[jd,e];rfl
  rw[h2];exact h1
 refine⟨λo f l b hl h hf=> ?_,hB⟩;have hbk:∀f,6 * (sizes ks+1)<=f+3->k=33->M.gY f (dF o l) false ((b+sizes ks:Nat):Int)=some (dE (jd (.mk k op x y ks))):=λf hf e=>hB e o f l b hl h (by rw[Tn.size];exact hf)
 rw[Tn.size] at hf;obtain⟨g,rfl⟩:∃g,f=g+1:=⟨f - 1,by omega⟩
 have aE:∀(h:∀j,cls k op ks.length j=0),∀u,u∈ks->Ex' u:=by intro h u hu;obtain⟨j,hj⟩:=List.mem_iff_getElem?.1 hu;exact kE hj (h j)
 have hat:At l b ks:=λj u hj=>Lies.QW h hj
 have hr:idx (dF o l) ((b+sizes ks:Nat):Int)=some (MN o ⟨k,op,x,y,ends ks b⟩):=OI h;have hel:(encI (ends ks b)).length=ks.length:=by rw[dh,gu]
 rw[M.abJ,Tn.kids];have hk:k=20∨k=21∨k=22∨k=25∨k=26∨k=23∨k=24∨k=27∨k=28∨k=29∨k=30∨k=31∨k=32∨k=33∨k=34:=by omega
 rcases hk with rfl|rfl|rfl|rfl|rfl|rfl|rfl|rfl|rfl|rfl|rfl|rfl|rfl|rfl|rfl
 ·obtain⟨u,rfl⟩:=Xx.1 (hc.one (by omega));have i0:=kW (ks:=[u]) (b:=b) (j:=0) (u:=u) rfl;have h0:=Q9 (o:=o) hl (kE (j:=0) (u:=u) rfl (by simp[cls])) (hat 0 u rfl);rw[qP] at i0;simp only[jY,M.fO,hr,Gf,G7,GL,G8,Ef,Int.reduceBEq,cO,dO,i0,KG,ah,zi.2,h0];rw[jd];rfl
 ·have h0:=aNi (o:=o) hl (aE (λj=>by simp[cls])) hat (by omega) op x y (hc.prn rfl).1 (hc.prn rfl).2 hy;simp only[jY,M.fO,hr,Gf,G7,GL,G8,Ef,Int.reduceBEq,cO,dO,ah,h0];rw[jd];rfl
 ·simp only[jY,M.fO,hr,Gf,G7,GL,G8,Ef,Int.reduceBEq,cO,dO,ah,jP];rw[jd];rfl
 ·simp only[jY,M.fO,hr,Gf,G7,GL,G8,Ef,Int.reduceBEq,cO,dO,ah,jP];rw[jd];rfl
 ·simp only[jY,M.fO,hr,Gf,G7,GL,G8,Ef,Int.reduceBEq,cO,dO,ah,jP];rw[jd];rfl
 ·have h0:=atF (o:=o) hl (aE (λj=>by simp[cls])) hat [101,120,105,116];simp only[jY,M.fO,hr,Gf,G7,GL,G8,Ef,Int.reduceBEq,cO,dO,ah,h0];rw[jd];rfl
 ·have h0:=atF (o:=o) hl (aE (λj=>by simp[cls])) hat [114,101,116,117,114,110];simp only[jY,M.fO,hr,Gf,G7,GL,G8,Ef,Int.reduceBEq,cO,dO,ah,h0];rw[jd];rfl
 ·have h0:=aqj (o:=o) hl (aE (λj=>by simp[cls])) hat (by omega) (p:=.top) rfl;have h1:=IX .top ks;simp only[Ps.top] at h0 h1;rw[jd];cases ks with
  |nil=>simp(disch:=omega) only[jY,M.fO,hr,Gf,G7,GL,G8,Ef,Int.reduceBEq,cO,dO,hel,xq,ah,jP,yQ,show((((0:Nat):Int))==0)=true from rfl];rfl
  |cons u t=>
   have e0:((((u::t).length:Nat):Int)==0)=false:=by rw[VZ,mZ];omega
   have z1:sizes [lI ([100,101,108,101,116,101,32]++x++[91]),MQ ⟨1,false,false,false,false⟩ (u::t),lI [93]]<=90000000:=by simp only[sizes,gV] at *;omega
   have r1:(7+x.length).ble 9223372036854775807=true:=yQ (by omega);have r2:(([100,101,108,101,116,101,32]++x).length+1).ble 9223372036854775807=true:=yQ (by simp only[uq,mZ,xq];omega);simp only[jY,M.fO,hr,Gf,G7,GL,G8,Ef,Int.reduceBEq,cO,dO,hel,e0,r1,r2,ah,jP,zi.2,h0,fz3,qQ _ z1,mJ];rfl
 ·rw[jd];obtain⟨g',rfl⟩:∃g',g=g'+1:=⟨g - 1,by omega⟩
  rcases hc.cnd rfl with h2|h3
  ·obtain⟨u,v,rfl⟩:=IY h2;have hs2:=sz2 u v;have i0:=kW (ks:=[u,v]) (b:=b) (j:=0) (u:=u) rfl;have i1:=kW (ks:=[u,v]) (b:=b) (j:=1) (u:=v) rfl;rw[qP] at i0;rw[Q8] at i1;have e0:=kE (j:=0) (u:=u) rfl (by simp[cls]);have h0:=Q9 (o:=o) hl e0 (hat 0 u rfl);have s0:=mG u .top;obtain⟨h1,s1⟩:=kB (j:=1) (u:=v) rfl (by simp[cls]);have h1':=h1 o g' l _ hl (hat 1 v rfl) (by omega);have e2:((([u,v]:List Tn).length:Int)==2)=true:=rfl;have z1:sizes [lI [105,102,32,40],Je u,lI [41,32],jd v]<=90000000:=by simp only[sizes,gV,Je] at *;omega
   simp only[jY,M.fO,hr,Gf,G7,GL,G8,Ef,Int.reduceBEq,cO,dO,M.Xa,M.BM,hel,e2,i0,i1,KG,ah,jP,zi.2,h0,h1',fz4,qQ _ z1,mJ];rfl
  ·obtain⟨u,v,z,rfl⟩:=Qp h3;have hs3:=sz3 u v z;have i0:=kW (ks:=[u,v,z]) (b:=b) (j:=0) (u:=u) rfl;have i1:=kW (ks:=[u,v,z]) (b:=b) (j:=1) (u:=v) rfl;have i2:=kW (ks:=[u,v,z]) (b:=b) (j:=2) (u:=z) rfl;rw[qP] at i0;rw[Q8] at i1;rw[amw] at i2;have e0:=kE (j:=0) (u:=u) rfl (by simp[cls]);have h0:=Q9 (o:=o) hl e0 (hat 0 u rfl);have s0:=mG u .top;obtain⟨h1,s1⟩:=kB (j:=1) (u:=v) rfl (by simp[cls]);have h1':=h1 o g' l _ hl (hat 1 v rfl) (by omega);obtain⟨h2,s2⟩:=kB (j:=2) (u:=z) rfl (by simp[cls]);have h2':=h2 o g' l _ hl (hat 2 z rfl) (by omega);have e2:((([u,v,z]:List Tn).length:Int)==2)=false:=rfl;have z1:sizes [lI [105,102,32,40],Je u,lI [41,32],jd v]<=90000000:=by simp only[sizes,gV,Je] at *;omega
   have z2:sizes [nV [lI [105,102,32,40],Je u,lI [41,32],jd v],lI [32,101,108,115,101,32],jd z]<=90000000:=by simp only[sizes,gV,nM,Je] at *;omega
   simp only[jY,M.fO,hr,Gf,G7,GL,G8,Ef,Int.reduceBEq,cO,dO,M.Xa,M.BM,hel,e2,i0,i1,i2,KG,ah,jP,zi.2,h0,h1',h2',fz4,fz3,qQ _ z1,qQ _ z2,mJ];rfl
 ·rw[jd];obtain⟨u,v,rfl⟩:=IY (hc.two (by omega));have hs2:=sz2 u v;have i0:=kW (ks:=[u,v]) (b:=b) (j:=0) (u:=u) rfl;have i1:=kW (ks:=[u,v]) (b:=b) (j:=1) (u:=v) rfl;rw[qP] at i0;rw[Q8] at i1;have e0:=kE (j:=0) (u:=u) rfl (by simp[cls]);have h0:=Q9 (o:=o) hl e0 (hat 0 u rfl);have s0:=mG u .top;obtain⟨h1,s1⟩:=kB (j:=1) (u:=v) rfl (by simp[cls]);have h1':=h1 o g l _ hl (hat 1 v rfl) (by omega);have z1:sizes [lI [119,104,105,108,101,32,40],Je u,lI [41,32],jd v]<=90000000:=by simp only[sizes,gV,Je] at *;omega
  simp only[jY,M.fO,hr,Gf,G7,GL,G8,Ef,Int.reduceBEq,cO,dO,i0,i1,KG,ah,jP,zi.2,h0,h1',fz4,qQ _ z1,mJ];rfl
 ·rw[jd];obtain⟨u,v,rfl⟩:=IY (hc.two (by omega));have hs2:=sz2 u v;have i0:=kW (ks:=[u,v]) (b:=b) (j:=0) (u:=u) rfl;have i1:=kW (ks:=[u,v]) (b:=b) (j:=1) (u:=v) rfl;rw[qP] at i0;rw[Q8] at i1;have e0:=kE (j:=1) (u:=v) rfl (by simp[cls]);have h0:=Q9 (o:=o) hl e0 (hat 1 v rfl);have s0:=mG v .top;obtain⟨h1,s1⟩:=kB (j:=0) (u:=u) rfl (by simp[cls]);have h1':=h1 o g l _ hl (hat 0 u rfl) (by omega);have z1:sizes [lI [100,111,32],jd u,lI [32,119,104,105,108,101,32,40],Je v,lI [41]]<=90000000:=by simp only[sizes,gV,Je] at *;omega
  simp only[jY,M.fO,hr,Gf,G7,GL,G8,Ef,Int.reduceBEq,cO,dO,i0,i1,KG,ah,jP,zi.2,h0,h1',fz5,qQ _ z1,mJ];rfl
 ·rw[jd];obtain⟨g',rfl⟩:∃g',g=g'+1:=⟨g - 1,by omega⟩
  obtain⟨u,v,z,q,rfl⟩:=afG (hc.four rfl);have hs4:sizes [u,v,z,q]=u.size+(v.size+(z.size+q.size)):=by simp[sizes]
  have aXY:((3:Nat):Int)=3:=rfl;have i0:=kW (ks:=[u,v,z,q]) (b:=b) (j:=0) (u:=u) rfl;have i1:=kW (ks:=[u,v,z,q]) (b:=b) (j:=1) (u:=v) rfl;have i2:=kW (ks:=[u,v,z,q]) (b:=b) (j:=2) (u:=z) rfl;have i3:=kW (ks:=[u,v,z,q]) (b:=b) (j:=3) (u:=q) rfl;rw[qP] at i0;rw[Q8] at i1;rw[amw] at i2;rw[aXY] at i3;have s1:=NY v;have s2:=NY z;have h1:=akk (o:=o) hl (kE3 (j:=1) (u:=v) rfl (by simp[cls])) (hat 1 v rfl);have h2:=akk (o:=o) hl (kE3 (j:=2) (u:=z) rfl (by simp[cls])) (hat 2 z rfl);obtain⟨h3,s3⟩:=kB (j:=3) (u:=q) rfl (by simp[cls]);have h3':=h3 o g' l _ hl (hat 3 q rfl) (by omega);have hr0:=OI (o:=o) (hat 0 u rfl);rcases kE3 (j:=0) (u:=u) rfl (by simp[cls]) with h0|h0
  ·have n0:(u.kind !=16)=false:=by simp[h0]
   have ha:adu 31 op x y [u,v,z,q] (nX [u,v,z,q])=nV [lI [102,111,114,32,40],lI [],lI [59],OM v,lI [59],OM z,lI [41,32],jd q]:=by simp[adu,Cj,wQ,nX,h0]
   have z1:sizes [lI [102,111,114,32,40],lI [],lI [59],OM v,lI [59],OM z,lI [41,32],jd q]<=90000000:=by simp only[sizes,gV] at *;omega
   rw[ha];simp only[jY,M.fO,hr,Gf,G7,GL,G8,Ef,Int.reduceBEq,cO,dO,M.UF,M.y8,i0,i1,i2,i3,KG,hr0,n0,ah,jP,h1,h2,h3',fz8,qQ _ z1,mJ]
  ·have n0:(u.kind !=16)=true:=by have:=h0.e;unfold Rw at this;simp only[bne_iff_ne];omega
   have n1:(u.kind==16)=false:=by simpa using n0
   have ha:adu 31 op x y [u,v,z,q] (nX [u,v,z,q])=nV [lI [102,111,114,32,40],Ap u ⟨1,false,true,false,false⟩,lI [59],OM v,lI [59],OM z,lI [41,32],jd q]:=by simp[adu,Cj,wQ,nX,n1]
   have s0:=mG u ⟨1,false,true,false,false⟩;have he:=ax9 (o:=o) hl h0 (hat 0 u rfl) (p:=⟨1,false,true,false,false⟩) rfl;have z1:sizes [lI [102,111,114,32,40],Ap u ⟨1,false,true,false,false⟩,lI [59],OM v,lI [59],OM z,lI [41,32],jd q]<=90000000:=by simp only[sizes,gV] at *;omega
   rw[ha];simp only[jY,M.fO,hr,Gf,G7,GL,G8,Ef,Int.reduceBEq,cO,dO,M.UF,M.y8,i0,i1,i2,i3,KG,hr0,n0,he,ah,jP,h1,h2,h3',fz8,qQ _ z1,mJ]
 ·rw[jd];obtain⟨u,rfl⟩:=Xx.1 (hc.one (by omega));have hs1:=Zj u;have i0:=kW (ks:=[u]) (b:=b) (j:=0) (u:=u) rfl;rw[qP] at i0;obtain⟨h1,s1⟩:=kB (j:=0) (u:=u) rfl (by simp[cls]);have h1':=h1 o g l _ hl (hat 0 u rfl) (by omega);have z1:sizes [lI ([102,111,114,32,40]++x++[32,105,110,32]++y++[41,32]),jd u]<=90000000:=by simp only[sizes,gV] at *;omega
  simp(disch:=first|omega|(simp only[uq,mZ,xq];omega)) only[jY,M.fO,hr,Gf,G7,GL,G8,Ef,Int.reduceBEq,cO,dO,i0,KG,ah,jP,h1',fz2,qQ _ z1,mJ,yQ];rfl
 ·have h0:=hbk g (by omega) rfl;simp only[jY,M.fO,hr,Gf,G7,GL,G8,Ef,Int.reduceBEq,cO,dO,ah,h0]
 ·simp only[jY,M.fO,hr,Gf,G7,GL,G8,Ef,Int.reduceBEq,cO,dO,ah,jP];rw[jd];rfl
section
variable {o:Bool} {l:List Nd} {b:Nat} (hl:l.length<=1048576)
include hl
theorem aqm{u:Tn}(h:Bk u)(hh:Lies l b u){f:Nat}(hf:6 * u.size<=f+3):M.gY f (dF o l) false ((b+sizes u.kids:Nat):Int)=some (dE (jd u)):=by have hk:=h.k;exact(aql u h.ok (by constructor<;>omega) h.sm h.sz).2 hk o f l b hl hh hf
theorem ayb{ks:List Tn}(h:∀u,u∈ks->Bk u∨Ex' u)(hat:At l b ks)(hn:ks.length<=1000)(hz:sizes (EM ks true)<=90000000){f:Nat}(hf:6 * sizes ks<=f+3)(k op:Int)(x y:aC):
  M.uo (M.gY f) (dF o l) false k op x y (encI (ends ks b)) some=some (dE (nV (EM ks true))):=by
 have hel:(encI (ends ks b)).length=ks.length:=by rw[dh,gu]
 have hloop:=iV (b:=M.BK (M.gY f) (dF o l) false k op x y (encI (ends ks b))) (t:=((ks.length:Int),(EM ks true).map TK)) (λj=>((j:Int),(EM (ks.take j) true).map TK)) ks.length
  (by
   intro j hj;obtain⟨u,hu'⟩:∃u,ks[j]? =some u:=⟨ks[j],by simp[hj]⟩
   have hi:=kW (b:=b) hu';have hlu:=hat j u hu';have hr:=OI (o:=o) hlu;have hus:=iW (Au hu');have hll:=Yo (ks.take j) true;rw[PE] at hll;have hw:i64.wrap ((j:Int)+1)=((j+1:Nat):Int):=by rw[aJ (by omega) (by omega)];omega
   have he:(ks.take j).isEmpty=decide (j=0):=by
    cases j with
    |zero=>rfl
    |succ j=>cases ks with
     |nil=>simp at hj
     |cons a l=>rfl
   simp only[jY,M.BK,M.vX,hel,hi,hr,KG,Gf,ah];rw[zdt (by omega),cO,jo hu',VT,he,Bool.and_true,List.map_append,aeE];rcases h u (Au hu') with hb|hb
   ·have h1:=aqm (o:=o) hl hb hlu (f:=f) (by omega);rw[hb.keq]
    by_cases h0:j=0
    ·subst h0;simp(disch:=omega) only[cO,dO,jP,h1,ah,List.length_map,uq,mZ,xq,hw,dP];rfl
    ·rw[zdt (show(j:Int)>0 by omega),uw h0];simp(disch:=omega) only[cO,dO,jP,h1,ah,List.length_map,uq,mZ,xq,hw,dP,Gp];rfl
   ·have h1:=Q9 (o:=o) hl hb hlu;rw[hb.kne]
    by_cases h0:j=0
    ·subst h0;simp(disch:=omega) only[cO,dO,jP,zi.2,h1,ah,List.length_map,uq,mZ,xq,hw,dP];rfl
    ·rw[zdt (show(j:Int)>0 by omega),uw h0];simp(disch:=omega) only[cO,dO,jP,zi.2,h1,ah,List.length_map,uq,mZ,xq,hw,dP,Gp];rfl)
  (by simp only[jY,M.BK,M.vX,hel];rw[uw (by omega),dO,List.take_length]) 0 (Nat.zero_le _)
 have zh:M.Fv (M.gY f) (dF o l) false k op x y (encI (ends ks b)) (0,[])=some ((ks.length:Int),(EM ks true).map TK):=hloop;simp only[M.uo,zh,ah,MF,qQ _ hz,mJ,cO]
theorem ayc{ks:List Tn}(ht:∀u,u∈ks->u.text.length<=1048576)(h1:1<=ks.length)(h7:ks.length<=7){v:Tn}(hv:ks[ks.length - 1]? =some v)(hb:Bk v)(hat:At l b ks){f:Nat}(hf:6 * sizes ks<=f+3)(k op:Int){x:aC}(hx:x.length<=1048576)(y:aC):
  M.vY (M.gY f) (dF o l) false k op x y (encI (ends ks b)) some=some (dE (nV [lI (Rk x ks++[32]),jd v])):=by
 have hel:(encI (ends ks b)).length=ks.length:=by rw[dh,gu]
 have hw0:i64.wrap ((ks.length:Int) - 1)=((ks.length - 1:Nat):Int):=by rw[aJ (by omega) (by omega)];omega
 have hvs:=iW (Au hv);have hhead:=amy ht h1 h7 hx;have hmm:∀m:Nat,∀z,z∈(ks.take m).map Tn.text->z.length<=1048576:=by intro m z hz;obtain⟨u,hu,rfl⟩:=List.mem_map.1 hz;exact ht u (List.mem_of_mem_take hu)
 have hjl:∀m:Nat,(EN ((ks.take m).map Tn.text) true).length<=8000000:=by intro m;have h2:=Uf _ true (hmm m);rw[List.length_map,PE] at h2;have h3:(1048576+2) * min m ks.length<=(1048576+2) * 7:=Nat.mul_le_mul_left _ (by omega);omega
 have hloop:=iV (b:=M.DL (M.gY f) ((ks.length - 1:Nat):Int) (dF o l) false k op x y (encI (ends ks b))) (t:=(([102,117,110,99,116,105,111,110,32]++x++[40])++EN ((ks.take (ks.length - 1)).map Tn.text) true,((ks.length - 1:Nat):Int))) (λj=>(([102,117,110,99,116,105,111,110,32]++x++[40])++EN ((ks.take j).map Tn.text) true,(j:Int))) (ks.length - 1)
  (by
   intro j hj;obtain⟨u,hu'⟩:∃u,ks[j]? =some u:=⟨ks[j],by simp[show j<ks.length by omega]⟩
   have hi:=kW (b:=b) hu';have hlu:=hat j u hu';have hr:=OI (o:=o) hlu;have hq:=hjl j;have htu:=ht u (Au hu');have hw:i64.wrap ((j:Int)+1)=((j+1:Nat):Int):=by rw[aJ (by omega) (by omega)];omega
   have he:((ks.take j).map Tn.text).isEmpty=decide (j=0):=by
    cases j with
    |zero=>rfl
    |succ j=>cases ks with
     |nil=>simp at hj
     |cons a l=>rfl
   simp only[M.DL,M.yj,hi,hr,KG,GL,ah,hw];rw[zdt (by omega),cO,jo hu',List.map_append,Ug,List.map_nil,acP,he,Bool.and_true]
   by_cases h0:j=0
   ·subst h0;rw[uw (by omega),dO,dP (by simp only[uq,mZ,xq];omega),cO,zdt rfl,cO,Gp]
   ·rw[zdt (by omega),cO,dP (by simp only[uq,mZ,xq];omega),cO,dP (by simp only[uq,mZ,xq];omega),cO,uw h0,dO];simp only[Gp])
  (by simp only[M.DL,M.yj];rw[uw (by omega),dO]) 0 (Nat.zero_le _)
 have e0:([102,117,110,99,116,105,111,110,32]++x++[40])++EN ((ks.take 0).map Tn.text) true=[102,117,110,99,116,105,111,110,32]++x++[40]:=by rw[List.take_zero];simp[EN]
 rw[e0] at hloop;have zh:M.H7 (M.gY f) ((ks.length - 1:Nat):Int) (dF o l) false k op x y (encI (ends ks b)) ([102,117,110,99,116,105,111,110,32]++x++[40],0)=some (([102,117,110,99,116,105,111,110,32]++x++[40])++EN ((ks.take (ks.length - 1)).map Tn.text) true,((ks.length - 1:Nat):Int)):=hloop;have hi:=kW (b:=b) hv;have hblk:=aqm (o:=o) hl hb (hat _ v hv) (f:=f) (by omega);have hq:=hjl (ks.length - 1);have hbs:=hb.size;have hbz:=hb.sz;have eh:([102,117,110,99,116,105,111,110,32]++x++[40])++EN ((ks.take (ks.length - 1)).map Tn.text) true++[41,32]=Rk x ks++[32]:=by rw[Rk];simp
 have z1:sizes [lI (Rk x ks++[32]),jd v]<=90000000:=by simp only[sizes,gV];omega
 simp only[M.vY,hel,hw0,zh,ah];rw[dP (by omega),cO,dP (by simp only[uq,mZ,xq];omega),cO,dP (by simp only[uq,mZ,xq];omega),cO,eh];simp only[jP,hi,KG,hblk,ah,fz2,qQ _ z1,mJ,cO]
theorem ayd{t:Tn}(hi:It t)(hh:Lies l b t):M.mM (dF o l) false ((b+sizes t.kids:Nat):Int)=some (dE (itemD t)):=by
 have hss:=Xt hi.sm;have hks:=t.wV;have hts:=acQ hi.sm;have hz:=acR hi.ok hi.i hi.sm hi.sz;have htz:=hi.sz;have hr:=OI (o:=o) hh;have hat:At l b t.kids:=by obtain⟨k,op,x,y,ks⟩:=t;exact λj u hj=>Lies.QW hh hj
 have hN:∀{r:au},M.nU (6 * t.size+2) (dF o l) false ((b+sizes t.kids:Nat):Int)=some r->M.mM (dF o l) false ((b+sizes t.kids:Nat):Int)=some r:=λh=>M.ZM h
 rcases VW hi.ok hi.i hi.sm hi.sz with⟨u,hk,hu,hb⟩|⟨hk,hn,hb⟩|⟨hk,h1,h7,u,hu,hn,hb⟩|hk
 ·refine hN ?_;rw[M.JM];unfold itemD;rw[hu] at hat hr⊢;have i0:=kW (ks:=[u]) (b:=b) (j:=0) (u:=u) rfl;rw[qP] at i0;have h2:=hb.size;have h3:=hb.sz;rw[hu,sizes,sizes] at hks;have hblk:=aqm (o:=o) hl hb (hat 0 u rfl) (f:=6 * t.size+1) (by omega);have z1:∀s,sizes [lI s,jd u]<=90000000:=λs=>by simp only[sizes,gV];omega
  have e0:Cj [u] 0=u:=rfl;rcases hk with hk|hk<;>simp only[jY,M.ql,hr,hk,Gf,G7,GL,G8,Ef,Int.reduceBEq,cO,dO,jP,i0,KG,hblk,ah,fz2,qQ _ (z1 _),mJ,e0]
 ·refine hN ?_;have h2:=VU _ true hb;have hru:=ayb (o:=o) hl hb hat (by omega) (by omega) (f:=6 * t.size) (by omega) t.kind t.op t.text t.other;rw[M.JM];unfold itemD;rcases hk with hk|hk<;>rw[hk] at hru<;>simp only[jY,M.ql,hr,hk,Gf,G7,GL,G8,Ef,Int.reduceBEq,cO,dO,M.ZK,hru,ah,Bool.true_or,Bool.or_true]
 ·refine hN ?_;have hfu:=ayc (o:=o) hl (ai9 hss) h1 h7 hu hb hat (f:=6 * t.size) (by omega) t.kind t.op hts t.other;rw[M.JM];unfold itemD;rw[hk] at hfu;simp only[jY,M.ql,hr,hk,Gf,G7,GL,G8,Ef,Int.reduceBEq,cO,dO,M.abK,hfu,ah,Bool.or_false,hn]
 ·have hS:=(aql t hi.ok (by constructor<;>omega) hi.sm hi.sz).1;have h2:=aqk hS (by omega) (o:=o) (f:=6 * t.size+2) hl hh (by omega);have e1:itemD t=jd t:=by unfold itemD;rw[hk];rfl
  rw[e1];exact hN h2
end
def amB{l:List Nd}{o:Bool}(hl:l.length<=1048576)(t:Tn):∀(f b:Nat),Lies l b t->t.size<=f->
  M.jK f (dF o l) ((b+sizes t.kids:Nat):Int)=some (t.kind,t.op,t.text,t.other,fE true t.kids):=by
 refine Tn.ind (P:=λt=>∀(f b:Nat),Lies l b t->t.size<=f->M.jK f (dF o l) ((b+sizes t.kids:Nat):Int)=some (t.kind,t.op,t.text,t.other,fE true t.kids)) ?_ t;intro k op x y ks ih f b h hf;cases f with
 |zero=>rw[Tn.size] at hf;omega
 |succ f=>
  have hroot:l[b+sizes ks]? =some ⟨k,op,x,y,ends ks b⟩:=h.root;have hlt:=h.lt;rw[Tn.size] at hf hlt;have hkl:=lW ks;simp only[jY,M.jK,M.Dj,fQ,nN,Tn.kids,Tn.kind,Tn.op,Tn.text,Tn.other,hroot,Qq,ah,Gf,G7,GL,G8,Ef,dh,gu];have hrec:∀j t,ks[j]? =some t->M.jK f (dF o l) ((b+sizes (ks.take j)+sizes t.kids:Nat):Int)=some (t.kind,t.op,t.text,t.other,fE true t.kids):=λj t hj=>ih t (Au hj) f _ (Lies.QW h hj) (by have:=OG hj;omega)
  have hloop:=iV (b:=M.lD (M.jK f))
   (t:=if ks=[] then .inl (dF o l,encI (ends ks b),(ks.length:Int),0,0,0,[],[],k,op,x,y) else .inr (dF o l,encI (ends ks b),(ks.length:Int),(ks.length:Int),0,0,[],[],k,op,x,y,fE true ks))
   (λj=>if j=0 then .inl (dF o l,encI (ends ks b),(ks.length:Int),0,0,0,[],[],k,op,x,y) else .inr (dF o l,encI (ends ks b),(ks.length:Int),(j:Int),0,0,[],[],k,op,x,y,fE true (ks.take j))) ks.length
   (by
    intro j hj;obtain⟨t,ht⟩:∃t,ks[j]? =some t:=⟨ks[j],by simp⟩
    have hr:=hrec j t ht;have he:=afF (b:=b) ht;rw[if_neg (show¬j+1=0 by omega),aj1 ht,awY]
    by_cases h0:j=0
    ·subst h0;rw[if_pos rfl];have hi:idx (encI (ends ks b)) 0=some [D.int .i64 ((b+sizes (ks.take 0)+sizes t.kids:Nat):Int)]:=by have:=fQ (encI (ends ks b)) 0;rw[qP] at this;rw[this,sH,he];rfl
     simp only[jY,M.lD,M.lC,hi,ah,KG,hr];rw[zdt (by omega),cO];rfl
    ·rw[if_neg h0];simp only[jY,M.lD,M.lC,fQ,sH,he,Qq,ah,KG,hr,gG,PE,OJ];rw[zdt (by omega),cO,dP (by omega),cO,dP (by omega),cO,aJ (by omega) (by omega)];rfl)
   (by
    by_cases h0:ks.length=0
    ·have he:ks=[]:=List.length_eq_zero_iff.1 h0;rw[if_pos h0,if_pos he];simp only[jY,M.lD,M.lC];rw[uw (by omega),dO]
    ·have he:¬ks=[]:=λe=>h0 (by rw[e];rfl)
     rw[if_neg h0,if_neg he,List.take_length];simp only[jY,M.lD,M.lC];rw[uw (by omega),dO]) 0 (Nat.zero_le _)
  rw[if_pos rfl] at hloop;rw[M.EF,hloop,ah]
  by_cases he:ks=[]
  ·rw[if_pos he,he];rfl
  ·rw[if_neg he];rfl
def ajd{l:List Nd}{o:Bool}(hl:l.length<=1048576){t:Tn}{b:Nat}(h:Lies l b t):M.oL (dF o l) ((b+sizes t.kids:Nat):Int)=some (t.kind,t.op,t.text,t.other,fE true t.kids):=
 M.SC (amB hl t t.size b h (Nat.le_refl _))
def amC{t:Tn}{o:Bool}(hl:t.size<=1048576):M.sQ (dF o (t.flat 0))=some (t.kind,t.op,t.text,t.other,fE true t.kids):=by have hs:=t.wV;simp only[M.sQ,M.GR,iE,t.flat_length];have h:=ajd (o:=o) (by rw[t.flat_length];omega) (Lies.whole t);rw[Nat.zero_add] at h;rw[aJ (by omega) (by omega),show(t.size:Int) - 1=((sizes t.kids:Nat):Int) by omega,h,ah]
mutual
def alo:∀(t:Tn) (b:Nat),wD (t.flat b)+1<=4 * t.size
 | .mk k o x y ks,b=>by have h:=aje ks b;rw[Tn.flat,Tn.size,Qn,wD,wD];simp only[gu];omega
def aje:∀(ks:List Tn) (b:Nat),wD (lV ks b)+ks.length<=4 * sizes ks
 |[],_=>by simp[lV,wD,sizes]
 |t::ts,b=>by have h1:=alo t b;have h2:=aje ts (b+t.size);rw[lV,Qn,sizes,mZ];omega
end
def aye{l:List Nd}{n:Nd}(h:n∈l):n.kids.length<=wD l:=by
 induction l with
 |nil=>cases h
 |cons m l ih=>
  rw[wD];rcases List.mem_cons.1 h with rfl|h
  ·omega
  ·have:=ih h;omega
def aeL(r:List Nd):Prop:=wD r<=400000000
def amD:aeL []:=by simp[aeL,wD]
def akl{t:Tn}(h:t.size<=90000000):aeL (t.flat 0):=by have:=alo t 0;unfold aeL;omega
def aqn(t:Tn)(h:t.size<=90000000):M.rW t.kind t.op t.text (mQ false t.kids) 0=some (fD true (t.flat 0)):=by have h1:=aM8 t t.size false [] (Nat.le_refl _) (by simp only[xq];omega);have e0:fD true []=[]:=rfl;rw[e0,List.nil_append,xq] at h1;simp only[M.rW,M.Iq,M.Z5 h1,ah]
def last_at{T:Tn}(hT:T.size<=1048576):i64.wrap (((T.flat 0).length:Int) - 1)=((0+sizes T.kids:Nat):Int):=by have:=T.wV;rw[T.flat_length,aJ (by omega) (by omega)];omega
structure Pr(T:Tn):Prop where
 ok:CJ T
 k:T.kind=45
 sm:Ue T
 sz:T.size<=1048576
def Pr.its{T:Tn}(h:Pr T):∀u,u∈T.kids->It u:=aXW h.ok h.k h.sm h.sz
def acX{T:Tn}(h:Pr T):(Rl T).size<=42000000:=by have h1:=Zl h.its;have h2:=T.wV;have h3:=h.sz;rw[Rl,nM];omega
def ayf{T:Tn}(h:Pr T):M.Ci (fE false T.kids) (T.kids.length:Int) (0,[])=some ((T.kids.length:Int),mQ false (EO T.kids)):=by
 have hks:=T.wV;have hz:=h.sz;obtain⟨ks,hk⟩:∃ks,T.kids=ks:=⟨_,rfl⟩
 have its:=h.its;rw[hk] at its hks⊢;have hkl:=lW ks;exact iV (b:=M.yL (fE false ks) (ks.length:Int)) (t:=((ks.length:Int),mQ false (EO ks))) (λj=>((j:Int),mQ false (EO (ks.take j)))) ks.length
  (by
   intro j hj;obtain⟨u,hu'⟩:∃u,ks[j]? =some u:=⟨ks[j],by simp[hj]⟩
   obtain⟨c0,c1,c2,c3,c4⟩:=jO false u;have hu:=its u (Au hu');have h1:=ax7 hu.ok hu.i hu.sm hu.sz false;have hl:=VX (ks.take j);rw[PE] at hl;have hw:i64.wrap ((j:Int)+1)=((j+1:Nat):Int):=by rw[aJ (by omega) (by omega)];omega
   simp only[jY,M.yL,M.tu,Aq false hu',c0,c1,c2,c3,c4,ah,akg,h1,Gg,Gi,Gj,Gl,Gm,Gn,fJ,uQ,mZ,xq,hw];rw[zdt (by omega),cO,dP (by omega),cO,dP (by omega),cO,jo hu',TG,CB];rfl)
  (by simp only[jY,M.yL,M.tu];rw[uw (by omega),dO,List.take_length]) 0 (Nat.zero_le _)
def ayg{T:Tn}(h:Pr T):M.Ce (dF false (T.flat 0)) (dF false (T.flat 0)) false (0,[])=some ((T.kids.length:Int),(EO T.kids).map TK):=by
 have hks:=T.wV;have hz:=h.sz;have hr:=OI (o:=false) (Lies.whole T);have hen:((dF false (T.flat 0)).length:Int)=((T.flat 0).length:Int):=by rw[iE]
 have hla:=last_at hz;have its:=h.its;have hat:At (T.flat 0) 0 T.kids:=by obtain⟨k,op,x,y,ks⟩:=T;exact λj u hj=>Lies.QW (Lies.whole _) hj
 have hfl:(T.flat 0).length<=1048576:=by rw[T.flat_length];exact hz
 obtain⟨ks,hk⟩:∃ks,T.kids=ks:=⟨_,rfl⟩
 rw[hk] at its hks hla hr hat⊢;have hkl:=lW ks;have hel:(encI (ends ks 0)).length=ks.length:=by rw[dh,gu]
 exact iV (b:=M.yJ (dF false (T.flat 0)) (dF false (T.flat 0)) false) (t:=((ks.length:Int),(EO ks).map TK)) (λj=>((j:Int),(EO (ks.take j)).map TK)) ks.length
  (by
   intro j hj;obtain⟨u,hu'⟩:∃u,ks[j]? =some u:=⟨ks[j],by simp[hj]⟩
   have hi:=kW (b:=0) hu';have h1:=ayd (o:=false) hfl (its u (Au hu')) (hat j u hu');have hl:=VX (ks.take j);rw[PE] at hl;have hw:i64.wrap ((j:Int)+1)=((j+1:Nat):Int):=by rw[aJ (by omega) (by omega)];omega
   simp only[jY,M.yJ,M.tq,hen,hla,hr,Ef,hel,hi,KG,h1,aki,ah,List.length_map,mZ,xq,hw];rw[zdt (by omega),cO,dP (by omega),cO,dP (by omega),cO,jo hu',TG,List.map_append];rfl)
  (by simp only[jY,M.yJ,M.tq,hen,hla,hr,Ef,hel,ah];rw[uw (by omega),dO,List.take_length]) 0 (Nat.zero_le _)
def adC{l:List Nd}(h:Ok l):(M.mY (dF false l)=some (fD true [])∧M.lZ (dF false l)=some (fD true []))∨∃T,Pr T∧M.mY (dF false l)=some (dE (Rl T))∧M.lZ (dF false l)=some (dE (Rl T)):=by
 have a1:=aci l false (by have:=h.len;omega) h.k h.sm;have a2:=acj l false (by have:=h.len;omega) h.k h.sm;simp only[M.mY,M.D8,M.lZ,M.Ea,M.wI,M.FY,M.wJ,M.FZ,a1,a2,ah];cases pa:QV l with
 |false=>exact .inl ⟨rfl,rfl⟩
 |true=>
  obtain⟨T,rfl,hTs⟩:=ajO (afJ pa);have hT:T.size<=1048576:=by have:=h.len;rwa [T.flat_length] at this
  have hok:=aj8 pa h.sm;have hsm:=(alg T 0).2 h.sm;have hr:=OI (o:=false) (Lies.whole T);have hen:((dF false (T.flat 0)).length:Int)=((T.flat 0).length:Int):=by rw[iE]
  have hb:=amC (t:=T) (o:=false) hT;simp only[cO,hen,last_at hT,hr,ah,Gf]
  by_cases hk:T.kind=45
  ·have hP:Pr T:=⟨hok,hk,hsm,hT⟩
   have e1:(T.kind==45)=true:=by rw[hk];rfl
   have hs:=acX hP;have h1:=ayf hP;have h2:=ayg hP;have h3:=aqn (Rl T) (by omega);have hz:sizes (EO T.kids)<=90000000:=by rw[Rl,nM] at hs;omega
   refine .inr ⟨T,hP, ?_, ?_⟩
   ·simp only[e1,Bool.not_true,dO,h2,ah,MF,qQ _ hz,mJ,cO];rfl
   ·simp only[e1,Bool.not_true,dO,hb,abq,gG,h1,ah,ai7,Gg,Gi,Gj,Gl,Gm,Gn];exact(by rw[h3];rfl:(M.rW (Rl T).kind (Rl T).op (Rl T).text (mQ false (Rl T).kids) 0).bind (λr=>some r)=some (dE (Rl T)))
  ·have e1:(T.kind==45)=false:=by rw[VZ];exact hk
   simp only[e1];exact .inl ⟨rfl,rfl⟩
def Z9{l:List Nd}(h:Ok l):∃r,aeL r∧M.mY (dF false l)=some (fD true r)∧M.lZ (dF false l)=some (fD true r):=by
 rcases adC h with h1|⟨T,hP,h1⟩
 ·exact⟨[],amD,h1⟩
 ·have:=acX hP;exact⟨(Rl T).flat 0,akl (by omega),h1⟩
def acY(l:List Nd)(hl:l.length<=maxLen)(hf:∀n,n∈l->Fit n):M.lN (dF false l)=some true:=by
 simp only[M.lN,M.rZ];rw[ajX l false 1048576 (by omega) (by omega) hl hf,ah]
 by_cases hs:(l.length+wNs l:Int)<=1048576
 ·rw[if_pos hs,uw (by omega),dO];have hkk:∀n,n∈l->n.kids.length<=1048576:=by intro n hn;have h1:=ak3 hn;have h2:wN n=n.text.length+n.other.length+n.kids.length:=rfl;omega
  have ol:Ok l:=aM7 hs hf (by omega) hkk;obtain⟨r,hr,h1,h2⟩:=Z9 ol;unfold aeL at hr;have a1:=ajY l false ol.len ol.k;have hrl:=afL r;have a3:=adw r false false (by unfold maxLen;omega) (λn hn=>by have:=aye hn;unfold maxLen;omega);have a4:=afy l false false hl (λn hn=>(hf n hn).kids);have a6:=afI 1 l (by omega) (by have:=ol.w;omega);have a8:=adx 1 r (by omega) (by omega);have a9:=ady 1 r (by omega) (by omega);rw[acC] at a9;have d1:decide ((1:Int)+(wK l:Int)<0)=false:=uw (by omega);have d2:decide ((1:Int)+(wD r:Int)<0)=false:=uw (by omega);simp only[a1,anB,h1,h2,acC,a3,a4,a6,a8,a9,d1,d2,ah,aeA,cO,dO,Bool.not_true,bne_self_eq_false]
 ·rw[if_neg hs];rfl
end Go.Proofs.YtbpldgeajbfgnaaGreatDoor
namespace Go.Proofs
open Go.Shelf
open Go.IntKind (i64)
def Tryz.lays156_ren:Go.Shelf.Ren:=⟨fun|156=>142|165=>178|166=>179|169=>180|240=>216|241=>217|276=>243|277=>244|n=>n,fun|31=>71|9=>9|3=>3|4=>4|0=>0|20=>20|72=>158|76=>161|70=>156|37=>91|75=>160|127=>184|164=>199|5=>5|80=>163|n=>n,fun|n=>n⟩
def Tryz.lays156:Go.Proofs.Lays.n156 Tryz.prog Tryz.lays156_ren:={
 mixed:=by kernel_rfl
 f156:=Tryz.func142.trans (congrArg some (by kernel_rfl))
 f165:=Tryz.func178.trans (congrArg some (by kernel_rfl))
 f166:=Tryz.func179.trans (congrArg some (by kernel_rfl))
 f169:=Tryz.func180.trans (congrArg some (by kernel_rfl))
 f240:=Tryz.func216.trans (congrArg some (by kernel_rfl))
 f241:=Tryz.func217.trans (congrArg some (by kernel_rfl))
 f276:=Tryz.func243.trans (congrArg some (by kernel_rfl))
 f277:=Tryz.func244.trans (congrArg some (by kernel_rfl))
 t0:=Tryz.underlying0
 a0:=Tryz.isAgg0
 z0:=Tryz.sizeOf0
 v0:=Tryz.zeroValue0
 t3:=Tryz.underlying3
 a3:=Tryz.isAgg3
 z3:=Tryz.sizeOf3
 v3:=Tryz.zeroValue3
 t4:=Tryz.underlying4
 a4:=Tryz.isAgg4
 z4:=Tryz.sizeOf4
 v4:=Tryz.zeroValue4
 t9:=Tryz.underlying9
 a9:=Tryz.isAgg9
 z9:=Tryz.sizeOf9
 v9:=Tryz.zeroValue9
 t20:=Tryz.underlying20
 a20:=Tryz.isAgg20
 z20:=Tryz.sizeOf20
 v20:=Tryz.zeroValue20
 t31:=Tryz.underlying71
 a31:=Tryz.isAgg71
 z31:=Tryz.sizeOf71
 v31:=Tryz.zeroValue71
 t37:=Tryz.underlying91
 a37:=Tryz.isAgg91
 z37:=Tryz.sizeOf91
 v37:=Tryz.zeroValue91
 t70:=Tryz.underlying156
 a70:=Tryz.isAgg156
 z70:=Tryz.sizeOf156
 v70:=Tryz.zeroValue156
 t72:=Tryz.underlying158
 a72:=Tryz.isAgg158
 z72:=Tryz.sizeOf158
 v72:=Tryz.zeroValue158
 t75:=Tryz.underlying160
 a75:=Tryz.isAgg160
 z75:=Tryz.sizeOf160
 v75:=Tryz.zeroValue160
 t76:=Tryz.underlying161
 a76:=Tryz.isAgg161
 z76:=Tryz.sizeOf161
 v76:=Tryz.zeroValue161
 t127:=Tryz.underlying184
 a127:=Tryz.isAgg184
 z127:=Tryz.sizeOf184
 v127:=Tryz.zeroValue184
 t164:=Tryz.underlying199
 a164:=Tryz.isAgg199
 z164:=Tryz.sizeOf199
 v164:=Tryz.zeroValue199}
def Tryz.lays144_ren:Go.Shelf.Ren:=⟨fun|144=>202|143=>183|219=>221|217=>246|225=>247|224=>248|267=>249|266=>258|314=>259|n=>n,fun|9=>9|4=>4|3=>3|5=>5|46=>193|146=>203|51=>202|n=>n,fun|1=>3|n=>n⟩
def Tryz.lays144:Go.Proofs.Lays.n144 Tryz.prog Tryz.lays144_ren:={
 mixed:=by kernel_rfl
 f143:=Tryz.func183.trans (congrArg some (by kernel_rfl))
 f144:=Tryz.func202.trans (congrArg some (by kernel_rfl))
 f217:=Tryz.func246.trans (congrArg some (by kernel_rfl))
 f219:=Tryz.func221.trans (congrArg some (by kernel_rfl))
 f224:=Tryz.func248.trans (congrArg some (by kernel_rfl))
 f225:=Tryz.func247.trans (congrArg some (by kernel_rfl))
 f266:=Tryz.func258.trans (congrArg some (by kernel_rfl))
 f267:=Tryz.func249.trans (congrArg some (by kernel_rfl))
 f314:=Tryz.func259.trans (congrArg some (by kernel_rfl))
 t3:=Tryz.underlying3
 a3:=Tryz.isAgg3
 z3:=Tryz.sizeOf3
 v3:=Tryz.zeroValue3
 t4:=Tryz.underlying4
 a4:=Tryz.isAgg4
 z4:=Tryz.sizeOf4
 v4:=Tryz.zeroValue4
 t5:=Tryz.underlying5
 a5:=Tryz.isAgg5
 z5:=Tryz.sizeOf5
 v5:=Tryz.zeroValue5
 t9:=Tryz.underlying9
 a9:=Tryz.isAgg9
 z9:=Tryz.sizeOf9
 v9:=Tryz.zeroValue9
 t46:=Tryz.underlying193
 a46:=Tryz.isAgg193
 z46:=Tryz.sizeOf193
 v46:=Tryz.zeroValue193
 t51:=Tryz.underlying202
 a51:=Tryz.isAgg202
 z51:=Tryz.sizeOf202
 v51:=Tryz.zeroValue202
 t146:=Tryz.underlying203
 a146:=Tryz.isAgg203
 z146:=Tryz.sizeOf203
 v146:=Tryz.zeroValue203
 g1:=by kernel_rfl}
def Tryz.lays146_ren:Go.Shelf.Ren:=⟨fun|146=>103|221=>143|268=>181|138=>182|143=>183|195=>218|197=>219|218=>220|219=>221|260=>245|217=>246|225=>247|224=>248|267=>249|266=>258|314=>259|n=>n,fun|9=>9|31=>71|3=>3|4=>4|0=>0|105=>185|21=>21|5=>5|46=>193|119=>213|139=>216|138=>215|146=>203|51=>202|n=>n,fun|1=>3|3=>4|4=>5|n=>n⟩
def Tryz.lays146:Go.Proofs.Lays.n146 Tryz.prog Tryz.lays146_ren:={
 mixed:=by kernel_rfl
 f138:=Tryz.func182.trans (congrArg some (by kernel_rfl))
 f143:=Tryz.func183.trans (congrArg some (by kernel_rfl))
 f146:=Tryz.func103.trans (congrArg some (by kernel_rfl))
 f195:=Tryz.func218.trans (congrArg some (by kernel_rfl))
 f197:=Tryz.func219.trans (congrArg some (by kernel_rfl))
 f217:=Tryz.func246.trans (congrArg some (by kernel_rfl))
 f218:=Tryz.func220.trans (congrArg some (by kernel_rfl))
 f219:=Tryz.func221.trans (congrArg some (by kernel_rfl))
 f221:=Tryz.func143.trans (congrArg some (by kernel_rfl))
 f224:=Tryz.func248.trans (congrArg some (by kernel_rfl))
 f225:=Tryz.func247.trans (congrArg some (by kernel_rfl))
 f260:=Tryz.func245.trans (congrArg some (by kernel_rfl))
 f266:=Tryz.func258.trans (congrArg some (by kernel_rfl))
 f267:=Tryz.func249.trans (congrArg some (by kernel_rfl))
 f268:=Tryz.func181.trans (congrArg some (by kernel_rfl))
 f314:=Tryz.func259.trans (congrArg some (by kernel_rfl))
 t0:=Tryz.underlying0
 a0:=Tryz.isAgg0
 z0:=Tryz.sizeOf0
 v0:=Tryz.zeroValue0
 t3:=Tryz.underlying3
 a3:=Tryz.isAgg3
 z3:=Tryz.sizeOf3
 v3:=Tryz.zeroValue3
 t4:=Tryz.underlying4
 a4:=Tryz.isAgg4
 z4:=Tryz.sizeOf4
 v4:=Tryz.zeroValue4
 t5:=Tryz.underlying5
 a5:=Tryz.isAgg5
 z5:=Tryz.sizeOf5
 v5:=Tryz.zeroValue5
 t9:=Tryz.underlying9
 a9:=Tryz.isAgg9
 z9:=Tryz.sizeOf9
 v9:=Tryz.zeroValue9
 t21:=Tryz.underlying21
 a21:=Tryz.isAgg21
 z21:=Tryz.sizeOf21
 v21:=Tryz.zeroValue21
 t31:=Tryz.underlying71
 a31:=Tryz.isAgg71
 z31:=Tryz.sizeOf71
 v31:=Tryz.zeroValue71
 t46:=Tryz.underlying193
 a46:=Tryz.isAgg193
 z46:=Tryz.sizeOf193
 v46:=Tryz.zeroValue193
 t51:=Tryz.underlying202
 a51:=Tryz.isAgg202
 z51:=Tryz.sizeOf202
 v51:=Tryz.zeroValue202
 t105:=Tryz.underlying185
 a105:=Tryz.isAgg185
 z105:=Tryz.sizeOf185
 v105:=Tryz.zeroValue185
 t119:=Tryz.underlying213
 a119:=Tryz.isAgg213
 z119:=Tryz.sizeOf213
 t138:=Tryz.underlying215
 a138:=Tryz.isAgg215
 z138:=Tryz.sizeOf215
 v138:=Tryz.zeroValue215
 t139:=Tryz.underlying216
 a139:=Tryz.isAgg216
 z139:=Tryz.sizeOf216
 v139:=Tryz.zeroValue216
 t146:=Tryz.underlying203
 a146:=Tryz.isAgg203
 z146:=Tryz.sizeOf203
 v146:=Tryz.zeroValue203
 g1:=by kernel_rfl
 g3:=by kernel_rfl
 g4:=by kernel_rfl}
def Tryz.lays105_ren:Go.Shelf.Ren:=⟨fun|105=>207|212=>236|99=>237|165=>178|166=>179|170=>238|169=>180|263=>251|264=>252|206=>253|240=>216|241=>217|276=>243|277=>244|n=>n,fun|9=>9|3=>3|4=>4|20=>20|0=>0|46=>193|109=>194|5=>5|72=>158|76=>161|51=>202|146=>203|53=>205|148=>206|70=>156|37=>91|75=>160|127=>184|164=>199|80=>163|n=>n,fun|n=>n⟩
def Tryz.lays105:Go.Proofs.Lays.n105 Tryz.prog Tryz.lays105_ren:={
 mixed:=by kernel_rfl
 f99:=Tryz.func237.trans (congrArg some (by kernel_rfl))
 f105:=Tryz.func207.trans (congrArg some (by kernel_rfl))
 f165:=Tryz.func178.trans (congrArg some (by kernel_rfl))
 f166:=Tryz.func179.trans (congrArg some (by kernel_rfl))
 f169:=Tryz.func180.trans (congrArg some (by kernel_rfl))
 f170:=Tryz.func238.trans (congrArg some (by kernel_rfl))
 f206:=Tryz.func253.trans (congrArg some (by kernel_rfl))
 f212:=Tryz.func236.trans (congrArg some (by kernel_rfl))
 f240:=Tryz.func216.trans (congrArg some (by kernel_rfl))
 f241:=Tryz.func217.trans (congrArg some (by kernel_rfl))
 f263:=Tryz.func251.trans (congrArg some (by kernel_rfl))
 f264:=Tryz.func252.trans (congrArg some (by kernel_rfl))
 f276:=Tryz.func243.trans (congrArg some (by kernel_rfl))
 f277:=Tryz.func244.trans (congrArg some (by kernel_rfl))
 t0:=Tryz.underlying0
 a0:=Tryz.isAgg0
 z0:=Tryz.sizeOf0
 v0:=Tryz.zeroValue0
 t3:=Tryz.underlying3
 a3:=Tryz.isAgg3
 z3:=Tryz.sizeOf3
 v3:=Tryz.zeroValue3
 t4:=Tryz.underlying4
 a4:=Tryz.isAgg4
 z4:=Tryz.sizeOf4
 v4:=Tryz.zeroValue4
 t5:=Tryz.underlying5
 a5:=Tryz.isAgg5
 z5:=Tryz.sizeOf5
 v5:=Tryz.zeroValue5
 t9:=Tryz.underlying9
 a9:=Tryz.isAgg9
 z9:=Tryz.sizeOf9
 v9:=Tryz.zeroValue9
 t20:=Tryz.underlying20
 a20:=Tryz.isAgg20
 z20:=Tryz.sizeOf20
 v20:=Tryz.zeroValue20
 t37:=Tryz.underlying91
 a37:=Tryz.isAgg91
 z37:=Tryz.sizeOf91
 v37:=Tryz.zeroValue91
 t46:=Tryz.underlying193
 a46:=Tryz.isAgg193
 z46:=Tryz.sizeOf193
 v46:=Tryz.zeroValue193
 t51:=Tryz.underlying202
 a51:=Tryz.isAgg202
 z51:=Tryz.sizeOf202
 v51:=Tryz.zeroValue202
 t53:=Tryz.underlying205
 a53:=Tryz.isAgg205
 z53:=Tryz.sizeOf205
 v53:=Tryz.zeroValue205
 t70:=Tryz.underlying156
 a70:=Tryz.isAgg156
 z70:=Tryz.sizeOf156
 v70:=Tryz.zeroValue156
 t72:=Tryz.underlying158
 a72:=Tryz.isAgg158
 z72:=Tryz.sizeOf158
 v72:=Tryz.zeroValue158
 t75:=Tryz.underlying160
 a75:=Tryz.isAgg160
 z75:=Tryz.sizeOf160
 v75:=Tryz.zeroValue160
 t76:=Tryz.underlying161
 a76:=Tryz.isAgg161
 z76:=Tryz.sizeOf161
 v76:=Tryz.zeroValue161
 t109:=Tryz.underlying194
 a109:=Tryz.isAgg194
 z109:=Tryz.sizeOf194
 v109:=Tryz.zeroValue194
 t127:=Tryz.underlying184
 a127:=Tryz.isAgg184
 z127:=Tryz.sizeOf184
 v127:=Tryz.zeroValue184
 t146:=Tryz.underlying203
 a146:=Tryz.isAgg203
 z146:=Tryz.sizeOf203
 v146:=Tryz.zeroValue203
 t148:=Tryz.underlying206
 a148:=Tryz.isAgg206
 z148:=Tryz.sizeOf206
 v148:=Tryz.zeroValue206
 t164:=Tryz.underlying199
 a164:=Tryz.isAgg199
 z164:=Tryz.sizeOf199
 v164:=Tryz.zeroValue199}
def Tryz.Builder_Extra_156:Builder.Extra Tryz.prog Tryz.lays156_ren:={
 sizeBuilder:=by kernel_rfl
 liesBuilder:=by kernel_rfl
 t5:=Tryz.underlying5
 a5:=Tryz.isAgg5
 z5:=Tryz.sizeOf5
 v5:=Tryz.zeroValue5
 infoByte:=by kernel_rfl
 cellsByte:=by kernel_rfl
 sizeByte:=by kernel_rfl
 neB5:=by decide}
open Go.RowKit in
open Go.IntKind (i64)
def Tryz.strings_Join_none(a:Option Addr)(c:Nat)(sep:ByteArray)(w:World):
  Calls Tryz.prog 142 #[.slice a 0 c,.string sep] w λe w'=>e=.returned (.string ⟨#[]⟩)∧w'=w:=Any.strings_Join_none Tryz.lays156 Tryz.Builder_Extra_156 a c sep w
open Go.RowKit in
open Go.IntKind (i64)
def Tryz.strings_Join(bk o c:Nat)(xs:List ByteArray)(sep:ByteArray)(w:World)(hcells:∀(j:Nat) x,xs[j]? =some x->w.cell? ⟨bk,o+j,none⟩=some (.string x))(hbk:bk<w.heap.size)(hN:xs.length<=140737488355328)(hcap:xs.length<=c)(hlen:(Lib.join (xs.map (·.data.toList)) sep.data.toList).length<=140737488355328):
  Calls Tryz.prog 142 #[.slice (some ⟨bk,o,none⟩) xs.length c,.string sep] w λe w'=>e=.returned (.string ⟨(Lib.join (xs.map (·.data.toList)) sep.data.toList).toArray⟩)∧Go.RowKit.Below w.heap.size w w':=Any.strings_Join Tryz.lays156 Tryz.Builder_Extra_156 bk o c xs sep w hcells hbk hN hcap hlen
open Go.RowKit Go.Lib in
open Go.IntKind (i64)
def Tryz.strings_Contains_one(s:ByteArray)(c:UInt8)(w:World):
  Calls Tryz.prog 202 #[.string s,.string ⟨#[c]⟩] w λe w'=>e=.returned (.bool (decide (0<=Lib.indexByte s.data.toList c)))∧w'=w:=Any.strings_Contains_one Tryz.lays144 s c w
open Go.RowKit Go.Lib in
open Go.IntKind (i64)
def Tryz.strings_Split(s sep:ByteArray)(m:Int)(w:World)(hs:s.size<4294967281)(hm:w.cell? ⟨3,0,none⟩=some (.int .i64 m))(h1:1<=sep.size):
  Calls Tryz.prog 103 #[.string s,.string sep] w λe w'=>e=.returned (.slice (some ⟨w.heap.size,0,none⟩) (Lib.countB s sep+1) (Lib.countB s sep+1))∧w'=w.alloc (.cells ((Lib.splitB sep 0 (Lib.countB s sep) s).map Value.string).toArray 9):=Any.strings_Split Tryz.lays146 (by kernel_rfl) s sep m w hs hm h1
def Tryz.Builder_Extra_105:Builder.Extra Tryz.prog Tryz.lays105_ren:={
 sizeBuilder:=by kernel_rfl
 liesBuilder:=by kernel_rfl
 t5:=Tryz.underlying5
 a5:=Tryz.isAgg5
 z5:=Tryz.sizeOf5
 v5:=Tryz.zeroValue5
 infoByte:=by kernel_rfl
 cellsByte:=by kernel_rfl
 sizeByte:=by kernel_rfl
 neB5:=by decide}
open Go.RowKit Go.Lib in
open Go.IntKind (i64)
def Tryz.strings_Repeat(s:ByteArray)(c:Nat)(w:World)(hc:c<=9223372036854775807)(hlen:s.size * c<=140737488355328):
  Calls Tryz.prog 207 #[.string s,.int .i64 c] w λe w'=>e=.returned (.string ⟨(Lib.repeatL s.data.toList c).toArray⟩)∧Go.RowKit.Below w.heap.size w w':=Any.strings_Repeat Tryz.lays105 Tryz.Builder_Extra_105 s c w hc hlen
end Go.Proofs
namespace Go.Proofs.YtbpldgeajbfgnaaGreatDoor
set_option linter.unusedVariables false
set_option linter.unusedSimpArgs false
open Go Go.Vm
open Go.IntKind (i64)
def aac{X:Ctx}(hP:X.P=Tryz.prog)(hm:∀i,i<2->Bh X.Jc 202 i=0)(fn:Func)(args:List V)(cells:List Cell)(rows:au)(outs:List Cell)(hf:X.P.funcs[202]? =some fn)(h:Prim.strings_Contains args cells=some (rows,outs))
  (base:Nat) (U:Nat->Prop) (w:World) (gargs jv:List Value) (N1 N2:List Nat) (hG:Given X base U w 202 args cells gargs jv N1 N2):
  Calls X.P 202 gargs.toArray w λe w'=>∃gs M1 M2,e=.returned (Vj gs)∧Did X.P U w w' (N1++N2) fn.resultTypes.toList cells outs jv rows gs M1 M2:=by
 unfold Prim.strings_Contains at h;split at h
 ·rename_i s t;unfold M.strings_Contains at h;split at h
  ·rename_i c;cases h;obtain⟨rfl,rfl,rfl,hs⟩:=WS hG hm;rw[abn hs];rw[hP] at hf⊢;have hfn:fn.resultTypes.toList=[4]:=by rw[Tryz.func202] at hf;cases hf;rfl
   refine(Tryz.strings_Contains_one ⟨⟨s⟩⟩ c w).mono ?_;rintro e w' ⟨rfl,rfl⟩;rw[hfn];exact⟨[_],[],[],rfl,QK (by kernel_rfl) (λ_ _=>⟨rfl,rfl⟩) (Keep.refl _ _)⟩
  ·cases h
 ·cases h
def afZ{X:Ctx}(hP:X.P=Tryz.prog)(hm:∀i,i<2->Bh X.Jc 103 i=0)(hI:X.ayo 3=true)(fn:Func)(args:List V)(cells:List Cell)(rows:au)(outs:List Cell)(hf:X.P.funcs[103]? =some fn)(h:Prim.strings_Split args cells=some (rows,outs))
  (base:Nat) (U:Nat->Prop) (w:World) (gargs jv:List Value) (N1 N2:List Nat) (hG:Given X base U w 103 args cells gargs jv N1 N2):
  Calls X.P 103 gargs.toArray w λe w'=>∃gs M1 M2,e=.returned (Vj gs)∧Did X.P U w w' (N1++N2) fn.resultTypes.toList cells outs jv rows gs M1 M2:=by
 unfold Prim.strings_Split at h;split at h
 ·rename_i s t;unfold M.strings_Split at h;cases hc:(Nat.blt s.length 4294967281 && Nat.ble 1 t.length) with
  |false=>rw[hc] at h;cases h
  |true=>
   rw[hc] at h;cases h;rw[GH] at hc;obtain⟨rfl,rfl,rfl,hs⟩:=WS hG hm;rw[abn hs];obtain⟨m,hmx⟩:=hG.gl.int 3 hI;have hmx:=(NU hmx).2.2;have hU:=hG.up;rw[hP] at hf⊢;obtain⟨T,hfn,hT⟩:∃T,fn.resultTypes.toList=[T]∧Gq Tryz.prog T=false:=by rw[Tryz.func103] at hf;cases hf;exact⟨_,rfl,by kernel_rfl⟩
   have h1:1<=t.length:=Nat.le_of_ble_eq_true hc.2;have h2:s.length<4294967281:=by have:=hc.1;rw[Nat.blt_eq] at this;exact this
   have hlen:=Lib.splitB_all ⟨⟨t⟩⟩ h1 0 _ ⟨⟨s⟩⟩ rfl;have e1:(abx s t).length=Lib.countB ⟨⟨s⟩⟩ ⟨⟨t⟩⟩+1:=by rw[abx,List.length_map,hlen]
   have e2:(Lib.splitB ⟨⟨t⟩⟩ 0 (Lib.countB ⟨⟨s⟩⟩ ⟨⟨t⟩⟩) ⟨⟨s⟩⟩).map Value.string=(abx s t).map λx=>Value.string ⟨⟨x⟩⟩:=by rw[abx,List.map_map];rfl
   refine(Tryz.strings_Split ⟨⟨s⟩⟩ ⟨⟨t⟩⟩ m w h2 hmx h1).mono ?_;rintro e w' ⟨rfl,rfl⟩;rw[hfn,<-e1,e2];exact⟨[_],[],[_],rfl,anD (by intro e;rw[e] at e1;simp at e1) hT hU⟩
 ·cases h
def cell_lt{w:World}{a:Addr}{v:Value}(h:w.cell? a=some v):a.block<w.heap.size:=by
 unfold World.cell? at h;cases hq:w.heap[a.block]? with
 |none=>rw[hq] at h;simp at h
 |some x=>exact(Array.getElem?_eq_some_iff.1 hq).1
def acZ{w w':World}(h:Go.RowKit.Below w.heap.size w w'):Keep [] w w':=⟨h.os,h.tape,h.output,h.size,λb hb _=>h.block b hb⟩
def ac0(s:aC):∀n,Lib.repeatL s n=(List.replicate n s).flatten
 |0=>rfl
 |n+1=>by rw[Lib.repeatL,ac0 s n,List.replicate_succ,List.flatten_cons]
def adD{X:Ctx}(hP:X.P=Tryz.prog)(hm:∀i,i<2->Bh X.Jc 207 i=0)(fn:Func)(args:List V)(cells:List Cell)(rows:au)(outs:List Cell)(hf:X.P.funcs[207]? =some fn)(h:Prim.strings_Repeat args cells=some (rows,outs))
  (base:Nat) (U:Nat->Prop) (w:World) (gargs jv:List Value) (N1 N2:List Nat) (hG:Given X base U w 207 args cells gargs jv N1 N2):
  Calls X.P 207 gargs.toArray w λe w'=>∃gs M1 M2,e=.returned (Vj gs)∧Did X.P U w w' (N1++N2) fn.resultTypes.toList cells outs jv rows gs M1 M2:=by
 unfold Prim.strings_Repeat at h;split at h
 ·rename_i s n;unfold M.strings_Repeat at h;cases hc:((decide (0<=n) && decide (n<=1000000)) && Nat.ble s.length 1000000) with
  |false=>rw[hc] at h;cases h
  |true=>
   rw[hc] at h;cases h;simp only[GH,decide_eq_true_eq,Nat.ble_eq] at hc;obtain⟨⟨h0,h1⟩,h2⟩:=hc;obtain⟨c,rfl⟩:=Int.eq_ofNat_of_zero_le h0;obtain⟨rfl,rfl,rfl,hs⟩:=WS hG hm;have hg:gargs=[.string ⟨⟨s⟩⟩,.int .i64 (c:Int)]:=by simp only[dM,aZ,ro] at hs;obtain⟨g,gs,rfl,rfl,g',gs',rfl,rfl,rfl⟩:=hs;rfl
   rw[hg];rw[hP] at hf⊢;have hfn:fn.resultTypes.toList=[9]:=by rw[Tryz.func207] at hf;cases hf;rfl
   have hlen:(⟨⟨s⟩⟩:ByteArray).size * c<=140737488355328:=by show s.length * c<=_;have:s.length * c<=1000000 * 1000000:=Nat.mul_le_mul h2 (by omega);omega
   refine(Tryz.strings_Repeat ⟨⟨s⟩⟩ c w (by omega) hlen).mono ?_;rintro e w' ⟨rfl,hb⟩;rw[hfn];refine⟨[_],[],[],rfl,QK (by kernel_rfl) (λ_ _=>⟨?_,rfl⟩) (acZ hb)⟩;show Value.string ⟨(Lib.repeatL s c).toArray⟩=.string ⟨⟨_⟩⟩;rw[ac0];rfl
 ·cases h
def Zm{h:View}:∀{rows:au} {l:List (aC)} {b o:Nat},ajU rows=some l->ng h 1 rows b o->rows.length=l.length∧∀j x,l[j]? =some x->h b (o+j)=some (.string ⟨⟨x⟩⟩)
 |[],_,b,o,e,_=>by cases e;exact⟨rfl,λj x h=>by simp at h⟩
 |r::rs,l,b,o,e,q=>by
  simp only[ajU] at e;split at e
  ·rename_i y;cases hd:ajU rs with
   |none=>rw[hd] at e;cases e
   |some l'=>
    rw[hd] at e;cases e;simp only[ng,uT] at q;obtain⟨_,⟨⟨v,hv,hvv⟩,_⟩,q⟩:=q;simp only[ro] at hvv;subst hvv;obtain⟨e1,e2⟩:=Zm hd q;refine⟨by simp[e1],λj x hj=> ?_⟩;cases j with
    |zero=>simp at hj;subst hj;exact hv
    |succ j=>have:=e2 j x (by simpa using hj);rw[show o+(j+1)=o+1+j by omega];exact this
  ·cases e
def ac1(sep:aC):∀l,joinL sep l=Lib.join l sep
 |[]=>rfl
 |[x]=>by rw[Lib.join_one];rfl
 |x::y::l=>by rw[joinL,ac1 sep (y::l)];simp[Lib.join,List.intercalate,List.intersperse]
def aeM(sep:aC):∀l,(joinL sep l).length<=agF l+l.length * sep.length
 |[]=>by simp[joinL]
 |[x]=>by simp only[joinL,agF];omega
 |x::y::l=>by have:=aeM sep (y::l);simp only[joinL,agF,uq,mZ] at *;rw[Nat.add_mul (l.length+1) 1];omega
def ajf{X:Ctx}(hP:X.P=Tryz.prog)(hm:∀i,i<2->Bh X.Jc 142 i=0)(fn:Func)(args:List V)(cells:List Cell)(rows:au)(outs:List Cell)(hf:X.P.funcs[142]? =some fn)(h:Prim.strings_Join args cells=some (rows,outs))
  (base:Nat) (U:Nat->Prop) (w:World) (gargs jv:List Value) (N1 N2:List Nat) (hG:Given X base U w 142 args cells gargs jv N1 N2):
  Calls X.P 142 gargs.toArray w λe w'=>∃gs M1 M2,e=.returned (Vj gs)∧Did X.P U w w' (N1++N2) fn.resultTypes.toList cells outs jv rows gs M1 M2:=by
 unfold Prim.strings_Join at h;split at h
 ·rename_i rws s;unfold M.strings_Join at h;split at h
  ·rename_i l hl;cases hc:Nat.ble (agF l+l.length * (s.length+1)) 4294967296 with
   |false=>rw[hc] at h;cases h
   |true=>
    rw[hc] at h;cases h;rw[Nat.ble_eq] at hc;obtain⟨rfl,rfl,rfl,hs⟩:=WS hG hm;simp only[dM,aZ,ro] at hs;obtain⟨g,gs,rfl,⟨a,cap,rfl,hcap,hrow⟩,g',gs',rfl,rfl,rfl⟩:=hs;rw[hP] at hf⊢;have hfn:fn.resultTypes.toList=[9]:=by rw[Tryz.func142] at hf;cases hf;rfl
    rw[hfn];cases rws with
    |nil=>cases hl;refine(Tryz.strings_Join_none a cap ⟨⟨s⟩⟩ w).mono ?_;rintro e w' ⟨rfl,rfl⟩;exact⟨[_],[],[],rfl,QK (by kernel_rfl) (λ_ _=>⟨rfl,rfl⟩) (Keep.refl _ _)⟩
    |cons r rs=>
     obtain⟨b,o,rfl,hr⟩:=hrow (by simp);obtain⟨e1,e2⟩:=Zm hl hr;have hbs:b<w.heap.size:=by
      have h0:∃x,l[0]? =some x:=by
       cases l with
       |nil=>simp at e1
       |cons x l=>exact⟨x,rfl⟩
      obtain⟨x,hx⟩:=h0;have:=(NU (e2 0 x hx)).2.2;exact cell_lt this
     have hlen:=aeM s l;have hmap:(l.map λx=>(⟨⟨x⟩⟩:ByteArray)).map (·.data.toList)=l:=by rw[List.map_map];exact List.map_id' l
     have ll:l.length<=140737488355328:=by rw[Nat.mul_add,Nat.mul_one] at hc;omega
     have C:=Tryz.strings_Join b o cap (l.map λx=>(⟨⟨x⟩⟩:ByteArray)) ⟨⟨s⟩⟩ w
      (λj x hj=>by
       rw[List.getElem?_map] at hj;cases hq:l[j]? with
       |none=>rw[hq] at hj;cases hj
       |some y=>rw[hq] at hj;cases hj;exact(NU (e2 j y hq)).2.2)
      hbs (by rw[List.length_map];exact ll) (by rw[List.length_map,<-e1];exact hcap)
      (by rw[hmap,<-ac1];show(joinL s l).length<=_;rw[Nat.mul_add,Nat.mul_one] at hc;omega)
     rw[List.length_map,<-e1,hmap] at C;refine C.mono ?_;rintro e w' ⟨rfl,hb⟩;refine⟨[_],[],[],rfl,QK (by kernel_rfl) (λ_ _=>⟨?_,rfl⟩) (acZ hb)⟩;show Value.string ⟨(Lib.join l s).toArray⟩=.string ⟨⟨_⟩⟩;rw[<-ac1]
  ·cases h
 ·cases h
end Go.Proofs.YtbpldgeajbfgnaaGreatDoor
namespace Go.Proofs.YtbpldgeajbfgnaaGreatDoor
set_option linter.unusedVariables false
set_option linter.unusedSimpArgs false
open Go Go.Vm Go.RowKit
open Go.IntKind (i64)
def akm{x:Int}(h:(Lit.int .i64 x).wf=true):I64 x:=bounds_i64 h
set_option maxRecDepth 100000 in
def open_ints'{n:Nat}{row:Row}(h:Y0 Tryz.prog (n+2) 37 row):∃k:List Int,row=[.sl false 1 (Go.Vm.encI k)]∧k.length<=maxLen∧∀x,x∈k->I64 x:=by obtain⟨rows,rfl,hl,hr⟩:=anF Tryz.underlying37 h;obtain⟨k,rfl,hk⟩:=abv (f:=λx:Int=>[D.int .i64 x]) (p:=I64) (λr hr'=>by obtain⟨x,rfl,hx⟩:=afl Tryz.underlying3 (hr r hr');exact⟨x,rfl,akm hx⟩);exact⟨k,rfl,by simpa using hl,hk⟩
set_option maxRecDepth 100000 in
def akn{n:Nat}{row:Row}(h:Y0 Tryz.prog (n+3) 39 row):∃x:Nd,row=MN false x∧Fit x:=by have h:=ajP Tryz.underlying39 h;obtain⟨_,_,rfl,h1,h⟩:=Qc h;obtain⟨_,_,rfl,h2,h⟩:=Qc h;obtain⟨_,_,rfl,h3,h⟩:=Qc h;obtain⟨_,_,rfl,h4,h⟩:=Qc h;obtain⟨_,_,rfl,h5,h⟩:=Qc h;obtain rfl:=anG h;obtain⟨a,rfl,wa⟩:=afl Tryz.underlying3 h1;obtain⟨b,rfl,wb⟩:=afl Tryz.underlying3 h2;obtain⟨c,rfl,wc⟩:=akN Tryz.underlying9 h3;obtain⟨d,rfl,wd⟩:=akN Tryz.underlying9 h4;obtain⟨k,rfl,wk,wk2⟩:=open_ints' h5;exact⟨⟨a,b,c,d,k⟩,rfl,⟨akm wa,akm wb,wc,wd,wk,wk2⟩⟩
set_option maxRecDepth 100000 in
def ajg{n:Nat}{row:Row}(h:Y0 Tryz.prog (n+4) 22 row):∃l:List Nd,row=[.sl false 5 (dF false l)]∧l.length<=maxLen∧∀x,x∈l->Fit x:=by obtain⟨rows,rfl,hl,hr⟩:=anF Tryz.underlying22 h;obtain⟨l,rfl,hk⟩:=abv (f:=MN false) (p:=Fit) (λr hr'=>akn (hr r hr'));exact⟨l,rfl,by simpa using hl,hk⟩
def ayh:ae6 X0:=by
 intro f p fn args cells rows outs hx hf hb h base U w gargs jv N1 N2 hG;have hx':(bif Nat.beq f 116 then some Prim.jZ else bif Nat.beq f 103 then some Prim.strings_Split else bif Nat.beq f 207 then some Prim.strings_Repeat else bif Nat.beq f 142 then some Prim.strings_Join else bif Nat.beq f 202 then some Prim.strings_Contains else none)=some p:=hx;cases hq:Nat.beq f 116 with
 |true=>rw[hq] at hx';cases hx';have e:=wR hq;subst e;exact adg rfl rfl fn args cells rows outs hf h base U w gargs jv N1 N2 hG
 |false=>
 rw[hq,dO] at hx';cases hq:Nat.beq f 103 with
 |true=>rw[hq] at hx';cases hx';have e:=wR hq;subst e;exact afZ rfl (by decide) rfl fn args cells rows outs hf h base U w gargs jv N1 N2 hG
 |false=>
 rw[hq,dO] at hx';cases hq:Nat.beq f 207 with
 |true=>rw[hq] at hx';cases hx';have e:=wR hq;subst e;exact adD rfl (by decide) fn args cells rows outs hf h base U w gargs jv N1 N2 hG
 |false=>
 rw[hq,dO] at hx';cases hq:Nat.beq f 142 with
 |true=>rw[hq] at hx';cases hx';have e:=wR hq;subst e;exact ajf rfl (by decide) fn args cells rows outs hf h base U w gargs jv N1 N2 hG
 |false=>
 rw[hq,dO] at hx';cases hq:Nat.beq f 202 with
 |true=>rw[hq] at hx';cases hx';have e:=wR hq;subst e;exact aac rfl (by decide) fn args cells rows outs hf h base U w gargs jv N1 N2 hG
 |false=>rw[hq] at hx';cases hx'
def own:ownKnob Tryz.prog.godebug=none:=by kernel_rfl
def laidOut:laidOutB Tryz.prog=true:=by kernel_rfl
def gK : Tryz.prog.globalNamed "loop.example/g01543/impl.keywords" = some 1 := by kernel_rfl
def gS : Tryz.prog.globalNamed "loop.example/g01543/impl.signs" = some 2 := by kernel_rfl
def gB : Tryz.prog.globalNamed "loop.example/g01543/impl.builtins" = some 0 := by kernel_rfl
def tK:(Tryz.prog.globals[1]?).map (·.type)=some 177:=by kernel_rfl
def tS:(Tryz.prog.globals[2]?).map (·.type)=some 178:=by kernel_rfl
def tB:(Tryz.prog.globals[0]?).map (·.type)=some 174:=by kernel_rfl
def c9:Tryz.prog.cellsOf 9=1:=by kernel_rfl
def dK:(Rows.laid_loop_example_g01543_impl_keywords:DataW Unit)=.agg (Td.map λs=> .lit (.string s)):=by kernel_rfl
def dS:(Rows.laid_loop_example_g01543_impl_signs:DataW Unit)=.agg (Qj.map λs=> .lit (.string s)):=by kernel_rfl
def dB:(Rows.laid_loop_example_g01543_impl_builtins:DataW Unit)=.agg (aiM.map λs=> .lit (.string s)):=by kernel_rfl
def rK:Az=Td.map D.str:=by kernel_rfl
def rS:Ol=Qj.map D.str:=by kernel_rfl
def rB:Jb=aiM.map D.str:=by kernel_rfl
def aqo{W:World}(hL:laidMetH Tryz.prog Rows.fnExactStmtDocRow.laid W)(hS:W.ShapedOpen Tryz.prog):aaF X0 (full W):=by
 rw[MakeChecks.laidMetH_plain _ _ _ (by kernel_rfl)] at hL;obtain⟨ps,⟨g0,t0,cs0,f0,p0,q0,hg0,ht0,hv0,hd0,⟨g1,t1,cs1,f1,p1,q1,hg1,ht1,hv1,hd1,⟨g2,t2,cs2,f2,p2,q2,hg2,ht2,hv2,hd2,_,_⟩,_⟩,_⟩,_,_⟩:=hL;obtain rfl:=Option.some.inj (gK.symm.trans hg0);obtain rfl:=Option.some.inj (gS.symm.trans hg1);obtain rfl:=Option.some.inj (gB.symm.trans hg2);obtain rfl:=Option.some.inj (tK.symm.trans ht0);obtain rfl:=Option.some.inj (tS.symm.trans ht1);obtain rfl:=Option.some.inj (tB.symm.trans ht2);rw[dK] at hd0;rw[dS] at hd1;rw[dB] at hd2;refine⟨λg row h=> ?_,λg h=> ?_⟩
 ·have h':(bif Nat.beq g 2 then some Ol else bif Nat.beq g 1 then some Az else bif Nat.beq g 0 then some Jb else none)=some row:=h;cases hq:Nat.beq g 2 with
  |true=>rw[hq] at h';cases h';have e:=wR hq;subst e;rw[rS];exact XR Tryz.underlying178 Tryz.underlying9 c9 hg1 hv1 hd1
  |false=>
  rw[hq,dO] at h';cases hq:Nat.beq g 1 with
  |true=>rw[hq] at h';cases h';have e:=wR hq;subst e;rw[rK];exact XR Tryz.underlying177 Tryz.underlying9 c9 hg0 hv0 hd0
  |false=>
  rw[hq,dO] at h';cases hq:Nat.beq g 0 with
  |true=>rw[hq] at h';cases h';have e:=wR hq;subst e;rw[rB];exact XR Tryz.underlying174 Tryz.underlying9 c9 hg2 hv2 hd2
  |false=>rw[hq] at h';cases h'
 ·have h':(bif Nat.beq g 3 then true else false)=true:=h;cases hq:Nat.beq g 3 with
  |false=>rw[hq] at h';cases h'
  |true=>have e:=wR hq;subst e;exact Go.Proofs.cell_of_shapedOpen_int (zero:=#[.int .i64 0]) hS (of_decide_eq_true (by kernel_rfl)) (by kernel_rfl) rfl (by kernel_rfl) (by kernel_rfl) Tryz.underlying3
end Go.Proofs.YtbpldgeajbfgnaaGreatDoor
