import Derived.Test.YtbgadfelmhoheaaGreatDoorXTok
import Derived.Test.YtbgadfelmhoheaaGreatDoorXLay
set_option linter.defProp false
namespace Go.Proofs.YtbgadfelmhoheaaGreatDoor
set_option linter.unusedVariables false
set_option linter.unusedSimpArgs false
open Go Go.Vm
open Go.IntKind (i64)
def jO(w:Bool)(u:Tn):aY .i64 (u.row w) 0=some u.kind∧aY .i64 (u.row w) 1=some u.op∧cStr (u.row w) 2=some u.text∧cStr (u.row w) 3=some u.other∧OE 5 (u.row w) 4=some (cZ w u.kids):=by cases u;exact⟨rfl,rfl,rfl,rfl,rfl⟩
def Aw(w:Bool){ks:List Tn}{j:Nat}{u:Tn}(hj:ks[j]? =some u):idx (cZ w ks) (j:Int)=some (u.row w):=by rw[aW,Ru];simp[hj]
section
variable {k op:Int} {x y:aB} {ks:List Tn} (ih:∀u,u∈ks->PT u)
include ih
theorem TY{w:Bool}{f:Nat}{p:Ps}{toks:List Tk}{sp:aA}{j:Nat}{u:Tn}(hj:ks[j]? =some u)(hf:5 * u.size+2<=f)(hp:nJ p=true)(hlv:lvl k op≠0)(hs:ay sp=true)(ht:toks.length+16 * u.size+1<=900000000)(hl:sp.length+u.size<=900000000)(hu:sizes ks<=1048575):
  Wr toks sp u.size (vT k op ks.length p j u) (M.lT f k op x y (cZ w ks) (j:Int) p.level p.ny p.tN p.tV p.lV (bZ toks) sp false):=by
 obtain⟨g,rfl⟩:∃g,f=g+1:=⟨f - 1,ak⟩
 have hkl:=iZ ks;have hju:=(Md.1 hj).1;have hus:=iw (zZ hj);have hg:=Aw w hj;obtain⟨c0,c1,c2,c3,c4⟩:=jO w u;have hn:=agy k op x y (cZ w ks) (by rw[fB];omega);rw[fB] at hn;have hkp:=Zn k op x y (encI (iota ks.length)) j p (by rw[aU,TW];omega);rw[aU,TW] at hkp;have hq:=wU (n:=ks.length) (j:=j) hp hju hlv;have e1:=ih u (zZ hj);rw[M.abC];simp only[iY,M.uY,hn,ah,hg,c0,c1,c2,c3,c4,hkp,Ps.DL,aff,cu,hs,aI,vT];cases htg:qP k j with
 |true=>obtain⟨sp',h1,h2,h3⟩:=e1 w g (dN k op ks.length j p) toks sp ak hq hs ak hl ak;simp only[aI,Bool.true_or,h1,ah,cu,h2];exact⟨sp',rfl,h2,h3⟩
 |false=>obtain⟨sp',h1,h2,h3⟩:=aIc e1 (w:=w) (f:=g) (p:=dN k op ks.length j p) (toks:=toks) (sp:=sp) ak hq hs ht hl ak;unfold aaK at h1;simp only[aS,Bool.false_or,h1,ah,cu,h2,aI];exact⟨sp',rfl,h2,h3⟩
theorem aeh{w:Bool}{f:Nat}{p:Ps}{shut:Int}(hf:5 * sizes ks+2<=f)(hp:nJ p=true)(hlv:lvl k op≠0)(hu:sizes ks<=1048575):∀(d j:Nat) (toks:List Tk) (sp:aA),j+d=ks.length->ay sp=true->toks.length+16 * sizes (ks.drop j)+2<=900000000->sp.length+sizes (ks.drop j)<=900000000->
  ∃sp',M.lN (M.lT f) shut (ks.length:Int) k op x y (cZ w ks) p.level p.ny p.tN p.tV p.lV ((j:Int),false,bZ toks,sp)=some ((ks.length:Int),false,bZ (toks++H8 (Nat.beq j 0) ((jI k op ks.length p ks 0).drop j)),sp')∧ay sp'=true∧sp'.length<=sp.length+sizes (ks.drop j)
 |0,j,toks,sp,hj,hs,ht,hl=>by have hjn:j=ks.length:=ak;refine⟨sp, ?_,hs,ak⟩;have hd:(jI k op ks.length p ks 0).drop j=[]:=List.drop_eq_nil_iff.2 (by rw[Ls];omega);rw[hd,H8,List.append_nil,M.lN];apply bn;simp only[M.oW,M.oV];rw[nZ ak,aS,hjn]
 |d+1,j,toks,sp,hj,hs,ht,hl=>by
  have hlt:j<ks.length:=ak;have hkl:=iZ ks;obtain⟨u,hu'⟩:∃u,ks[j]? =some u:=⟨ks[j],by simp[hlt]⟩
  have hd1:ks.drop j=u::ks.drop (j+1):=by rw[List.drop_eq_getElem_cons hlt];rw[List.getElem?_eq_getElem hlt] at hu';rw[Option.some.inj hu']
  have hus:=iw (zZ hu');have hz:=u.size_pos;have hb:=QS (k:=k) (op:=op) (n:=ks.length) (p:=p) (j:=j) (rO u);have hdl:j<(jI k op ks.length p ks 0).length:=by rw[Ls];exact hlt
  have hkd:(jI k op ks.length p ks 0).drop j=vT k op ks.length p j u::(jI k op ks.length p ks 0).drop (j+1):=by have hg:=ak7 k op ks.length p (i:=0) hu';rw[Nat.zero_add,List.getElem?_eq_getElem hdl] at hg;rw[List.drop_eq_getElem_cons hdl,Option.some.inj hg]
  rw[hd1,sizes] at ht hl⊢;rw[hkd];have hw:i64.wrap ((j:Int)+1)=((j+1:Nat):Int):=by rw[aC ak ak];omega
  by_cases h0:j=0
  ·subst h0;obtain⟨sp1,a1,a2,a3⟩:=TY ih (w:=w) (f:=f) (p:=p) (toks:=toks) (sp:=sp) (x:=x) (y:=y) (op:=op) (k:=k) hu' ak hp hlv hs ak ak hu;obtain⟨sp2,b1,b2,b3⟩:=aeh hf hp hlv hu d (0+1) (toks++vT k op ks.length p 0 u) sp1 ak a2 (by rw[pF];omega) ak;have hstep:M.oW (M.lT f) shut (ks.length:Int) k op x y (cZ w ks) p.level p.ny p.tN p.tV p.lV (((0:Nat):Int),false,bZ toks,sp)=some (.inl (((0+1:Nat):Int),false,bZ (toks++vT k op ks.length p 0 u),sp1)):=by simp only[M.oW,M.oV,cu,hs,aI];rw[zdt ak,aI,nZ ak,aS,a1,ah,hw]
   refine⟨sp2, ?_,b2,ak⟩;rw[M.lN,bW hstep];rw[M.lN] at b1;have z0:Nat.beq 0 0=true:=rfl;have z1:Nat.beq (0+1) 0=false:=rfl;rw[b1,z0,z1,H8,aI];simp
  ·have e1:=(mX 36 (by constructor<;>decide)).1;have p1:=L9 [tok 36] toks sp false hs (by simp;omega);obtain⟨sp1,a1,a2,a3⟩:=TY ih (w:=w) (f:=f) (p:=p) (toks:=toks++[tok 36]) (sp:=sp) (x:=x) (y:=y) (op:=op) (k:=k) hu' ak hp hlv hs (by rw[pF,J3];omega) ak hu;obtain⟨sp2,b1,b2,b3⟩:=aeh hf hp hlv hu d (j+1) (toks++[tok 36]++vT k op ks.length p j u) sp1 ak a2 (by rw[pF,pF,J3];omega) ak;have hstep:M.oW (M.lT f) shut (ks.length:Int) k op x y (cZ w ks) p.level p.ny p.tN p.tV p.lV ((j:Int),false,bZ toks,sp)=some (.inl (((j+1:Nat):Int),false,bZ (toks++[tok 36]++vT k op ks.length p j u),sp1)):=by simp only[M.oW,M.oV,e1,ah,yj,cu,hs,aI,p1];rw[zdt ak,aI,zdt ak,aI,a1,ah,hw]
   refine⟨sp2, ?_,b2,ak⟩;rw[M.lN,bW hstep];rw[M.lN] at b1;rw[b1];have hb0:Nat.beq j 0=false:=by cases j with
    |zero=>exact absurd rfl h0
    |succ j=>rfl
   have hb1:Nat.beq (j+1) 0=false:=rfl;rw[hb0,hb1,H8,aS];simp
theorem amW{w:Bool}{f:Nat}{p:Ps}{toks:List Tk}{sp:aA}{open' shut:Int}(ho:I64 open')(hsh:I64 shut)(hf:5 * sizes ks+3<=f)(hp:nJ p=true)(hlv:lvl k op≠0)(hs:ay sp=true)(ht:toks.length+16 * sizes ks+3<=900000000)(hl:sp.length+sizes ks<=900000000)(hu:sizes ks<=1048575):
  Wr toks sp (sizes ks) (tok open'::(H8 true (jI k op ks.length p ks 0)++[tok shut])) (M.uo f k op x y (cZ w ks) open' shut p.level p.ny p.tN p.tV p.lV (bZ toks) sp false):=by
 obtain⟨g,rfl⟩:∃g,f=g+1:=⟨f - 1,ak⟩
 have hkl:=iZ ks;have e1:=(mX open' ho).1;have e2:=(mX shut hsh).1;have p1:=L9 [tok open'] toks sp false hs (by simp;omega);obtain⟨sp1,a1,a2,a3⟩:=aeh ih (x:=x) (y:=y) (op:=op) (k:=k) (w:=w) (f:=g) (p:=p) (shut:=shut) ak hp hlv hu ks.length 0 (toks++[tok open']) sp ak hs (by rw[pF,J3,List.drop_zero];omega) (by rw[List.drop_zero];omega);rw[List.drop_zero] at a3;rw[List.drop_zero,pz] at a1;have hlen:(H8 true (jI k op ks.length p ks 0)).length<=9 * sizes ks:=by
  have h1:=Zw (jI k op ks.length p ks 0) true;have h2:=Z8 (k:=k) (op:=op) (n:=ks.length) (p:=p) (ts:=ks) (j:=0) λu _=>rO u
  rw[Ls] at h1;omega
 have p2:=L9 [tok shut] (toks++[tok open']++H8 (Nat.beq 0 0) (jI k op ks.length p ks 0)) sp1 false a2 (by simp only[pF,J3];have:Nat.beq 0 0=true:=rfl;rw[this];omega);rw[M.aah];simp only[M.uj,e1,e2,ah,yj,cu,hs,aI,p1,fB,a1,a2,p2];refine⟨sp1, ?_,a2,a3⟩;simp
end
def Uo(k op:Int)(n:Nat)(p:Ps)(u:Tn):jI k op n p [u] 0=[vT k op n p 0 u]:=by rw[jI,jI];rfl
def Zx(k op:Int)(n:Nat)(p:Ps)(u v:Tn):jI k op n p [u,v] 0=[vT k op n p 0 u,vT k op n p 1 v]:=by rw[jI,jI,jI];rfl
def ay8(k op:Int)(n:Nat)(p:Ps)(u v z:Tn):jI k op n p [u,v,z] 0=[vT k op n p 0 u,vT k op n p 1 v,vT k op n p 2 z]:=by rw[jI,jI,jI,jI];rfl
def sz1(u:Tn):sizes [u]=u.size:=by simp[sizes]
def sz2(u v:Tn):sizes [u,v]=u.size+v.size:=by simp[sizes]
def sz3(u v z:Tn):sizes [u,v,z]=u.size+(v.size+z.size):=by simp[sizes]
def OA{α:Type}{l:List α}(h:l.length=2):∃a b,l=[a,b]:=by
 match l,h with
 |[a,b],_=>exact⟨a,b,rfl⟩
def Xp{α:Type}{l:List α}(h:l.length=3):∃a b c,l=[a,b,c]:=by
 match l,h with
 |[a,b,c],_=>exact⟨a,b,c,rfl⟩
def agz{op:Int}(h:Aa op≠0):I64 op:=by
 by_cases hr:0<=op∧op<=99
 ·constructor<;>omega
 ·exfalso;apply h;have e:∀z:Int,0<=z->z<=99->(op==z)=false:=λz h1 h2=>by rw[JX];omega
  simp only[Aa,e 44 (by decide) (by decide),e 45 (by decide) (by decide),e 67 (by decide) (by decide),e 46 (by decide) (by decide),e 63 (by decide) (by decide),e 48 (by decide) (by decide),e 47 (by decide) (by decide),e 50 (by decide) (by decide),e 62 (by decide) (by decide),e 49 (by decide) (by decide),e 99 (by decide) (by decide),e 55 (by decide) (by decide),e 56 (by decide) (by decide),e 57 (by decide) (by decide),e 58 (by decide) (by decide),e 59 (by decide) (by decide),e 60 (by decide) (by decide),Bool.or_false,aS]
def Yf:((1:Nat):Int)=1:=rfl
def auR:((2:Nat):Int)=2:=rfl
section
variable {k op:Int} {x y:aB} {ks:List Tn} (ih:∀u,u∈ks->PT u)
include ih
theorem aId{w:Bool}{f:Nat}{p:Ps}{toks:List Tk}{sp:aA}(hc:Cnt k op y ks.length)(hk:k=6∨k=9∨k=10∨k=11∨k=12∨k=13∨k=14∨k=15)(hf:5 * sizes ks+4<=f)(hp:nJ p=true)(hs:ay sp=true)(ht:toks.length+16 * sizes ks+3<=900000000)(hl:sp.length+sizes ks<=900000000)(hu:sizes ks<=1048575):
  Wr toks sp (sizes ks) (Jd k op ks.length x (jI k op ks.length p ks 0)) (M.rF f k op x y (cZ w ks) p.level p.ny p.tN p.tV p.lV (bZ toks) sp false):=by
 obtain⟨g,rfl⟩:∃g,f=g+1:=⟨f - 1,ak⟩
 have hlv:lvl k op≠0:=by have:=V3 (y:=y) (n:=ks.length) (k:=k) (op:=op) ak hc;omega
 rw[M.Xd];rcases hk with rfl|rfl|rfl|rfl|rfl|rfl|rfl|rfl
 ·obtain⟨u,rfl⟩:=zlo.1 (hc.one ak);rw[sz1] at *;have e1:=(mX 68 (by constructor<;>decide)).1;have p1:=L9 [tok 68] toks sp false hs (by simp;omega);obtain⟨sp1,a1,a2,a3⟩:=TY ih (w:=w) (f:=g) (p:=p) (toks:=toks++[tok 68]) (sp:=sp) (x:=x) (y:=y) (op:=op) (k:=6) (j:=0) (u:=u) rfl ak hp hlv hs (by simp only[pF,lU,qX,Nat.zero_add] at *;omega) hl (by rw[sz1];exact hu);rw[pz] at a1;simp only[M.dJ,Int.reduceBEq,aI,aS,e1,ah,yj,cu,hs,p1,a1,a2];refine⟨sp1, ?_,a2,a3⟩;rw[Uo];simp[Jd,CZ]
 ·obtain⟨u,rfl⟩:=zlo.1 (hc.one ak);rw[sz1] at *;have e1:=(mX op (by rcases hc.stp ak with rfl|rfl<;>constructor<;>decide)).1;have p1:=L9 [tok op] toks sp false hs (by simp;omega);obtain⟨sp1,a1,a2,a3⟩:=TY ih (w:=w) (f:=g) (p:=p) (toks:=toks++[tok op]) (sp:=sp) (x:=x) (y:=y) (op:=op) (k:=9) (j:=0) (u:=u) rfl ak hp hlv hs (by simp only[pF,lU,qX,Nat.zero_add] at *;omega) hl (by rw[sz1];exact hu);rw[pz] at a1;simp only[M.dJ,Int.reduceBEq,aI,aS,e1,ah,yj,cu,hs,p1,a1,a2];refine⟨sp1, ?_,a2,a3⟩;rw[Uo];simp[Jd,CZ]
 ·obtain⟨u,rfl⟩:=zlo.1 (hc.one ak);rw[sz1] at *;have hb:=QS (k:=10) (op:=op) (n:=[u].length) (p:=p) (j:=0) (rO u);have e1:=(mX op (by rcases hc.stp ak with rfl|rfl<;>constructor<;>decide)).1;obtain⟨sp1,a1,a2,a3⟩:=TY ih (w:=w) (f:=g) (p:=p) (toks:=toks) (sp:=sp) (x:=x) (y:=y) (op:=op) (k:=10) (j:=0) (u:=u) rfl ak hp hlv hs ak hl (by rw[sz1];exact hu);rw[pz] at a1;have p1:=L9 [tok op] (toks++vT 10 op [u].length p 0 u) sp1 false a2 (by simp only[pF,lU,qX,Nat.zero_add] at *;omega);simp only[M.dJ,Int.reduceBEq,aI,aS,e1,ah,yj,cu,hs,p1,a1,a2];refine⟨sp1, ?_,a2,a3⟩;rw[Uo];simp[Jd,CZ]
 ·obtain⟨u,rfl⟩:=zlo.1 (hc.one ak);rw[sz1] at *;have e1:=(mX op (by rcases hc.una ak with rfl|rfl|rfl<;>constructor<;>decide)).1;have p1:=L9 [tok op] toks sp false hs (by simp;omega);obtain⟨sp1,a1,a2,a3⟩:=TY ih (w:=w) (f:=g) (p:=p) (toks:=toks++[tok op]) (sp:=sp) (x:=x) (y:=y) (op:=op) (k:=11) (j:=0) (u:=u) rfl ak hp hlv hs (by simp only[pF,lU,qX,Nat.zero_add] at *;omega) hl (by rw[sz1];exact hu);rw[pz] at a1;simp only[M.dJ,Int.reduceBEq,aI,aS,e1,ah,yj,cu,hs,p1,a1,a2];refine⟨sp1, ?_,a2,a3⟩;rw[Uo];simp[Jd,CZ]
 ·obtain⟨u,v,rfl⟩:=OA (hc.two ak);rw[sz2] at *;have hb:=QS (k:=12) (op:=op) (n:=[u,v].length) (p:=p) (j:=0) (rO u);obtain⟨sp1,a1,a2,a3⟩:=TY ih (w:=w) (f:=g) (p:=p) (toks:=toks) (sp:=sp) (x:=x) (y:=y) (op:=op) (k:=12) (j:=0) (u:=u) rfl ak hp hlv hs ak ak (by rw[sz2];exact hu);rw[pz] at a1
  by_cases h99:op=99
  ·have e99:(op !=99)=false:=by simp[h99]
   obtain⟨sp2,b1,b2,b3⟩:=TY ih (w:=w) (f:=g) (p:=p) (toks:=toks++vT 12 op [u,v].length p 0 u) (sp:=sp1) (x:=x) (y:=y) (op:=op) (k:=12) (j:=1) (u:=v) rfl ak hp hlv a2 (by simp only[pF,lU,qX,Nat.zero_add] at *;omega) ak (by rw[sz2];exact hu);rw[Yf] at b1;simp only[M.dJ,Int.reduceBEq,aI,aS,e99,ah,yj,cu,hs,a1,a2,b1,b2];refine⟨sp2, ?_,b2,ak⟩;rw[Zx];simp[Jd,CZ,h99]
  ·have e99:(op !=99)=true:=by simpa using h99
   have e98:(op==99)=false:=by simpa using h99
   have e1:=(mX op (agz (hc.bin rfl).1)).1;have p1:=L9 [tok op] (toks++vT 12 op [u,v].length p 0 u) sp1 false a2 (by simp only[pF,lU,qX,Nat.zero_add] at *;omega);obtain⟨sp2,b1,b2,b3⟩:=TY ih (w:=w) (f:=g) (p:=p) (toks:=toks++vT 12 op [u,v].length p 0 u++[tok op]) (sp:=sp1) (x:=x) (y:=y) (op:=op) (k:=12) (j:=1) (u:=v) rfl ak hp hlv a2 (by simp only[pF,lU,qX,Nat.zero_add] at *;omega) ak (by rw[sz2];exact hu);rw[Yf] at b1;simp only[M.dJ,Int.reduceBEq,aI,aS,e99,e1,p1,ah,yj,cu,hs,a1,a2,b1,b2];refine⟨sp2, ?_,b2,ak⟩;rw[Zx];simp[Jd,CZ,e98]
 ·have e1:=(mX 24 (by constructor<;>decide)).1;have hr:∀z:aB,([[D.int .i64 24,D.str (spell 24),D.int .i64 0],[D.int .i64 6,D.str z,D.int .i64 0]]:aA)=bZ [tok 24,⟨6,z,0⟩]:=λz=>rfl
  cases hm:Nat.blt 1 ks.length with
  |true=>
   obtain⟨sp1,a1,a2,a3⟩:=amW ih (w:=w) (f:=g) (p:=p) (toks:=toks) (sp:=sp) (x:=x) (y:=y) (op:=op) (k:=13) (open':=32) (shut:=33) (by constructor<;>decide) (by constructor<;>decide) ak hp hlv hs ak hl hu;have hlen:(H8 true (jI 13 op ks.length p ks 0)).length<=9 * sizes ks:=by
    have h1:=Zw (jI 13 op ks.length p ks 0) true;have h2:=Z8 (k:=13) (op:=op) (n:=ks.length) (p:=p) (ts:=ks) (j:=0) λu _=>rO u
    rw[Ls] at h1;omega
   have p1:=L9 [tok 24,⟨6,x,0⟩] (toks++tok 32::(H8 true (jI 13 op ks.length p ks 0)++[tok 33])) sp1 false a2 (by simp only[pF,lU,qX,Nat.zero_add] at *;omega);simp only[M.dJ,Int.reduceBEq,aI,aS,fB,many,hm,e1,p1,ah,hr,cu,hs,a1,a2];refine⟨sp1, ?_,a2,a3⟩;simp[Jd,hm]
  |false=>
   have h1:ks.length=1:=by
    have h2:=hc.some_ ak;have h3:¬1<ks.length:=by rw[<-Nat.blt_eq,hm];simp
    omega
   obtain⟨u,rfl⟩:=zlo.1 h1;rw[sz1] at *;have hb:=QS (k:=13) (op:=op) (n:=[u].length) (p:=p) (j:=0) (rO u);obtain⟨sp1,a1,a2,a3⟩:=TY ih (w:=w) (f:=g) (p:=p) (toks:=toks) (sp:=sp) (x:=x) (y:=y) (op:=op) (k:=13) (j:=0) (u:=u) rfl ak hp hlv hs ak hl (by rw[sz1];exact hu);rw[pz] at a1;have p1:=L9 [tok 24,⟨6,x,0⟩] (toks++vT 13 op [u].length p 0 u) sp1 false a2 (by simp only[pF,lU,qX,Nat.zero_add] at *;omega);simp only[M.dJ,Int.reduceBEq,aI,aS,fB,many,hm,e1,p1,ah,hr,cu,hs,a1,a2];refine⟨sp1, ?_,a2,a3⟩;rw[Uo];simp[Jd,CZ,show Nat.blt 1 1=false from rfl]
 ·obtain⟨u,v,z,rfl⟩:=Xp (hc.three rfl);rw[sz3] at *;have hb:=QS (k:=14) (op:=op) (n:=[u,v,z].length) (p:=p) (j:=0) (rO u);have hb2:=QS (k:=14) (op:=op) (n:=[u,v,z].length) (p:=p) (j:=1) (rO v);have e1:=(mX 65 (by constructor<;>decide)).1;have e2:=(mX 66 (by constructor<;>decide)).1;obtain⟨sp1,a1,a2,a3⟩:=TY ih (w:=w) (f:=g) (p:=p) (toks:=toks) (sp:=sp) (x:=x) (y:=y) (op:=op) (k:=14) (j:=0) (u:=u) rfl ak hp hlv hs ak ak (by rw[sz3];exact hu);rw[pz] at a1;have p1:=L9 [tok 65] (toks++vT 14 op [u,v,z].length p 0 u) sp1 false a2 (by simp only[pF,lU,qX,Nat.zero_add] at *;omega);obtain⟨sp2,b1,b2,b3⟩:=TY ih (w:=w) (f:=g) (p:=p) (toks:=toks++vT 14 op [u,v,z].length p 0 u++[tok 65]) (sp:=sp1) (x:=x) (y:=y) (op:=op) (k:=14) (j:=1) (u:=v) rfl ak hp hlv a2 (by simp only[pF,lU,qX,Nat.zero_add] at *;omega) ak (by rw[sz3];exact hu);rw[Yf] at b1;have p2:=L9 [tok 66] (toks++vT 14 op [u,v,z].length p 0 u++[tok 65]++vT 14 op [u,v,z].length p 1 v) sp2 false b2 (by simp only[pF,lU,qX,Nat.zero_add] at *;omega);obtain⟨sp3,c1,c2,c3⟩:=TY ih (w:=w) (f:=g) (p:=p) (toks:=toks++vT 14 op [u,v,z].length p 0 u++[tok 65]++vT 14 op [u,v,z].length p 1 v++[tok 66]) (sp:=sp2) (x:=x) (y:=y) (op:=op) (k:=14) (j:=2) (u:=z) rfl ak hp hlv b2 (by simp only[pF,lU,qX,Nat.zero_add] at *;omega) ak (by rw[sz3];exact hu);rw[auR] at c1;simp only[M.dJ,Int.reduceBEq,aI,aS,e1,e2,p1,p2,ah,yj,cu,hs,a1,a2,b1,b2,c1,c2];refine⟨sp3, ?_,c2,ak⟩;rw[ay8];simp[Jd,CZ]
 ·obtain⟨u,v,rfl⟩:=OA (hc.two ak);rw[sz2] at *;have hb:=QS (k:=15) (op:=op) (n:=[u,v].length) (p:=p) (j:=0) (rO u);obtain⟨sp1,a1,a2,a3⟩:=TY ih (w:=w) (f:=g) (p:=p) (toks:=toks) (sp:=sp) (x:=x) (y:=y) (op:=op) (k:=15) (j:=0) (u:=u) rfl ak hp hlv hs ak ak (by rw[sz2];exact hu);rw[pz] at a1
  by_cases h99:op=99
  ·have e99:(op !=99)=false:=by simp[h99]
   obtain⟨sp2,b1,b2,b3⟩:=TY ih (w:=w) (f:=g) (p:=p) (toks:=toks++vT 15 op [u,v].length p 0 u) (sp:=sp1) (x:=x) (y:=y) (op:=op) (k:=15) (j:=1) (u:=v) rfl ak hp hlv a2 (by simp only[pF,lU,qX,Nat.zero_add] at *;omega) ak (by rw[sz2];exact hu);rw[Yf] at b1;simp only[M.dJ,Int.reduceBEq,aI,aS,e99,ah,yj,cu,hs,a1,a2,b1,b2];refine⟨sp2, ?_,b2,ak⟩;rw[Zx];simp[Jd,CZ,h99]
  ·have e99:(op !=99)=true:=by simpa using h99
   have e98:(op==99)=false:=by simpa using h99
   have e1:=(mX op (by rcases hc.asg rfl with rfl|h<;>constructor<;>omega)).1;have p1:=L9 [tok op] (toks++vT 15 op [u,v].length p 0 u) sp1 false a2 (by simp only[pF,lU,qX,Nat.zero_add] at *;omega);obtain⟨sp2,b1,b2,b3⟩:=TY ih (w:=w) (f:=g) (p:=p) (toks:=toks++vT 15 op [u,v].length p 0 u++[tok op]) (sp:=sp1) (x:=x) (y:=y) (op:=op) (k:=15) (j:=1) (u:=v) rfl ak hp hlv a2 (by simp only[pF,lU,qX,Nat.zero_add] at *;omega) ak (by rw[sz2];exact hu);rw[Yf] at b1;simp only[M.dJ,Int.reduceBEq,aI,aS,e99,e1,p1,ah,yj,cu,hs,a1,a2,b1,b2];refine⟨sp2, ?_,b2,ak⟩;rw[Zx];simp[Jd,CZ,e98]
end
def atn(sp:aA)(a b:Int)(hs:ay sp=true):ay (sp++[[D.int .i64 a,D.int .i64 b]])=true:=by simp only[ay,List.all_append,EU] at hs⊢;exact⟨hs,rfl⟩
def aIe(t:Tn):Gw t->Yv t->PT t:=by
 refine Tn.ind (P:=λt=>Gw t->Yv t->PT t) ?_ t;intro k op x y ks ih hok he w f p toks sp hf hp hs ht hl hu;have hc:=RH hok;have ih':∀u,u∈ks->PT u:=λu hm=>by obtain⟨i,hi⟩:=List.mem_iff_getElem?.1 hm;obtain⟨h1,h2⟩:=acX hok he hi;exact ih u hm h2 h1
 have he':1<=k∧k<=15:=he;have hlv:lvl k op≠0:=by have:=V3 he' hc;omega
 rw[Tn.size] at hf ht hl hu⊢;obtain⟨g,rfl⟩:∃g,f=g+1:=⟨f - 1,ak⟩
 simp only[Tn.kind,Tn.op,Tn.text,Tn.other,Tn.kids];rw[M.aai,wS];have done:∀(out:List Tk) (sp':aA) (c:Option (aA×aA×Bool)),ay sp'=true->sp'.length<=sp.length+sizes ks->c=some (bZ (toks++out),sp'++[[D.int .i64 (toks.length:Int),D.int .i64 ((toks++out).length:Int)]],false)->Wr toks sp (sizes ks+1) out c:=by intro out sp' c h1 h2 h3;exact⟨_,h3,atn _ _ _ h1,by rw[pF,J3];omega⟩
 have leaf:∀(z:Int) (h:Jd k op ks.length x (jI k op ks.length p ks 0)=([⟨z,x,0⟩]:List Tk)),Wr toks sp (sizes ks+1) (Jd k op ks.length x (jI k op ks.length p ks 0)) (some (bZ (toks++([⟨z,x,0⟩]:List Tk)),sp++[[D.int .i64 (toks.length:Int),D.int .i64 ((toks++([⟨z,x,0⟩]:List Tk)).length:Int)]],false)):=by intro z h;rw[h];exact done _ sp _ hs ak rfl
 have hrow:∀z:Int,([[D.int .i64 z,D.str x,D.int .i64 0]]:aA)=bZ [⟨z,x,0⟩]:=λz=>rfl
 have hput:∀z:Int,M.aX (bZ [⟨z,x,0⟩]) (bZ toks) sp false=some (bZ (toks++[⟨z,x,0⟩]),sp,false):=λz=>L9 [⟨z,x,0⟩] toks sp false hs (by simp;omega)
 have sps:∀(s:aA) (a b:Int),ay s=true->ay (s++[[D.int .i64 a,D.int .i64 b]])=true:=atn;have hk:k=1∨k=2∨k=3∨k=4∨k=5∨k=7∨k=8∨(k=6∨k=9∨k=10∨k=11∨k=12∨k=13∨k=14∨k=15):=by omega
 rcases hk with rfl|rfl|rfl|rfl|rfl|rfl|rfl|hk
 ·simp only[iY,M.iV,Int.reduceBEq,aI,aS,hrow,hput,ah,cu,hs,dD,J3,sps sp _ _ hs];rw[aJ ak,aI,aJ ak,aI];exact leaf 6 rfl
 ·simp only[iY,M.iV,Int.reduceBEq,aI,aS,hrow,hput,ah,cu,hs,dD,J3,sps sp _ _ hs];rw[aJ ak,aI,aJ ak,aI];exact leaf 3 rfl
 ·simp only[iY,M.iV,Int.reduceBEq,aI,aS,hrow,hput,ah,cu,hs,dD,J3,sps sp _ _ hs];rw[aJ ak,aI,aJ ak,aI];exact leaf 4 rfl
 ·simp only[iY,M.iV,Int.reduceBEq,aI,aS,hrow,hput,ah,cu,hs,dD,J3,sps sp _ _ hs];rw[aJ ak,aI,aJ ak,aI];exact leaf 5 rfl
 ·obtain⟨sp1,a1,a2,a3⟩:=amW ih' (w:=w) (f:=g) (p:=p) (toks:=toks++[⟨6,x,0⟩]) (sp:=sp) (x:=x) (y:=y) (op:=op) (k:=5) (open':=34) (shut:=35) (by constructor<;>decide) (by constructor<;>decide) ak hp hlv hs (by rw[pF,J3];omega) ak ak;simp only[iY,M.iV,Int.reduceBEq,aI,aS,hrow,hput,ah,cu,hs,a1,a2,dD,J3,sps sp1 _ _ a2];rw[aJ ak,aI,aJ ak,aI];have ha:Jd 5 op ks.length x (jI 5 op ks.length p ks 0)=⟨6,x,0⟩::tok 34::(H8 true (jI 5 op ks.length p ks 0)++[tok 35]):=rfl;rw[ha];refine done _ sp1 _ a2 a3 ?_;simp
 ·obtain⟨sp1,a1,a2,a3⟩:=amW ih' (w:=w) (f:=g) (p:=p) (toks:=toks++[⟨7,x,0⟩]) (sp:=sp) (x:=x) (y:=y) (op:=op) (k:=7) (open':=32) (shut:=33) (by constructor<;>decide) (by constructor<;>decide) ak hp hlv hs (by rw[pF,J3];omega) ak ak;simp only[iY,M.iV,Int.reduceBEq,aI,aS,hrow,hput,ah,cu,hs,a1,a2,dD,J3,sps sp1 _ _ a2];rw[aJ ak,aI,aJ ak,aI];have ha:Jd 7 op ks.length x (jI 7 op ks.length p ks 0)=⟨7,x,0⟩::tok 32::(H8 true (jI 7 op ks.length p ks 0)++[tok 33]):=rfl;rw[ha];refine done _ sp1 _ a2 a3 ?_;simp
 ·obtain⟨sp1,a1,a2,a3⟩:=amW ih' (w:=w) (f:=g) (p:=p) (toks:=toks++[⟨8,x,0⟩]) (sp:=sp) (x:=x) (y:=y) (op:=op) (k:=8) (open':=32) (shut:=33) (by constructor<;>decide) (by constructor<;>decide) ak hp hlv hs (by rw[pF,J3];omega) ak ak;simp only[iY,M.iV,Int.reduceBEq,aI,aS,hrow,hput,ah,cu,hs,a1,a2,dD,J3,sps sp1 _ _ a2];rw[aJ ak,aI,aJ ak,aI];have ha:Jd 8 op ks.length x (jI 8 op ks.length p ks 0)=⟨8,x,0⟩::tok 32::(H8 true (jI 8 op ks.length p ks 0)++[tok 33]):=rfl;rw[ha];refine done _ sp1 _ a2 a3 ?_;simp
 ·obtain⟨sp1,a1,a2,a3⟩:=aId ih' (w:=w) (f:=g) (p:=p) (toks:=toks) (sp:=sp) (x:=x) (y:=y) (op:=op) (k:=k) hc hk ak hp hs ak ak ak;have n1:(k==1)=false:=by rw[JX];omega
  have n2:(k==2)=false:=by rw[JX];omega
  have n3:(k==3)=false:=by rw[JX];omega
  have n4:(k==4)=false:=by rw[JX];omega
  have n5:(k==5)=false:=by rw[JX];omega
  have n7:(k==7)=false:=by rw[JX];omega
  have n8:(k==8)=false:=by rw[JX];omega
  simp only[iY,M.iV,n1,n2,n3,n4,n5,n7,n8,aI,aS,ah,cu,hs,a1,a2,dD,J3,sps sp1 _ _ a2];rw[aJ ak,aI,aJ ak,aI];exact done _ sp1 _ a2 a3 rfl
mutual
def Uu:Tn->Prop
 | .mk _ _ x y ks=>(x.length<=1048576∧y.length<=1048576)∧Ur ks
def Ur:List Tn->Prop
 |[]=>True
 |t::ts=>Uu t∧Ur ts
end
mutual
def agA:∀(t:Tn) (b:Nat),Uu t↔∀n,n∈t.flat b->Small n
 | .mk k o x y ks,b=>by
  rw[Uu,aqv ks b,Tn.flat];constructor
  ·rintro⟨⟨h1,h2⟩,h3⟩ n hn;rcases List.mem_append.1 hn with hn|hn
   ·exact h3 n hn
   ·simp only[List.mem_singleton] at hn;subst hn;exact⟨h1,h2⟩
  ·intro h;have h1:=h ⟨k,o,x,y,ends ks b⟩ (by simp);exact⟨⟨h1.text,h1.other⟩,λn hn=>h n (List.mem_append_left _ hn)⟩
def aqv:∀(ks:List Tn) (b:Nat),Ur ks↔∀n,n∈iW ks b->Small n
 |[],b=>by simp[Ur,iW]
 |t::ts,b=>by
  rw[Ur,agA t b,aqv ts (b+t.size),iW];constructor
  ·rintro⟨h1,h2⟩ n hn;rcases List.mem_append.1 hn with hn|hn
   ·exact h1 n hn
   ·exact h2 n hn
  ·intro h;exact⟨λn hn=>h n (List.mem_append_left _ hn),λn hn=>h n (List.mem_append_right _ hn)⟩
end
def yt:∀{ks:List Tn} {u:Tn},Ur ks->u∈ks->Uu u
 |[],_,_,h=>by cases h
 |t::ts,u,h,hu=>by
  rw[Ur] at h;rcases List.mem_cons.1 hu with rfl|hu
  ·exact h.1
  ·exact yt h.2 hu
def Zy:∀{t:Tn},Uu t->Ur t.kids
 | .mk _ _ _ _ _,h=>by rw[Uu] at h;exact h.2
def aEn(l:List (aB))(h:∀g,g∈l->g.length<=9)(i:Nat):(l[i]?.getD []).length<=9:=by
 cases hx:l[i]? with
 |none=>simp
 |some g=>exact h g (zZ hx)
def a0o:∀g,g∈Zh->g.length<=9:=by decide+kernel
def a0p:∀g,g∈RF->g.length<=9:=by decide+kernel
def OQ(k:Int):(spell k).length<=9:=by
 unfold spell;split
 ·simp
 ·split
  ·exact aEn _ a0o _
  ·split
   ·exact aEn _ a0p _
   ·simp
def Sm(l:List Tk):Prop:=∀t,t∈l->t.text.length<=1048576
def Zz:Sm []:=λt h=>by cases h
def wV{t:Tk}{l:List Tk}(h:t.text.length<=1048576)(hl:Sm l):Sm (t::l):=by
 intro u hu;rcases List.mem_cons.1 hu with rfl|hu
 ·exact h
 ·exact hl u hu
def RI{a b:List Tk}(ha:Sm a)(hb:Sm b):Sm (a++b):=by
 intro u hu;rcases List.mem_append.1 hu with hu|hu
 ·exact ha u hu
 ·exact hb u hu
def OB(k:Int):(tok k).text.length<=1048576:=by have:=OQ k;show(spell k).length<=1048576;omega
def JV{a b:List Tk}(c:Bool)(ha:Sm a)(hb:Sm b):Sm (bif c then a else b):=by cases c<;>assumption
def ay9:∀{L:List (List Tk)} (b:Bool),(∀l,l∈L->Sm l)->Sm (H8 b L)
 |[],b,_=>by rw[H8];exact Zz
 |x::l,b,h=>by have h1:=h x ZK;rw[H8];exact RI (JV _ h1 (wV (OB _) h1)) (ay9 false λl hl=>h l (Yw _ hl))
def aIf{L:List (List Tk)}(h:∀l,l∈L->Sm l)(j:Nat):Sm (CZ L j):=by
 unfold CZ;cases hx:L[j]? with
 |none=>exact Zz
 |some l=>exact h l (zZ hx)
def aIg{k op:Int}{n:Nat}{x:aB}{L:List (List Tk)}(hx:x.length<=1048576)(h:∀l,l∈L->Sm l):Sm (Jd k op n x L):=by
 have t1:∀z:Int,Sm [⟨z,x,0⟩]:=λz=>wV hx Zz
 have t2:∀z:Int,Sm [tok z]:=λz=>wV (OB z) Zz
 have n1:=aIf h;have c1:=ay9 true h;unfold Jd;refine JV _ (t1 _) (JV _ (t1 _) (JV _ (t1 _) (JV _ (t1 _) (JV _ ?_ (JV _ ?_ (JV _ ?_ (JV _ ?_ (JV _ ?_ (JV _ ?_ (JV _ ?_ (JV _ ?_ ?_)))))))))))
 ·exact wV hx (wV (OB _) (RI c1 (t2 _)))
 ·exact wV hx (wV (OB _) (RI c1 (t2 _)))
 ·exact wV hx (wV (OB _) (RI c1 (t2 _)))
 ·exact wV (OB _) (n1 _)
 ·exact wV (OB _) (n1 _)
 ·exact RI (n1 _) (t2 _)
 ·exact RI (JV _ (wV (OB _) (RI c1 (t2 _))) (n1 _)) (wV (OB _) (wV hx Zz))
 ·exact RI (n1 _) (wV (OB _) (RI (n1 _) (wV (OB _) (n1 _))))
 ·exact RI (n1 _) (RI (JV _ Zz (t2 _)) (n1 _))
def ato{k op:Int}{n:Nat}{p:Ps}:∀{ts:List Tn} {j:Nat},(∀u,u∈ts->∀q,Sm (wS u q))->∀l,l∈jI k op n p ts j->Sm l
 |[],j,_,l,hl=>by rw[jI] at hl;cases hl
 |t::ts,j,h,l,hl=>by
  rw[jI] at hl;rcases List.mem_cons.1 hl with rfl|hl
  ·exact JV _ (h t ZK _) (wV (OB _) (RI (h t ZK _) (wV (OB _) Zz)))
  ·exact ato (λu hu=>h u (Yw _ hu)) l hl
def atp(t:Tn):Uu t->∀p,Sm (wS t p):=by refine Tn.ind (P:=λt=>Uu t->∀p,Sm (wS t p)) ?_ t;intro k op x y ks ih h p;rw[Uu] at h;rw[wS];exact aIg h.1.1 (ato λu hu q=>ih u hu (yt h.2 hu) q)
def aza{k op:Int}{n:Nat}{p:Ps}{j:Nat}{u:Tn}(h:Uu u):Sm (vT k op n p j u):=
 JV _ (atp u h _) (wV (OB _) (RI (atp u h _) (wV (OB _) Zz)))
def azb(t:Tn):Gw t->Yv t->∀p,wS t p≠[]:=by
 refine Tn.ind (P:=λt=>Gw t->Yv t->∀p,wS t p≠[]) ?_ t;intro k op x y ks ih hok he p;have hc:=RH hok;have he':=he;simp only[Yv,Tn.kind] at he';have ih':∀i u,ks[i]? =some u->∀q,wS u q≠[]:=λi u e q=>by obtain⟨h1,h2⟩:=acX hok he' e;exact ih u (zZ e) h2 h1 q
 have kne:∀i u,ks[i]? =some u->vT k op ks.length p i u≠[]:=by
  intro i u e;unfold vT;cases(qP k i||fits u.kind u.op (dN k op ks.length i p)) with
  |true=>exact ih' i u e _
  |false=>simp
 rw[wS];have hk:k=1∨k=2∨k=3∨k=4∨k=5∨k=7∨k=8∨k=6∨k=9∨k=10∨k=11∨k=13∨k=14∨(k=12∨k=15):=ak;rcases hk with rfl|rfl|rfl|rfl|rfl|rfl|rfl|rfl|rfl|rfl|rfl|rfl|rfl|hk
 iterate 13 simp[Jd]
 obtain⟨u,v,rfl⟩:=OA (hc.two ak);have h0:vT k op 2 p 0 u≠[]:=kne 0 u rfl;rcases hk with rfl|rfl
 ·rw[Zx];simp[Jd,CZ,h0]
 ·rw[Zx];simp[Jd,CZ,h0]
def atq{k op:Int}{n:Nat}{p:Ps}{j:Nat}{u:Tn}(h1:Gw u)(h2:Yv u):vT k op n p j u≠[]:=by
 unfold vT;cases(qP k j||fits u.kind u.op (dN k op n j p)) with
 |true=>exact azb u h1 h2 _
 |false=>simp
def gY(s:aB):(mP s).size=1:=by simp[mP,Tn.size,sizes]
def ZA:VY.size=1:=by simp[VY,Tn.size,sizes]
def ade:TU.size=1:=by simp[TU,Tn.size,sizes]
def Xq(d:Tn):(Ym d).size=d.size+1:=by simp[Ym,Tn.size,sizes]
def atr(d:Tn):(aqa d).size=d.size+1:=by simp[aqa,Tn.size,sizes]
def pX(l:List Tn):(o7 l).size=sizes l+1:=by simp[o7,Tn.size]
def aei:∀(L:List Tn) (b:Bool),sizes (Um b L)<=sizes L+2 * L.length
 |[],b=>by rw[Um];simp[sizes]
 |x::l,b=>by have:=aei l false;cases b<;>simp only[Um,aI,aS,jP,sizes,gY,ZA,lU]<;>omega
def aiF(L:List Tn):(acW L).size<=sizes L+2 * L.length+3:=by have:=aei L true;rw[acW,atr,Xq,pX];omega
def ak9:∀(L:List Tn) (j:Nat),(yZ L j).size<=sizes L+1
 |[],j=>by simp[yZ,sizes,gY]
 |x::l,0=>by simp only[yZ,List.getElem?_cons_zero,Option.getD_some,sizes];omega
 |x::l,j+1=>by have:=ak9 l j;simp only[yZ,List.getElem?_cons_succ,sizes] at this⊢;omega
def arV:∀(L:List Tn),(yZ L 0).size+((yZ L 1).size+(yZ L 2).size)<=sizes L+3
 |[]=>by simp[yZ,sizes,gY]
 |[x]=>by simp[yZ,sizes,gY]
 |[x,y]=>by simp[yZ,sizes,gY];omega
 |x::y::z::l=>by simp[yZ,sizes];omega
def Dc{a b:Tn}{N:Nat}(c:Bool)(ha:a.size<=N)(hb:b.size<=N):(bif c then a else b).size<=N:=by cases c<;>assumption
def auS(k op:Int)(n:Nat)(x:aB)(g:Bool)(L:List Tn):(Zl k op n x g L).size<=sizes L+2 * L.length+9:=by
 have h1:=aiF L;have h2:=ak9 L 0;have h3:=arV L;unfold Zl;refine Dc _ ?_ (Dc _ ?_ (Dc _ ?_ (Dc _ ?_ (Dc _ ?_ (Dc _ ?_ (Dc _ ?_ (Dc _ ?_ (Dc _ (Dc _ ?_ ?_) (Dc _ ?_ (Dc _ ?_ ?_))))))))))
 all_goals(simp only[gY,pX,atr,Xq,ZA,sizes]<;>omega)
def adf(k op:Int)(n:Nat)(p:Ps):∀(ts:List Tn) (j:Nat),(tX k op n p ts j).length=ts.length
 |[],j=>by simp[tX]
 |t::ts,j=>by rw[tX,lU,adf k op n p ts (j+1),lU]
def QT(k op:Int)(n:Nat)(p:Ps)(j:Nat)(u:Tn):Tn:=bif qP k j||fits u.kind u.op (dN k op n j p) then qQ u (dN k op n j p) else o7 [mP [40],qQ u .top,mP [41]]
def aiG(a:Tn):(o7 [mP [40],a,mP [41]]).size=a.size+3:=by simp only[pX,gY,sizes];omega
def ala{k op:Int}{n:Nat}{p:Ps}{j:Nat}{u:Tn}(h:∀q,(qQ u q).size+6<=16 * u.size):(QT k op n p j u).size+3<=16 * u.size:=by
 unfold QT;cases(qP k j||fits u.kind u.op (dN k op n j p)) with
 |true=>have:=h (dN k op n j p);rw[aI];omega
 |false=>have:=h .top;rw[aS,aiG];omega
def aiH{k op:Int}{n:Nat}{p:Ps}:∀{ts:List Tn} {j:Nat},(∀u,u∈ts->∀q,(qQ u q).size+6<=16 * u.size)->sizes (tX k op n p ts j)+3 * ts.length<=16 * sizes ts
 |[],j,_=>by rw[tX];simp[sizes]
 |t::ts,j,h=>by
  have h1:=ala (k:=k) (op:=op) (n:=n) (p:=p) (j:=j) (h t ZK);have h2:=aiH (k:=k) (op:=op) (n:=n) (p:=p) (ts:=ts) (j:=j+1) λu hu=>h u (Yw _ hu)
  unfold QT at h1;rw[tX,sizes,sizes,lU];omega
def OC(t:Tn):∀q,(qQ t q).size+6<=16 * t.size:=by refine Tn.ind (P:=λt=>∀q,(qQ t q).size+6<=16 * t.size) ?_ t;intro k op x y ks ih q;have h1:=auS k op ks.length x (akW op (jI k op ks.length q ks 0)) (tX k op ks.length q ks 0);have h2:=aiH (k:=k) (op:=op) (n:=ks.length) (p:=q) (ts:=ks) (j:=0) ih;rw[adf] at h1;rw[qQ,Tn.size];omega
def nR(t:Tn)(q:Ps):(C9 t q).size+3<=16 * t.size:=by
 have h1:=OC t q;have h2:=OC t .top;unfold C9;cases fits t.kind t.op q with
 |true=>rw[aI];omega
 |false=>rw[aS,aiG];omega
def aej:∀(L:List Tn) (j:Nat),(zS L j).size<=sizes L+1
 |[],j=>by simp[zS,sizes,Tn.size]
 |x::l,0=>by simp[zS,sizes];omega
 |x::l,j+1=>by have:=aej l j;simp only[zS,List.getElem?_cons_succ,sizes] at this⊢;omega
def UZ(t:Tn):(Vz t).size<=16 * t.size:=by
 have h:=nR t .top;have hp:=t.size_pos;unfold Vz Lr;refine Dc _ ?_ ?_
 ·rw[gY];omega
 ·rw[pX];simp only[sizes,gY];omega
def OD(p:Ps)(L:List Tn):(Rf p L).size<=16 * sizes L+3:=by
 have h:∀L:List Tn,sizes (L.map λt=>C9 t p)+3 * L.length<=16 * sizes L:=by
  intro L;induction L with
  |nil=>simp[sizes]
  |cons t l ih=>have:=nR t p;simp only[Rh,sizes,lU];omega
 have h1:=aiF (L.map λt=>C9 t p);have h2:=h L;rw[List.length_map] at h1;unfold Rf;omega
def ZB:∀L:List Tn,sizes (Gt L)=sizes L+L.length
 |[]=>rfl
 |d::l=>by have:=ZB l;simp only[Gt,sizes,ade,lU];omega
def auT(L:List Tn):(amH L).size=sizes L+L.length+6:=by have:=ZB L;simp only[amH,pX,Xq,sizes,gY,ade];omega
def take_size:∀(ks:List Tn) (n:Nat),sizes (ks.take n)<=sizes ks
 |[],n=>by simp[sizes]
 |t::ts,0=>by simp[sizes]
 |t::ts,n+1=>by have:=take_size ts n;simp only[List.take_succ_cons,sizes];omega
def isS(t:Tn):Prop:=20<=t.kind∧t.kind<=34
def abK:∀{ks:List Tn},(∀u,u∈ks->(iU u).size+2<=40 * u.size)->sizes (oL ks)+2 * ks.length<=40 * sizes ks
 |[],_=>by simp[oL,sizes]
 |t::ts,h=>by
  have h1:=h t ZK;have h2:=abK (ks:=ts) λu hu=>h u (Yw _ hu)
  rw[oL,sizes,sizes,lU];omega
def QU:∀ks:List Tn,(oL ks).length=ks.length
 |[]=>rfl
 |t::ts=>by rw[oL,lU,QU ts,lU]
def auU(op:Int)(y:aB)(ks:List Tn):(amI op y ks).size<=32 * sizes ks+27:=by
 have h1:=OD ⟨1,false,false,true,false⟩ (bif y==[] then ks else ks.take (ks.length - 1));have h2:sizes (bif y==[] then ks else ks.take (ks.length - 1))<=sizes ks:=by
  cases(y==[]) with
  |true=>exact Nat.le_refl _
  |false=>exact take_size _ _
 have h3:=nR (zS ks (ks.length - 1)) ⟨9,false,false,false,false⟩;have h4:=aej ks (ks.length - 1);unfold amI;generalize (bif y==[] then ks else ks.take (ks.length - 1))=args at *;simp only[pX,jP,sizes,gY];cases Nat.blt 0 args.length<;>cases(y==[])<;>simp only[aI,aS,sizes,gY]<;>omega
def aiI(w:aB)(ks:List Tn):(aaL w ks).size<=16 * sizes ks+2:=by
 cases ks with
 |nil=>simp[aaL,gY]
 |cons t l=>have:=UZ t;simp only[aaL,pX,sizes,gY];omega
def amX{α:Type}{l:List α}(h:l.length=4):∃a b c d,l=[a,b,c,d]:=by
 match l,h with
 |[a,b,c,d],_=>exact⟨a,b,c,d,rfl⟩
def amY{α:Type}{l:List α}(h:l.length=2):∃a b,l=[a,b]:=by
 match l,h with
 |[a,b],_=>exact⟨a,b,rfl⟩
def auV{α:Type}{l:List α}(h:l.length=3):∃a b c,l=[a,b,c]:=by
 match l,h with
 |[a,b,c],_=>exact⟨a,b,c,rfl⟩
def atu{k op:Int}{x y:aB}{ks:List Tn}(h:Gw (Tn.mk k op x y ks)){i:Nat}{t:Tn}(e:ks[i]? =some t)(hc:cls k op ks.length i=1∨cls k op ks.length i=2):isS t∧Gw t:=by obtain⟨h1,h2⟩:=Oz h e;refine⟨?_,h2⟩;unfold isS;rcases hc with hc|hc<;>rw[hc] at h1<;>simp only[DJ] at h1<;>omega
def Yg(t:Tn):Gw t->isS t->(iU t).size+2<=40 * t.size:=by
 refine Tn.ind (P:=λt=>Gw t->isS t->(iU t).size+2<=40 * t.size) ?_ t;intro k op x y ks ih hok hs;have hc:=RH hok;simp only[isS,Tn.kind] at hs;have ihk:∀{i:Nat} {u:Tn},ks[i]? =some u->(cls k op ks.length i=1∨cls k op ks.length i=2)->(iU u).size+2<=40 * u.size:=by intro i u e hcl;obtain⟨h1,h2⟩:=atu hok e hcl;exact ih u (zZ e) h2 h1
 rw[iU,Tn.size];have hk:k=20∨k=21∨k=22∨k=23∨k=24∨k=25∨k=26∨k=27∨k=28∨k=29∨k=30∨k=31∨k=32∨k=33∨k=34:=ak;rcases hk with rfl|rfl|rfl|rfl|rfl|rfl|rfl|rfl|rfl|rfl|rfl|rfl|rfl|rfl|rfl<;>simp only[afY,Int.reduceBEq,aI,aS]
 ·have h1:=nR (zS ks 0) .top;have h2:=aej ks 0;unfold Lr;omega
 ·have:=auU op y ks;omega
 ·rw[gY];omega
 ·have:=aiI [101,120,105,116] ks;omega
 ·have:=aiI [114,101,116,117,114,110] ks;omega
 ·rw[gY];omega
 ·rw[gY];omega
 ·cases ks with
  |nil=>rw[gY];omega
  |cons u l=>have:=OD .top (u::l);simp only[pX,gY,sizes] at this⊢;omega
 ·rcases hc.cnd rfl with h2|h3
  ·obtain⟨u,v,rfl⟩:=amY h2;have a0:=nR u .top;have a1:=ihk (i:=1) (u:=v) rfl (by simp[cls]);simp[yZ,zS,oL,Lr,pX,gY,sizes,show Nat.blt 2 2=false from rfl] at *;omega
  ·obtain⟨u,v,z,rfl⟩:=auV h3;have a0:=nR u .top;have a1:=ihk (i:=1) (u:=v) rfl (by simp[cls]);have a2:=ihk (i:=2) (u:=z) rfl (by simp[cls]);simp[yZ,zS,oL,Lr,pX,gY,sizes,show Nat.blt 2 3=true from rfl] at *;omega
 ·obtain⟨u,v,rfl⟩:=amY (hc.two ak);have a0:=nR u .top;have a1:=ihk (i:=1) (u:=v) rfl (by simp[cls]);simp[yZ,zS,oL,Lr,pX,gY,sizes] at *;omega
 ·obtain⟨u,v,rfl⟩:=amY (hc.two ak);have a0:=nR v .top;have a1:=ihk (i:=0) (u:=u) rfl (by simp[cls]);simp[yZ,zS,oL,Lr,pX,gY,sizes] at *;omega
 ·obtain⟨u,v,z,q,rfl⟩:=amX (hc.four rfl);have a0:=nR u ⟨1,false,true,false,false⟩;have a1:=UZ v;have a2:=UZ z;have a3:=ihk (i:=3) (u:=q) rfl (by simp[cls]);have a4:(bif u.kind==16 then mP [] else(C9 u) ⟨1,false,true,false,false⟩).size<=16 * u.size:=by
   refine Dc _ ?_ ?_
   ·have:=u.size_pos;rw[gY];omega
   ·omega
  simp[yZ,zS,oL,pX,gY,sizes] at *;omega
 ·obtain⟨u,rfl⟩:=zlo.1 (hc.one ak);have a1:=ihk (i:=0) (u:=u) rfl (by simp[cls]);simp[yZ,zS,oL,pX,gY,sizes] at *;omega
 ·have h1:=auT (oL ks);have h2:=abK (ks:=ks) λu hu=>by obtain⟨i,hi⟩:=List.mem_iff_getElem?.1 hu;exact ihk hi (by simp[cls])
  rw[QU] at h1;omega
 ·rw[gY];omega
def aCh(l:List Nd)(o:Bool)(d:Int)(hl:l.length<=90000000)(hk:∀n,n∈l->n.kids.length<=90000000∧∀e,e∈n.kids-> -4000000000<=e+d∧e+d<=4000000000):
  M.rX (dw o l) d=some (dw true (l.map (Nd.up d))):=by
 simp only[M.rX,M.Nq];have hloop:=fJ (b:=M.FT (dw o l) d) (t:=((l.length:Int),dw true (l.map (Nd.up d)))) (λi=>((i:Int),dw true ((l.take i).map (Nd.up d)))) l.length
  (by
   intro i hi;obtain⟨n,hn⟩:∃n,l[i]? =some n:=⟨l[i],by simp[hi]⟩
   obtain⟨hkl,hke⟩:=hk n (zZ hn);have hin:=fJ (b:=M.FQ (dw o l) d (i:Int) (dw true ((l.take i).map (Nd.up d))) n.kind n.op n.text) (t:=((n.kids.length:Int),encI (n.kids.map (· +d)))) (λj=>((j:Int),encI ((n.kids.take j).map (· +d)))) n.kids.length
    (by
     intro j hj;obtain⟨e,he⟩:∃e,n.kids[j]? =some e:=⟨n.kids[j],by simp[hj]⟩
     have:=hke e (zZ he);simp only[iY,M.FQ,M.zo,aW,vg,hn,Jb,ah,cD3,aU,lG,he,Lu,List.length_map,Ud,J3];rw[zdt ak,aI,aJ ak,aI,aJ ak,aI,aC ak ak,aC ak ak,dP he];simp[encI])
    (by simp only[iY,M.FQ,M.zo,aW,vg,hn,Jb,ah,cD3,aU];rw[nZ ak,aS,List.take_length]) 0 (Nat.zero_le _)
   simp only[pz,List.take_zero,List.map_nil] at hin;have hin':M.Kv (dw o l) d (i:Int) (dw true ((l.take i).map (Nd.up d))) n.kind n.op n.text (0,[])=some ((n.kids.length:Int),encI (n.kids.map (· +d))):=hin;simp only[iY,M.FT,M.zq,jA,aW,vg,hn,Jb,ah,cD0,cD1,cD2,cD3,hin',Ea,aI,List.length_map,Ud,J3];rw[zdt ak,aI,aJ ak,aI,aJ ak,aI,aC ak ak,dP hn,List.map_append,QO];rfl)
  (by simp only[iY,M.FT,M.zq,jA];rw[nZ ak,aS,List.take_length]) 0 (Nat.zero_le _)
 simp only[pz,List.take_zero,List.map_nil] at hloop;have xA:M.Kw (dw o l) d (0,[])=some ((l.length:Int),dw true (l.map (Nd.up d))):=hloop;rw[xA,ah]
def tY(ts:List Tn):aA:=ts.map λt=>[.sl false 4 (dw false (t.flat 0))]
def amZ(t:Tn)(n:Nd)(hn:n∈t.flat 0):n.kids.length<=t.size∧∀e,e∈n.kids->0<=e∧e<t.size:=by obtain⟨h1,h2⟩:=Xk t 0 n hn;refine⟨ak,λe he=> ?_⟩;have:=h2 e he;omega
def arW(k op:Int)(ts:List Tn)(hs:sizes ts<=90000000):M.aH k op (tY ts)=some (dw true ((Tn.mk k op [] [] ts).flat 0)):=by
 have htl:=iZ ts;simp only[iY,M.aH,M.PK];have hpl:(tY ts).length=ts.length:=by simp[tY]
 have hloop:=fJ (b:=M.BK)
  (t:=if ts=[] then .inl (tY ts,0,[],k,op,[]) else .inr (tY ts,(ts.length:Int),dw true (iW ts 0),k,op,[],encI (ends ts 0)))
  (λj=>if j=0 then .inl (tY ts,0,[],k,op,[]) else .inr (tY ts,(j:Int),dw true (iW (ts.take j) 0),k,op,[],encI (ends (ts.take j) 0))) ts.length
  (by
   intro j hj;obtain⟨t,ht⟩:∃t,ts[j]? =some t:=⟨ts[j],by simp[hj]⟩
   have hst:=zQ ht;have hp:=t.size_pos;have hr:(tY ts)[j]? =some [.sl false 4 (dw false (t.flat 0))]:=by simp[tY,ht]
   have c0:OE 4 [D.sl false 4 (dw false (t.flat 0))] 0=some (dw false (t.flat 0)):=rfl;have hfl:(dw true (iW (ts.take j) 0)).length=sizes (ts.take j):=by rw[jA,lH]
   have hsh:M.rX (dw false (t.flat 0)) ((sizes (ts.take j):Nat):Int)=some (dw true (t.flat (sizes (ts.take j)))):=by
    rw[aCh (t.flat 0) false _ (by rw[t.flat_length];omega) (λn hn=> ?_)]
    ·rw[t.al7 0 (sizes (ts.take j))];congr 4<;>omega
    ·obtain⟨h1,h2⟩:=amZ t n hn;refine⟨ak,λe he=> ?_⟩;have:=h2 e he;omega
   have hrl:(dw true (t.flat (sizes (ts.take j)))).length=t.size:=by rw[jA,t.flat_length]
   have hel:(encI (ends (ts.take j) 0)).length=j:=by rw[aU,dQ,Ud];omega
   rw[if_neg (show¬j+1=0 by omega),ZX ht,X4 ht]
   by_cases h0:j=0
   ·subst h0;have hi:idx (tY ts) 0=some [.sl false 4 (dw false (t.flat 0))]:=by have:=aW (tY ts) 0;rw[pz] at this;rw[this,hr]
    rw[if_pos rfl];have z:sizes (ts.take 0)=0:=rfl;rw[z] at hsh hrl;have z2:(([]:aA).length:Int)=((0:Nat):Int):=rfl;simp only[iY,M.BK,M.wO,hpl,hi,ah,c0,z2,hsh,hrl,List.nil_append,qX,Nat.zero_add];rw[zdt ak,aI,aJ ak,aI,aJ ak,aI,aC ak ak,aC ak ak];simp[encI,dw,iW,ends,sizes]
   ·rw[if_neg h0];simp only[iY,M.BK,M.wO,hpl,aW,hr,ah,c0,hfl,hsh,hrl,hel,pF,J3];rw[zdt ak,aI,aJ ak,aI,aJ ak,aI,aJ ak,aI,aJ ak,aI,aC ak ak,aC ak ak,QO,Nat.zero_add];simp[encI])
  (by
   by_cases h0:ts=[]
   ·rw[if_pos (by rw[h0];rfl),if_pos h0];subst h0;rfl
   ·have h1:¬ts.length=0:=λe=>h0 (List.length_eq_zero_iff.1 e)
    rw[if_neg h1,if_neg h0,List.take_length];simp only[iY,M.BK,M.wO,hpl];rw[nZ ak,aS]) 0 (Nat.zero_le _)
 rw[if_pos rfl] at hloop;rw[M.Ns,hloop,ah]
 by_cases h0:ts=[]
 ·rw[if_pos h0];subst h0;rfl
 ·rw[if_neg h0];simp only[o8,letE,Ea,aI,jA,lH,J3];rw[aJ ak,aI,aJ ak,aI,Tn.flat,QO];rfl
mutual
def Df(w:Bool):Tn->Row
 | .mk k n x _ ks=>[.int .i64 k,.int .i64 n,.str x,.sl w 5 (nY w ks),.int .i64 0]
def nY(w:Bool):List Tn->aA
 |[]=>[]
 |t::ts=>Df w t::nY w ts
end
def Z9(w:Bool):∀ts:List Tn,nY w ts=ts.map (Df w)
 |[]=>rfl
 |t::ts=>by rw[nY,Z9 w ts];rfl
def yu(w:Bool)(a:List Tn):(nY w a).length=a.length:=by simp[Z9]
mutual
def aCi(w:Bool):∀t:Tn,qg (Df w t)=Df false t
 | .mk k n x y ks=>by have:=aiJ w ks;simp only[Df,qg,D.fz,this]
def aiJ(w:Bool):∀ts:List Tn,aP (nY w ts)=nY false ts
 |[]=>rfl
 |t::ts=>by rw[nY,aP,aCi w t,aiJ w ts,nY]
end
def a0q(t:Tn):∀(f:Nat) (w:Bool) (p:List Nd),t.size<=f->p.length+t.size<=90000000->
  M.lS f t.kind t.op t.text (nY w t.kids) 0 (dw true p)=some (dw true (p++t.flat p.length)):=by
 refine Tn.ind (P:=λt=>∀(f:Nat) (w:Bool) (p:List Nd),t.size<=f->p.length+t.size<=90000000->M.lS f t.kind t.op t.text (nY w t.kids) 0 (dw true p)=some (dw true (p++t.flat p.length))) ?_ t;intro k op x y ks ih f w p hf hp;cases f with
 |zero=>rw[Tn.size] at hf;omega
 |succ f=>
  rw[Tn.size] at hf hp;have hkl:=iZ ks;simp only[iY,M.lS,M.JG,Tn.kids,Tn.kind,Tn.op,Tn.text,yu];have hrec:∀j t,ks[j]? =some t->M.lS f t.kind t.op t.text (nY w t.kids) 0 (dw true (p++iW (ks.take j) p.length))=some (dw true (p++iW (ks.take (j+1)) p.length)):=by
   intro j t hj;have hst:=zQ hj;have hfl:(p++iW (ks.take j) p.length).length=p.length+sizes (ks.take j):=by rw[pF,lH]
   have:=ih t (zZ hj) f w (p++iW (ks.take j) p.length) ak (by rw[hfl];omega);rw[this,hfl,X4 hj,Ad]
  have hloop:=fJ (b:=M.wR (M.lS f))
   (t:=if ks=[] then .inl (nY w ks,(ks.length:Int),0,dw true p,k,op,x) else .inr (nY w ks,(ks.length:Int),(ks.length:Int),dw true (p++iW ks p.length),k,op,x,encI (ends ks p.length)))
   (λj=>if j=0 then .inl (nY w ks,(ks.length:Int),0,dw true p,k,op,x) else .inr (nY w ks,(ks.length:Int),(j:Int),dw true (p++iW (ks.take j) p.length),k,op,x,encI (ends (ks.take j) p.length))) ks.length
   (by
    intro j hj;obtain⟨t,ht⟩:∃t,ks[j]? =some t:=⟨ks[j],by simp⟩
    have hr:=hrec j t ht;have hst:=zQ ht;have hp1:=t.size_pos;have hg:(nY w ks)[j]? =some (Df w t):=by rw[Z9];simp[ht]
    have hc0:aY .i64 (Df w t) 0=some t.kind:=by cases t;rfl
    have hc1:aY .i64 (Df w t) 1=some t.op:=by cases t;rfl
    have hc2:cStr (Df w t) 2=some t.text:=by cases t;rfl
    have hc3:OE 5 (Df w t) 3=some (nY w t.kids):=by cases t;rfl
    have hc4:aY .i64 (Df w t) 4=some 0:=by cases t;rfl
    have hfl:(dw true (p++iW (ks.take (j+1)) p.length)).length=p.length+sizes (ks.take j)+t.size:=by rw[jA,pF,lH,dP ht,jP,sizes,sizes];omega
    rw[if_neg (show¬j+1=0 by omega),ZX ht]
    by_cases h0:j=0
    ·subst h0;rw[if_pos rfl];have hi:idx (nY w ks) 0=some (Df w t):=by have:=aW (nY w ks) 0;rw[pz] at this;rw[this,hg]
     have hr0:M.lS f t.kind t.op t.text (nY w t.kids) 0 (dw true p)=some (dw true (p++iW (ks.take (0+1)) p.length)):=by rw[<-hr];simp[iW]
     simp only[iY,M.wR,M.tC,hi,ah,hc0,hc1,hc2,hc3,hc4,hr0,hfl];rw[zdt ak,aI,aC ak ak,aC ak ak];rfl
    ·rw[if_neg h0];simp only[iY,M.wR,M.tC,aW,hg,ah,hc0,hc1,hc2,hc3,hc4,hr,hfl,aU,dQ,Ud,J3];rw[zdt ak,aI,aJ ak,aI,aJ ak,aI,aC ak ak,aC ak ak];simp[encI])
   (by
    by_cases h0:ks.length=0
    ·have he:ks=[]:=List.length_eq_zero_iff.1 h0;rw[if_pos h0,if_pos he];simp only[iY,M.wR,M.tC];rw[nZ ak,aS]
    ·have he:¬ks=[]:=λe=>h0 (by rw[e];rfl)
     rw[if_neg h0,if_neg he,List.take_length];simp only[iY,M.wR,M.tC];rw[nZ ak,aS]) 0 (Nat.zero_le _)
  rw[if_pos rfl] at hloop;rw[M.N9,hloop,ah]
  by_cases he:ks=[]
  ·rw[if_pos he];subst he;simp only[o8,jA,J3];rw[aJ ak,aI,aJ ak,aI,QO];rfl
  ·rw[if_neg he];simp only[o8,letE,jA,pF,lH,J3,Ea,aI];rw[aJ ak,aI,aJ ak,aI,Tn.flat,<-Ad];simp only[QO];rfl
def Gu(t:Tn):Int×Int×aB×aA×Int:=(t.kind,t.op,t.text,nY false t.kids,0)
section
variable (t:Tn) (s:aB) (L:List Tn) (a b c d e f g h:Tn)
def LD:(Gu t).1=t.kind:=rfl
def LG:(Gu t).2.1=t.op:=rfl
def LH:(Gu t).2.2.1=t.text:=rfl
def LJ:(Gu t).2.2.2.1=nY false t.kids:=rfl
def LK:(Gu t).2.2.2.2=0:=rfl
def LM:aP (nY false L)=nY false L:=aiJ false L
def fE:([D.int .i64 t.kind,D.int .i64 t.op,D.str t.text,D.sl false 5 (nY false t.kids),D.int .i64 0]:Row)=Df false t:=by cases t;rfl
def bT:(t.kind,t.op,t.text,nY false t.kids,(0:Int))=Gu t:=rfl
def kN:M.aN s=some (Gu (mP s)):=rfl
def aek:M.wM=some (Gu VY):=rfl
def aqw:M.bG (nY false L)=some (Gu (o7 L)):=rfl
def ajP:M.bG [Df false a,Df false b]=some (Gu (o7 [a,b])):=rfl
def ajQ:M.bG [Df false a,Df false b,Df false c]=some (Gu (o7 [a,b,c])):=rfl
def auW:M.bG [Df false a,Df false b,Df false c,Df false d]=some (Gu (o7 [a,b,c,d])):=rfl
def a0r:M.bG [Df false a,Df false b,Df false c,Df false d,Df false e]=some (Gu (o7 [a,b,c,d,e])):=rfl
def aiK:M.uf t.kind t.op t.text (nY false t.kids) 0=some (Gu (Ym t)):=by cases t;rfl
def agB:M.sK t.kind t.op t.text (nY false t.kids) 0=some (Gu (aqa t)):=by cases t;rfl
end
def Gv:∀a b:List Tn,nY false (a++b)=nY false a++nY false b:=λa b=>by simp[Z9]
def ael:∀(L:List Tn) (b:Bool) (x:Tn),Um b (L++[x])=Um b L++(bif L.isEmpty && b then[x] else[mP [44],VY,x])
 |[],b,x=>by cases b<;>simp[Um]
 |y::L,b,x=>by rw[VE,Um,Um,ael L false x];simp
def aiL:∀(L:List Tn) (b:Bool),(Um b L).length<=3 * L.length
 |[],b=>by simp[Um]
 |y::L,b=>by have:=aiL L false;cases b<;>simp only[Um,aI,aS,pF,lU,qX]<;>omega
def psD(p:Ps)(ks:List Tn):List Tn:=ks.map λu=>C9 u p
def adg(p:Ps)(ks:List Tn):(psD p ks).length=ks.length:=by simp[psD]
def aqx(p:Ps)(ks:List Tn):Rf p ks=acW (psD p ks):=rfl
def aiM{ks:List Tn}{p:Ps}{b:Int×aA->Option ((Int×aA)⊕(Int×aA))}(hu:ks.length<=1048576)
  (hb:∀(j:Nat) u (L:List Tn),ks[j]? =some u->L.length<=4000000->b ((j:Int),nY false L)=some (.inl (((j+1:Nat):Int),nY false (L++(if j=0 then[C9 u p] else[mP [44],VY,C9 u p])))))
  (he:∀r,b ((ks.length:Int),r)=some (.inr ((ks.length:Int),r))):
  dI b (0,[])=some ((ks.length:Int),nY false (Um true (psD p ks))):=by
 have:=fJ (b:=b) (t:=((ks.length:Int),nY false (Um true (psD p ks)))) (λj=>((j:Int),nY false (Um true (psD p (ks.take j))))) ks.length
  (by
   intro j hj;obtain⟨u,hu'⟩:∃u,ks[j]? =some u:=⟨ks[j],by simp[hj]⟩
   have hl:=aiL (psD p (ks.take j)) true;rw[adg,Ud] at hl;rw[hb j u _ hu' ak,dP hu'];have e:psD p (ks.take j++[u])=psD p (ks.take j)++[C9 u p]:=by simp[psD]
   rw[e,ael]
   by_cases h0:j=0
   ·subst h0;rfl
   ·have z:(psD p (ks.take j)).isEmpty=false:=by
     cases hq:psD p (ks.take j) with
     |nil=>have:=adg p (ks.take j);rw[hq,qX,Ud] at this;omega
     |cons _ _=>rfl
    rw[if_neg h0,z,Bool.false_and,aS])
  (by rw[he,List.take_length]) 0 (Nat.zero_le _)
 exact this
def azc{k op:Int}{x y:aB}{ks:List Tn}(w:Bool)(hu:sizes ks<=1048575):M.kL k op x y (cZ w ks)=some (k,op,x,y,encI (iota ks.length)):=by
 have hkl:=iZ ks;have hn:=agy k op x y (cZ w ks) (by rw[fB];omega)
 rwa [fB] at hn
def DT(u:Tn):Prop:=∀(w:Bool) (f:Nat) (p:Ps),5 * u.size<=f->nJ p=true->
 M.EM f u.kind u.op u.text u.other (cZ w u.kids) p.level p.ny p.tN p.tV p.lV=some (Gu (qQ u p))
def arX{u:Tn}(hD:DT u){w:Bool}{f:Nat}{p:Ps}(hf:5 * u.size+1<=f)(hp:nJ p=true)(hu:u.size<=1048576):
  M.zI f u.kind u.op u.text u.other (cZ w u.kids) p.level p.ny p.tN p.tV p.lV=some (Gu (C9 u p)):=by
 obtain⟨g,rfl⟩:∃g,f=g+1:=⟨f - 1,ak⟩
 have h1:=hD w g p ak hp;have h2:=hD w g .top ak rfl;simp only[Ps.top] at h2;rw[M.ahT];simp only[iY,M.EK,agy u.kind u.op u.text u.other _ (atm hu w),ah,(ags u.kind u.op u.text u.other _ p).1,C9];cases fits u.kind u.op p with
 |true=>simp only[aI,h1,ah,LD,LG,LH,LJ,LK,LM,bT]
 |false=>simp only[aS,kN,DF.1,h2,ah,LD,LG,LH,LJ,LK,LM,fE,ajQ,bT,Ps.top]
section
variable {k op:Int} {x y:aB} {ks:List Tn} (ih:∀u,u∈ks->DT u)
include ih
theorem aEo{w:Bool}{f:Nat}{p:Ps}{j:Nat}{u:Tn}(hj:ks[j]? =some u)(hf:5 * u.size+2<=f)(hp:nJ p=true)(hlv:lvl k op≠0)(hu:sizes ks<=1048575):
  M.DC f k op x y (cZ w ks) (j:Int) p.level p.ny p.tN p.tV p.lV=some (Gu (QT k op ks.length p j u)):=by
 obtain⟨g,rfl⟩:∃g,f=g+1:=⟨f - 1,ak⟩
 have hkl:=iZ ks;have hju:=(Md.1 hj).1;have hus:=iw (zZ hj);have hg:=Aw w hj;obtain⟨c0,c1,c2,c3,c4⟩:=jO w u;have hkp:=Zn k op x y (encI (iota ks.length)) j p (by rw[aU,TW];omega);rw[aU,TW] at hkp;have hq:=wU (n:=ks.length) (j:=j) hp hju hlv;have e1:=ih u (zZ hj);have h1:=e1 w g (dN k op ks.length j p) ak hq;have h2:=arX e1 (w:=w) (f:=g) (p:=dN k op ks.length j p) ak hq ak;rw[M.ajJ];simp only[iY,M.Hz,azc w hu,ah,hg,c0,c1,c2,c3,c4,hkp,Ps.DL,aff,QT];unfold C9 at h2;cases htg:qP k j with
 |true=>simp only[aI,Bool.true_or,h1,ah,LD,LG,LH,LJ,LK,LM,bT]
 |false=>simp only[aS,Bool.false_or,h2,ah,LD,LG,LH,LJ,LK,LM,bT]
theorem azd{w:Bool}{f:Nat}(hf:5 * sizes ks+2<=f)(hu:sizes ks<=1048575):
  M.EL f (cZ w ks)=some (Gu (Rf .top ks)):=by
 obtain⟨g,rfl⟩:∃g,f=g+1:=⟨f - 1,ak⟩
 have hkl:=iZ ks;rw[M.ahU];simp only[iY,M.EJ,M.NU,fB];rw[aiM (ks:=ks) (p:=.top) ak (λj u L hj hL=> ?_) (λr=> ?_)]
 ·simp only[ah,aqw,LD,LG,LH,LJ,LK,LM,aiK,agB,bT];rfl
 ·have hjl:=(Md.1 hj).1;have hus:=iw (zZ hj);obtain⟨c0,c1,c2,c3,c4⟩:=jO w u;have h1:=arX (ih u (zZ hj)) (w:=w) (f:=g) (p:=.top) ak rfl ak;simp only[Ps.top] at h1;have hw:i64.wrap ((j:Int)+1)=((j+1:Nat):Int):=by rw[aC ak ak];omega
  simp only[iY,M.Qo,M.CB,Aw w hj,c0,c1,c2,c3,c4,ah,kN,aek,M.Jo,M.UK,DF.1,h1,LD,LG,LH,LJ,LK,LM,fE,yu,pF,lU,qX,hw];rw[zdt ak,aI]
  by_cases h0:j=0
  ·subst h0;rw[nZ ak,aS,aJ ak,aI,aJ ak,aI,if_pos rfl,Gv];rfl
  ·rw[zdt ak,aI,aJ ak,aI,aJ ak,aI,aJ ak,aI,aJ ak,aI,if_neg h0,Gv,Ad];rfl
 ·simp only[iY,M.Qo,M.CB];rw[nZ ak,aS]
end
def Dh{n:Nat}(h:n<=8000000):n.ble 9223372036854775807=true:=aJ ak
def Wx(k op:Int)(n:Nat)(p:Ps)(u:Tn):tX k op n p [u] 0=[QT k op n p 0 u]:=by rw[tX,tX];rfl
def am0(k op:Int)(n:Nat)(p:Ps)(u v:Tn):tX k op n p [u,v] 0=[QT k op n p 0 u,QT k op n p 1 v]:=by rw[tX,tX,tX];rfl
def aze(k op:Int)(n:Nat)(p:Ps)(u v z:Tn):tX k op n p [u,v,z] 0=[QT k op n p 0 u,QT k op n p 1 v,QT k op n p 2 z]:=by rw[tX,tX,tX,tX];rfl
def aiN{k op:Int}{n:Nat}{p:Ps}(ht:∀j,qP k j=false)(hq:∀j,j<n->dN k op n j p=.top):∀(ts:List Tn) (j:Nat),j+ts.length=n->tX k op n p ts j=psD .top ts
 |[],j,_=>by rw[tX];rfl
 |t::ts,j,hj=>by rw[lU] at hj;rw[tX,hq j ak,ht j,aiN ht hq ts (j+1) ak,Bool.false_or];rfl
def Ua{k op:Int}{ks:List Tn}{p:Ps}(hp:nJ p=true)(h:(lvl k op=15)∨(k=13∧Nat.blt 1 ks.length=true∧lvl k op≠0))(ht:∀j,qP k j=false):tX k op ks.length p ks 0=psD .top ks:=by
 refine aiN ht (λj hj=> ?_) ks 0 ak;rcases h with h|⟨h1,h2,h3⟩
 ·exact JL hp hj h
 ·have hb:Nat.blt j ks.length=true:=by rw[Nat.blt_eq];exact hj
  have h4:(lvl k op==0)=false:=by simpa using h3
  subst h1;unfold dN;rw[hp,hb,h4,h2];simp
def aCj{op:Int}{x y:aB}{u:Tn}(hD:DT u)(hT:PT u)(hok:Gw u)(he:Yv u)(hs:Uu u){w:Bool}{f:Nat}{p:Ps}(hc:Cnt 11 op y 1)(hf:5 * u.size+3<=f)(hp:nJ p=true)(hu:u.size<=1048575):
  M.He f 11 op x y (cZ w [u]) p.level p.ny p.tN p.tV p.lV=some (Gu (qQ (.mk 11 op x y [u]) p)):=by
 obtain⟨g,rfl⟩:∃g,f=g+1:=⟨f - 1,ak⟩
 have ihD:∀v,v∈[u]->DT v:=by intro v hv;rw[List.mem_singleton.1 hv];exact hD
 have ihT:∀v,v∈[u]->PT v:=by intro v hv;rw[List.mem_singleton.1 hv];exact hT
 have hs1:=sz1 u;have hlv:lvl 11 op≠0:=by simp[lvl]
 have hI:I64 op:=by rcases hc.una rfl with rfl|rfl|rfl<;>constructor<;>decide
 have h1:=aEo ihD (w:=w) (f:=g) (p:=p) (x:=x) (y:=y) (k:=11) (op:=op) (j:=0) (u:=u) rfl ak hp hlv ak;obtain⟨sp,h2,h3,h4⟩:=TY ihT (w:=w) (f:=5 * u.size+2) (p:=p) (toks:=[]) (sp:=[]) (x:=x) (y:=y) (op:=op) (k:=11) (j:=0) (u:=u) rfl ak hp hlv rfl (by simp only[qX];omega) (by simp only[qX];omega) ak;have h2':=M.aak h2;rw[pz] at h1 h2';have e0:bZ []=[]:=rfl;rw[e0,List.nil_append] at h2';rw[qQ,Wx,Uo,M.afN];have hne:=atq (k:=11) (op:=op) (n:=[u].length) (p:=p) (j:=0) hok he;have hsm:=aza (k:=11) (op:=op) (n:=[u].length) (p:=p) (j:=0) hs;generalize vT 11 op [u].length p 0 u=K at *;cases K with
 |nil=>exact absurd rfl hne
 |cons b K=>have hsl:=OQ op;have hg:M.qo op (spell op) 0 b.kind b.text b.at_=some (wJ (tok op) b):=Xm (tok op) b (by show(spell op).length<=_;omega) (by have:=hsm b ZK;omega);have i0:idx (bZ (b::K)) 0=some (YU b):=rfl;have i1:(bZ (b::K))[0]? =some (YU b):=rfl;simp(disch:=omega) only[iY,M.Aq,h2',ah,(nP op hI).2,(mX op hI).1,i0,i1,cT0,cT1,cT2,hg,h1,kN,LD,LG,LH,LJ,LK,LM,fE,ajP,bT,Dh];have ha:Zl 11 op [u].length x (akW op [b::K]) [QT 11 op [u].length p 0 u]=o7 [mP (bif wJ (tok op) b then spell op++[32] else spell op),QT 11 op [u].length p 0 u]:=rfl;rw[ha];cases wJ (tok op) b<;>rfl
set_option maxHeartbeats 2000000 in
def azf(t:Tn):Gw t->Yv t->Uu t->t.size<=1048576->DT t:=by
 refine Tn.ind (P:=λt=>Gw t->Yv t->Uu t->t.size<=1048576->DT t) ?_ t;intro k op x y ks ih hok he hsm hsz;intro w f p hf hp;have hc:=RH hok;have he':=he;simp only[Yv,Tn.kind] at he';rw[Uu] at hsm;obtain⟨⟨hx,hy⟩,hss⟩:=hsm;rw[Tn.size] at hsz hf;have hkE:∀u,u∈ks->Gw u∧Yv u∧Uu u:=by intro u hu;obtain⟨i,hi⟩:=List.mem_iff_getElem?.1 hu;obtain⟨h1,h2⟩:=acX hok he' hi;exact⟨h2,h1,yt hss hu⟩
 have ih':∀u,u∈ks->DT u:=by intro u hu;obtain⟨h1,h2,h3⟩:=hkE u hu;have:=iw hu;exact ih u hu h1 h2 h3 ak
 obtain⟨g,rfl⟩:∃g,f=g+1:=⟨f - 1,ak⟩
 have hlv:lvl k op≠0:=by have:=V3 he' hc;omega
 have hL:=azd ih' (w:=w) (f:=g) ak ak;have hK:∀(j:Nat) u,ks[j]? =some u->M.DC g k op x y (cZ w ks) (j:Int) p.level p.ny p.tN p.tV p.lV=some (Gu (QT k op ks.length p j u)):=by intro j u hj;have:=iw (zZ hj);exact aEo ih' (w:=w) (f:=g) (p:=p) (x:=x) (y:=y) (k:=k) (op:=op) hj ak hp hlv ak
 simp only[Tn.kind,Tn.op,Tn.text,Tn.other,Tn.kids];rw[M.ahV];have hk:k=1∨k=2∨k=3∨k=4∨k=5∨k=7∨k=8∨k=9∨k=10∨k=6∨k=11∨k=14∨k=13∨k=12∨k=15:=ak;rcases hk with rfl|rfl|rfl|rfl|rfl|rfl|rfl|rfl|rfl|rfl|rfl|rfl|rfl|rfl|rfl
 ·simp only[iY,M.fA,Int.reduceBEq,aI,aS,kN,ah,LD,LG,LH,LJ,LK,LM,bT];rfl
 ·simp only[iY,M.fA,Int.reduceBEq,aI,aS,kN,ah,LD,LG,LH,LJ,LK,LM,bT];rfl
 ·simp only[iY,M.fA,Int.reduceBEq,aI,aS,kN,ah,LD,LG,LH,LJ,LK,LM,bT];rfl
 ·simp only[iY,M.fA,Int.reduceBEq,aI,aS,kN,ah,LD,LG,LH,LJ,LK,LM,bT];rfl
 ·simp(disch:=omega) only[iY,M.fA,Int.reduceBEq,aI,aS,kN,ah,hL,LD,LG,LH,LJ,LK,LM,fE,ajQ,bT,Dh];rw[qQ,Ua hp (.inl rfl) (λj=>by simp[qP])];rfl
 ·simp(disch:=omega) only[iY,M.fA,Int.reduceBEq,aI,aS,kN,ah,hL,LD,LG,LH,LJ,LK,LM,fE,ajQ,bT,Dh];rw[qQ,Ua hp (.inl rfl) (λj=>by simp[qP])];rfl
 ·simp(disch:=omega) only[iY,M.fA,Int.reduceBEq,aI,aS,kN,ah,hL,LD,LG,LH,LJ,LK,LM,fE,ajQ,bT,Dh];rw[qQ,Ua hp (.inl rfl) (λj=>by simp[qP])];rfl
 ·obtain⟨u,rfl⟩:=zlo.1 (hc.one ak);have hI:I64 op:=by rcases hc.stp ak with rfl|rfl<;>constructor<;>decide
  have k0:=hK 0 u rfl;rw[pz] at k0;simp only[iY,M.fA,Int.reduceBEq,aI,aS,kN,ah,(nP op hI).2,k0,LD,LG,LH,LJ,LK,LM,fE,ajP,bT];rw[qQ,Wx];rfl
 ·obtain⟨u,rfl⟩:=zlo.1 (hc.one ak);have hI:I64 op:=by rcases hc.stp ak with rfl|rfl<;>constructor<;>decide
  have k0:=hK 0 u rfl;rw[pz] at k0;simp only[iY,M.fA,Int.reduceBEq,aI,aS,kN,ah,(nP op hI).2,k0,LD,LG,LH,LJ,LK,LM,fE,ajP,bT];rw[qQ,Wx];rfl
 ·obtain⟨u,rfl⟩:=zlo.1 (hc.one ak);have k0:=hK 0 u rfl;rw[pz] at k0;simp only[iY,M.fA,Int.reduceBEq,aI,aS,kN,ah,k0,LD,LG,LH,LJ,LK,LM,fE,ajP,bT];rw[qQ,Wx];rfl
 ·obtain⟨u,rfl⟩:=zlo.1 (hc.one ak);obtain⟨h1,h2,h3⟩:=hkE u (by simp);rw[sz1] at hf hsz;have a1:=aCj (x:=x) (ih' u (by simp)) (aIe u h1 h2) h1 h2 h3 (w:=w) (f:=g) (p:=p) hc ak hp ak;simp only[iY,M.fA,Int.reduceBEq,aI,aS,a1,ah,LD,LG,LH,LJ,LK,LM,bT]
 ·obtain⟨u,v,z,rfl⟩:=Xp (hc.three rfl);have k0:=hK 0 u rfl;have k1:=hK 1 v rfl;have k2:=hK 2 z rfl;rw[pz] at k0;rw[Yf] at k1;rw[auR] at k2;simp only[iY,M.fA,Int.reduceBEq,aI,aS,kN,ah,k0,k1,k2,LD,LG,LH,LJ,LK,LM,fE,a0r,bT];rw[qQ,aze];rfl
 ·cases hm:Nat.blt 1 ks.length with
  |true=>simp(disch:=omega) only[iY,M.fA,Int.reduceBEq,aI,aS,fB,many,hm,kN,ah,hL,LD,LG,LH,LJ,LK,LM,fE,ajQ,bT,Dh];rw[qQ,Ua hp (.inr ⟨rfl,hm,by simp[lvl]⟩) (λj=>by simp[qP])];simp[Zl,hm,aqx]
  |false=>
   have h1:ks.length=1:=by
    have h2:=hc.some_ ak;have h3:¬1<ks.length:=by rw[<-Nat.blt_eq,hm];simp
    omega
   obtain⟨u,rfl⟩:=zlo.1 h1;have k0:=hK 0 u rfl;rw[pz] at k0;simp(disch:=omega) only[iY,M.fA,Int.reduceBEq,aI,aS,fB,many,hm,kN,ah,k0,LD,LG,LH,LJ,LK,LM,fE,ajP,bT,Dh];rw[qQ,Wx];rfl
 ·obtain⟨u,v,rfl⟩:=OA (hc.two ak);have hI:=agz (hc.bin rfl).1;have hsl:=OQ op;have k0:=hK 0 u rfl;have k1:=hK 1 v rfl;rw[pz] at k0;rw[Yf] at k1;rw[qQ,am0]
  by_cases h99:op=99
  ·subst h99;simp only[iY,M.fA,Int.reduceBEq,aI,aS,kN,ah,k0,k1,LD,LG,LH,LJ,LK,LM,fE,ajQ,bT];rfl
  ·by_cases h45:op=45
   ·subst h45;simp(disch:=omega) only[iY,M.fA,Int.reduceBEq,aI,aS,kN,aek,ah,k0,k1,(nP 45 hI).2,LD,LG,LH,LJ,LK,LM,fE,auW,aiK,agB,bT,Dh];rfl
   ·by_cases h44:op=44
    ·subst h44;simp(disch:=omega) only[iY,M.fA,Int.reduceBEq,aI,aS,kN,aek,ah,k0,k1,(nP 44 hI).2,LD,LG,LH,LJ,LK,LM,fE,auW,aiK,agB,bT,Dh];rfl
    ·have e1:(op==99)=false:=by simpa using h99
     have e2:(op==45)=false:=by simpa using h45
     have e3:(op==44)=false:=by simpa using h44
     simp(disch:=omega) only[iY,M.fA,Int.reduceBEq,e1,e2,e3,aI,aS,kN,aek,ah,k0,k1,(nP op hI).2,pF,lU,qX,LD,LG,LH,LJ,LK,LM,fE,ajQ,bT,Dh];simp[Zl,e1,e2,e3,yZ]
 ·obtain⟨u,v,rfl⟩:=OA (hc.two ak);have hI:I64 op:=by rcases hc.asg rfl with rfl|h<;>constructor<;>omega
  have hsl:=OQ op;have k0:=hK 0 u rfl;have k1:=hK 1 v rfl;rw[pz] at k0;rw[Yf] at k1;rw[qQ,am0];simp(disch:=omega) only[iY,M.fA,Int.reduceBEq,aI,aS,kN,aek,ah,k0,k1,(nP op hI).2,pF,lU,qX,LD,LG,LH,LJ,LK,LM,fE,ajQ,bT,Dh];simp[Zl,yZ]
structure Ex'(u:Tn):Prop where
 ok:Gw u
 e:Yv u
 sm:Uu u
 sz:u.size<=1048576
def am1{u:Tn}(h:Ex' u)(w:Bool){p:Ps}(hp:nJ p=true):M.iK u.kind u.op u.text u.other (cZ w u.kids) p.level p.ny p.tN p.tV p.lV=some (Gu (C9 u p)):=
 M.afO (arX (azf u h.ok h.e h.sm h.sz) (f:=5 * u.size+1) (Nat.le_refl _) hp h.sz)
def aiO{u:Tn}(h:Ex' u)(w:Bool):M.lK u.kind u.op u.text u.other (cZ w u.kids)=some (Gu (Lr u)):=by have h1:=am1 h w (p:=.top) rfl;simp only[Ps.top] at h1;simp only[iY,M.lK,M.Ti,DF.1,ah,h1,LD,LG,LH,LJ,LK,LM,bT];rfl
def aiP{u:Tn}(h:u.kind=16∨Ex' u)(w:Bool):M.rD u.kind u.op u.text u.other (cZ w u.kids)=some (Gu (Vz u)):=by
 simp only[iY,M.rD,M.Tj,Vz];rcases h with h|h
 ·rw[h];simp only[beq_self_eq_true,aI,kN,ah,LD,LG,LH,LJ,LK,LM,bT]
 ·have h1:(u.kind==16)=false:=by have:=h.e;unfold Yv at this;rw[JX];omega
  simp only[h1,aS,kN,aiO h w,ah,LD,LG,LH,LJ,LK,LM,fE,ajP,bT]
def aIh{ks:List Tn}(h:∀u,u∈ks->Ex' u)(hs:sizes ks<=1048575)(w:Bool):M.qK (cZ w ks)=some (Gu (Rf .top ks)):=
 M.afP (azd (λu hu=>azf u (h u hu).ok (h u hu).e (h u hu).sm (h u hu).sz) (f:=5 * sizes ks+2) (Nat.le_refl _) hs)
def atv{ks:List Tn}(h:∀u,u∈ks->Ex' u)(hs:sizes ks<=1048575)(w:Bool):M.sO (cZ w ks)=some (Gu (Rf ⟨1,false,false,true,false⟩ ks)):=by
 have hkl:=iZ ks;simp only[iY,M.sO,M.KX,M.IW,fB];rw[aiM (ks:=ks) (p:=⟨1,false,false,true,false⟩) ak (λj u L hj hL=> ?_) (λr=> ?_)]
 ·simp only[ah,aqw,LD,LG,LH,LJ,LK,LM,aiK,agB,bT];rfl
 ·have hjl:=(Md.1 hj).1;have hus:=iw (zZ hj);obtain⟨c0,c1,c2,c3,c4⟩:=jO w u;have h1:=am1 (h u (zZ hj)) w (p:=⟨1,false,false,true,false⟩) rfl;have hw:i64.wrap ((j:Int)+1)=((j+1:Nat):Int):=by rw[aC ak ak];omega
  simp only[iY,M.LY,M.xO,Aw w hj,c0,c1,c2,c3,c4,ah,kN,aek,M.rC,M.Gg,h1,LD,LG,LH,LJ,LK,LM,fE,yu,pF,lU,qX,hw];rw[zdt ak,aI]
  by_cases h0:j=0
  ·subst h0;rw[nZ ak,aS,aJ ak,aI,aJ ak,aI,if_pos rfl,Gv];rfl
  ·rw[zdt ak,aI,aJ ak,aI,aJ ak,aI,aJ ak,aI,aJ ak,aI,if_neg h0,Gv,Ad];rfl
 ·simp only[iY,M.LY,M.xO];rw[nZ ak,aS]
def azg{ks:List Tn}(h:∀u,u∈ks->Ex' u)(wd:aB)(k op:Int)(x y:aB)(w:Bool):M.yg wd k op x y (cZ w ks)=some (Gu (aaL wd ks)):=by
 simp only[iY,M.yg,M.Qq];cases ks with
 |nil=>rw[show(((cZ w []).length:Int)==0)=true from rfl];simp only[aI,kN,ah,LD,LG,LH,LJ,LK,LM,bT];rfl
 |cons u l=>
  have hi:idx (cZ w (u::l)) 0=some (u.row w):=rfl;obtain⟨c0,c1,c2,c3,c4⟩:=jO w u;have e0:(((cZ w (u::l)).length:Int)==0)=false:=by rw[JX,fB,lU];omega
  simp only[e0,aS,kN,ah,hi,c0,c1,c2,c3,c4,aiP (.inr (h u ZK)) w,LD,LG,LH,LJ,LK,LM,fE,ajP,bT];rfl
def a0s(a b c:Tn):M.bG ([Df false a]++[Df false b,Df false c])=some (Gu (o7 [a,b,c])):=rfl
def bbX(a b c d e:Tn):M.bG ([Df false a]++[Df false b,Df false c]++[Df false d,Df false e])=some (Gu (o7 [a,b,c,d,e])):=rfl
def bbY(a:Tn):M.bG [Df false a]=some (Gu (o7 [a])):=rfl
def aiQ(w:Bool)(ks:List Tn)(n:Nat):(cZ w ks).take n=cZ w (ks.take n):=by simp[Ru,List.map_take]
def aCk{ks:List Tn}(h:∀u,u∈ks->Ex' u)(hs:sizes ks<=1048575)(op:Int)(x y:aB)(hop:op=0∨op=1)(hy:y≠[]->1<=ks.length)(hyl:y.length<=1048576)(w:Bool):
  M.yP 21 op x y (cZ w ks)=some (Gu (amI op y ks)):=by
 have hkl:=iZ ks;have hst:cStr [D.str [112,114,105,110,116],D.str [112,114,105,110,116,102]] op.toNat=some (bif op==0 then[112,114,105,110,116] else[112,114,105,110,116,102]):=by rcases hop with rfl|rfl<;>rfl
 have hr:(decide (0<=op) && decide (op<2))=true:=by rcases hop with rfl|rfl<;>rfl
 simp only[iY,M.yP,M.N7,hst,hr,aI,ah,kN,amI];have gt:∀L:List Tn,decide (((cZ w L).length:Int)>0)=Nat.blt 0 L.length:=by intro L;rw[fB];exact V4 0 L.length
 by_cases hy0:y=[]
 ·have e0:(y==[])=true:=by simpa using hy0
  have l1:=atv h hs w;simp only[e0,Bool.not_true,aI,aS,gt];cases Nat.blt 0 ks.length with
  |true=>simp only[aI,ah,l1,LD,LG,LH,LJ,LK,LM,fE,a0s,bT];rfl
  |false=>simp only[aS,ah,LD,LG,LH,LJ,LK,LM,fE,bbY,bT];rfl
 ·have e0:(y==[])=false:=by simpa using hy0
  have hn:=hy hy0;have hw:i64.wrap (((cZ w ks).length:Int) - 1)=((ks.length - 1:Nat):Int):=by rw[fB,aC ak ak];omega
  have hcut:cut (cZ w ks) 0 ((ks.length - 1:Nat):Int)=some (cZ w (ks.take (ks.length - 1))):=by rw[auH _ _ (by rw[fB];omega),aiQ]
  obtain⟨u,hu⟩:∃u,ks[ks.length - 1]? =some u:=⟨ks[ks.length - 1],by simp⟩
  have hnt:zS ks (ks.length - 1)=u:=by rw[zS,hu];rfl
  obtain⟨c0,c1,c2,c3,c4⟩:=jO w u;have he:=am1 (h u (zZ hu)) w (p:=⟨9,false,false,false,false⟩) rfl;have l1:=atv (ks:=ks.take (ks.length - 1)) (λv hv=>h v (List.mem_of_mem_take hv)) (by have:=take_size ks (ks.length - 1);omega) w;simp only[e0,Bool.not_false,aI,aS,hw,hcut,ah,gt,hnt];cases Nat.blt 0 (ks.take (ks.length - 1)).length with
  |true=>simp(disch:=omega) only[aI,ah,l1,Aw w hu,c0,c1,c2,c3,c4,he,pF,lU,qX,LD,LG,LH,LJ,LK,LM,fE,bbX,bT,Dh];rfl
  |false=>simp(disch:=omega) only[aI,aS,ah,l1,Aw w hu,c0,c1,c2,c3,c4,he,pF,lU,qX,LD,LG,LH,LJ,LK,LM,fE,a0s,bT,Dh];rfl
def room{n:Nat}(h:n<=1000000000):n.ble 140737488355328=true:=aJ ak
def QV{n:Nat}(h:n<=1000000000):(n * 32).ble 140737488355328=true:=aJ ak
def ZC{k op:Int}{x y:aB}{r:aA}{j:Nat}{p:Ps}(he:1<=k∧k<=15)(hc:Cnt k op y r.length)(hj:j<r.length)(hr:r.length<=1048576):
  M.fC k op x y r (j:Int) p.level p.ny p.tN p.tV p.lV=some (dN k op r.length j p).DL:=by
 have hb:Nat.blt j r.length=true:=by rw[Nat.blt_eq];exact hj
 have hl:=V3 he hc;have hz:(lvl k op==0)=false:=by rw[JX];omega
 have ho:=air op;have h15:(Aa op==15)=false:=by rw[JX];omega
 have h2:k=12->j=0∨j=1:=λe=>by have:=hc.two ak;omega
 have hk:k=1∨k=2∨k=3∨k=4∨k=5∨k=6∨k=7∨k=8∨k=9∨k=10∨k=11∨k=13∨k=14∨k=15∨k=12:=ak;simp only[M.fC,M.SE,(acY p).2,gG,atb j r.length hr,hb,(X8 k op x y r).2,hz,arN,DF.2,ah,many,nb0,gt0,dN,Bool.not_true,Bool.false_or,aS];cases nJ p with
 |false=>rfl
 |true=>
  rcases hk with rfl|rfl|rfl|rfl|rfl|rfl|rfl|rfl|rfl|rfl|rfl|rfl|rfl|rfl|rfl
  case inr.inr.inr.inr.inr.inr.inr.inr.inr.inr.inr.inr.inr.inr=>have hl12:lvl 12 op=Aa op:=rfl;rw[hl12,h15];rcases h2 rfl with rfl|rfl<;>cases p.lV<;>simp[Ps.DL,X5,show Nat.beq 1 0=false from rfl]
  all_goals(cases p.lV<;>cases hq:Nat.beq j 0<;>cases hm:Nat.blt 1 r.length<;>simp[lvl,Ps.DL,Ps.top,X5,hq,hm])
def PS(t:Tn):Prop:=∀(o:Bool) (f:Nat) (p:Ps) (l:List Nd) (b:Nat),l.length<=1048576->Lies l b t->5 * t.size<=f->nJ p=true->
 M.Et f (aT o l) false ((b+sizes t.kids:Nat):Int) p.level p.ny p.tN p.tV p.lV=some (bZ (wS t p))
def a0t{u:Tn}(hS:PS u){o:Bool}{f:Nat}{p:Ps}{l:List Nd}{b:Nat}(hl:l.length<=1048576)(h:Lies l b u)(hf:5 * u.size+1<=f)(hp:nJ p=true):
  M.vO f (aT o l) false ((b+sizes u.kids:Nat):Int) p.level p.ny p.tN p.tV p.lV=some (bZ (aaK u p)):=by
 obtain⟨g,rfl⟩:∃g,f=g+1:=⟨f - 1,ak⟩
 have hlt:=h.lt;have h1:=hS o g p l b hl h ak hp;have h2:=hS o g .top l b hl h ak rfl;have hb:=rO u .top;have hr:idx (aT o l) ((b+sizes u.kids:Nat):Int)=some (TK o ⟨u.kind,u.op,u.text,u.other,ends u.kids b⟩):=by rw[aW,kZ,Lies.root' h];rfl
 have e1:=(mX 32 (by constructor<;>decide)).2;have e2:=(mX 33 (by constructor<;>decide)).2;simp only[Ps.top] at h2 hb;rw[M.amd];simp only[iY,M.Kz,hr,ah,Ji,Me,LV,MB,GI,(ags u.kind u.op u.text u.other _ p).2,Bool.not_false,aI,aS,aaK];cases fits u.kind u.op p with
 |true=>simp only[aI,h1,ah,cu]
 |false=>simp(disch:=omega) only[aS,e1,e2,DF.2,ah,h2,yj,<-nC,dD,pF,J3,lU,qX,room,QV,cu,aI,Ps.top];rfl
def alb:∀(L:List (List Tk)) (b:Bool) (x:List Tk),H8 b (L++[x])=H8 b L++(bif L.isEmpty && b then x else tok 36::x)
 |[],b,x=>by cases b<;>simp[H8]
 |y::L,b,x=>by rw[VE,H8,H8,alb L false x];simp
def JW(ks:List Tn):List (List Tk):=ks.map λu=>aaK u .top
def alc:∀ks:List Tn,Wv (JW ks)+2 * ks.length<=8 * sizes ks
 |[]=>by simp[JW,Wv,sizes]
 |t::ts=>by have h1:=ak8 t .top;have h2:=alc ts;simp only[JW,Rh,Wv,sizes,lU] at h2⊢;omega
def abL(ks:List Tn)(b:Bool):(H8 b (JW ks)).length<=9 * sizes ks:=by
 have h1:=Zw (JW ks) b;have h2:=alc ks;have h3:(JW ks).length=ks.length:=by simp[JW]
 omega
def aiR{k op:Int}{n:Nat}{p:Ps}(ht:∀j,qP k j=false)(hq:∀j,j<n->dN k op n j p=.top):∀(ts:List Tn) (j:Nat),j+ts.length=n->jI k op n p ts j=JW ts
 |[],j,_=>by rw[jI];rfl
 |t::ts,j,hj=>by rw[lU] at hj;rw[jI,hq j ak,ht j,aiR ht hq ts (j+1) ak,Bool.false_or];rfl
def At(l:List Nd)(b:Nat)(ks:List Tn):Prop:=∀j u,ks[j]? =some u->Lies l (b+sizes (ks.take j)) u
def lY{ks:List Tn}{b j:Nat}{u:Tn}(hj:ks[j]? =some u):idx (encI (ends ks b)) (j:Int)=some [D.int .i64 ((b+sizes (ks.take j)+sizes u.kids:Nat):Int)]:=by rw[aW,lG,VX hj];rfl
def azh{ks:List Tn}(ih:∀u,u∈ks->PS u){o:Bool}{f:Nat}{l:List Nd}{b:Nat}(hl:l.length<=1048576)(hat:At l b ks)(hf:5 * sizes ks+2<=f)(hu:sizes ks<=1048575):
  M.Ep f (aT o l) false (encI (ends ks b))=some (bZ (H8 true (JW ks))):=by
 obtain⟨g,rfl⟩:∃g,f=g+1:=⟨f - 1,ak⟩
 have hkl:=iZ ks;have e1:=(mX 36 (by constructor<;>decide)).2;have hloop:=fJ (b:=M.Iz (M.vO g) (encI (ends ks b)) (aT o l) false) (t:=((ks.length:Int),bZ (H8 true (JW ks)))) (λj=>((j:Int),bZ (H8 true (JW (ks.take j))))) ks.length
  (by
   intro j hj;obtain⟨u,hu'⟩:∃u,ks[j]? =some u:=⟨ks[j],by simp[hj]⟩
   have hus:=iw (zZ hu');have hst:=zQ hu';have ha:=a0t (ih u (zZ hu')) (o:=o) (f:=g) (p:=.top) hl (hat j u hu') ak rfl;have hi:=lY (b:=b) hu';have hel:=ak8 u .top;have hcl:=abL (ks.take j) true;have hsn:H8 true (JW (ks.take (j+1)))=H8 true (JW (ks.take j))++(bif(JW (ks.take j)).isEmpty && true then aaK u .top else tok 36::aaK u .top):=by rw[dP hu',JW,List.map_append];exact alb _ _ _
   have hw:i64.wrap ((j:Int)+1)=((j+1:Nat):Int):=by rw[aC ak ak];omega
   simp only[Ps.top] at ha hel;rw[hsn];simp only[iY,M.Iz,M.BM,aU,dQ];rw[zdt ak,aI]
   by_cases h0:j=0
   ·subst h0;rw[nZ ak,aS];have z:(JW (ks.take 0)).isEmpty=true:=rfl;simp(disch:=omega) only[hi,ah,Lu,DF.2,ha,<-nC,dD,pF,room,QV,aI,hw,z,Bool.and_true,Ps.top]
   ·rw[zdt ak,aI];have z:(JW (ks.take j)).isEmpty=false:=by
     have hl2:(JW (ks.take j)).length=j:=by rw[JW,List.length_map,Ud];omega
     cases hq:JW (ks.take j) with
     |nil=>rw[hq,qX] at hl2;omega
     |cons _ _=>rfl
    simp(disch:=omega) only[hi,ah,Lu,DF.2,ha,e1,yj,<-nC,dD,pF,J3,lU,qX,room,QV,aI,aS,hw,z,Bool.false_and,Ps.top];simp)
  (by simp only[iY,M.Iz,M.BM,aU,dQ];rw[nZ ak,aS,List.take_length]) 0 (Nat.zero_le _)
 have e0:bZ (H8 true (JW (ks.take 0)))=[]:=rfl;rw[pz,e0] at hloop;rw[M.ahC];simp only[M.Eo,M.Nw,hloop,ah,cu,aI]
def aaO{ks:List Tn}(ih:∀u,u∈ks->PS u){o:Bool}{f:Nat}{l:List Nd}{b:Nat}{k op:Int}{x y:aB}{p:Ps}{j:Nat}{u:Tn}(he:1<=k∧k<=15)(hc:Cnt k op y ks.length)(hp:nJ p=true)(hl:l.length<=1048576)(hat:At l b ks)(hf:5 * sizes ks+1<=f)(hu:sizes ks<=1048575)(hj:ks[j]? =some u)(ht:qP k j=false):
  (idx (encI (ends ks b)) (j:Int)=some [D.int .i64 ((b+sizes (ks.take j)+sizes u.kids:Nat):Int)]∧
   M.fC k op x y (encI (ends ks b)) (j:Int) p.level p.ny p.tN p.tV p.lV=some (dN k op ks.length j p).DL∧
   M.vO f (aT o l) false ((b+sizes (ks.take j)+sizes u.kids:Nat):Int) (dN k op ks.length j p).DL.1 (dN k op ks.length j p).DL.2.1 (dN k op ks.length j p).DL.2.2.1 (dN k op ks.length j p).DL.2.2.2.1 (dN k op ks.length j p).DL.2.2.2.2=some (bZ (vT k op ks.length p j u)))∧(vT k op ks.length p j u).length+2<=8 * u.size:=by
 have hkl:=iZ ks;have hus:=iw (zZ hj);have hjl:j<ks.length:=(Md.1 hj).1;have hen:(encI (ends ks b)).length=ks.length:=by rw[aU,dQ]
 have hlv:lvl k op≠0:=by have:=V3 he hc;omega
 refine⟨⟨lY hj, ?_, ?_⟩,QS (rO u)⟩
 ·have h:=ZC (x:=x) (r:=encI (ends ks b)) (j:=j) (p:=p) he (by rw[hen];exact hc) ak ak;rw[hen] at h;exact h
 ·have h:=a0t (ih u (zZ hj)) (o:=o) (f:=f) (p:=dN k op ks.length j p) hl (hat j u hj) ak (wU hp hjl hlv);rw[vT,ht,Bool.false_or];exact h
def am2{ks:List Tn}(ih:∀u,u∈ks->PS u){o:Bool}{f:Nat}{l:List Nd}{b:Nat}(hl:l.length<=1048576)(hat:At l b ks)(hf:5 * sizes ks+3<=f)(hu:sizes ks<=1048575)(t':Int)(x:aB)(c:Int)(hop:c=32∨c=34):
  M.GR f (aT o l) false t' x 0 (encI (ends ks b)) c=some (bZ (⟨t',x,0⟩::tok c::(H8 true (JW ks)++[tok (c+1)]))):=by
 obtain⟨g,rfl⟩:∃g,f=g+1:=⟨f - 1,ak⟩
 have h1:=azh ih (o:=o) (f:=g) (b:=b) hl hat ak hu;have h2:=abL ks true;have e1:=(mX c (by rcases hop with rfl|rfl<;>constructor<;>decide)).2;have e2:=(mX (c+1) (by rcases hop with rfl|rfl<;>constructor<;>decide)).2;have e3:i64.wrap (c+1)=c+1:=by rcases hop with rfl|rfl<;>rfl
 have hr:([[D.int .i64 t',D.str x,D.int .i64 0],[D.int .i64 c,D.str (spell c),D.int .i64 0]]:aA)=bZ [⟨t',x,0⟩,tok c]:=rfl;rw[M.afw];simp(disch:=omega) only[iY,M.Ap,e1,e2,e3,h1,ah,hr,yj (c+1),<-nC,dD,pF,J3,lU,qX,room,QV,cu,aI];simp
def aiS{u:Tn}(hS:PS u)(hok:Gw u)(he:Yv u)(hh:13<=lvl u.kind u.op){o:Bool}{f:Nat}{l:List Nd}{b:Nat}(hl:l.length<=1048576)(h:Lies l b u)(hf:5 * u.size+1<=f)(p:Ps)(hp:nJ p=true):
  M.Es f (aT o l) false ((b+sizes u.kids:Nat):Int)=some (bZ (wS u p)):=by
 obtain⟨g,rfl⟩:∃g,f=g+1:=⟨f - 1,ak⟩
 have h1:=hS o g ⟨14,false,false,false,false⟩ l b hl h ak rfl;rw[arL u hok hh he _ p rfl hp] at h1;rw[M.adR];simp only[M.yX,h1,ah,cu,aI]
def ZE(k:Int)(h:k=12∨k=14∨k=6∨k=11∨k=13)(j:Nat):qP k j=false:=by rcases h with rfl|rfl|rfl|rfl|rfl<;>simp[qP]
def atw{ks:List Tn}(ih:∀u,u∈ks->PS u){o:Bool}{f:Nat}{l:List Nd}{b:Nat}{k op:Int}{x y:aB}{p:Ps}(hk:k=12∨k=14)(hc:Cnt k op y ks.length)(hp:nJ p=true)(hl:l.length<=1048576)(hat:At l b ks)(hf:5 * sizes ks+2<=f)(hu:sizes ks<=1048575):
  M.GU f (aT o l) false k op x y (encI (ends ks b)) p.level p.ny p.tN p.tV p.lV=some (bZ (Jd k op ks.length x (jI k op ks.length p ks 0))):=by
 obtain⟨g,rfl⟩:∃g,f=g+1:=⟨f - 1,ak⟩
 rw[M.afx];rcases hk with rfl|rfl
 ·obtain⟨u,v,rfl⟩:=OA (hc.two ak);have hsz:=sz2 u v;obtain⟨⟨a1,a2,a3⟩,a4⟩:=aaO ih (o:=o) (f:=g) (b:=b) (k:=12) (op:=op) (x:=x) (y:=y) (p:=p) (j:=0) (u:=u) ak hc hp hl hat ak hu rfl (ZE 12 ak 0);obtain⟨⟨b1,b2,b3⟩,b4⟩:=aaO ih (o:=o) (f:=g) (b:=b) (k:=12) (op:=op) (x:=x) (y:=y) (p:=p) (j:=1) (u:=v) ak hc hp hl hat ak hu rfl (ZE 12 ak 1);rw[pz] at a1 a2;rw[Yf] at b1 b2;generalize (dN 12 op [u,v].length 0 p).DL=q0 at a2 a3;generalize hk0:vT 12 op [u,v].length p 0 u=K0 at a3 a4;generalize (dN 12 op [u,v].length 1 p).DL=q1 at b2 b3;generalize hk1:vT 12 op [u,v].length p 1 v=K1 at b3 b4;rw[Zx,hk0,hk1]
  by_cases h99:op=99
  ·have e99:(op !=99)=false:=by simp[h99]
   simp(disch:=omega) only[iY,M.uF,a1,a2,a3,b1,b2,b3,Lu,ah,Int.reduceBEq,e99,aS,<-nC,dD,pF,J3,lU,qX,room,QV,cu,aI];simp[Jd,CZ,h99]
  ·have e99:(op !=99)=true:=by simpa using h99
   have e98:(op==99)=false:=by simpa using h99
   have e1:=(mX op (agz (hc.bin rfl).1)).2;simp(disch:=omega) only[iY,M.uF,a1,a2,a3,b1,b2,b3,e1,Lu,ah,Int.reduceBEq,e99,aS,yj,<-nC,dD,pF,J3,lU,qX,room,QV,cu,aI];simp[Jd,CZ,e98]
 ·obtain⟨u,v,z,rfl⟩:=Xp (hc.three rfl);have hsz:=sz3 u v z;obtain⟨⟨a1,a2,a3⟩,a4⟩:=aaO ih (o:=o) (f:=g) (b:=b) (k:=14) (op:=op) (x:=x) (y:=y) (p:=p) (j:=0) (u:=u) ak hc hp hl hat ak hu rfl (ZE 14 ak 0);obtain⟨⟨b1,b2,b3⟩,b4⟩:=aaO ih (o:=o) (f:=g) (b:=b) (k:=14) (op:=op) (x:=x) (y:=y) (p:=p) (j:=1) (u:=v) ak hc hp hl hat ak hu rfl (ZE 14 ak 1);obtain⟨⟨c1,c2,c3⟩,c4⟩:=aaO ih (o:=o) (f:=g) (b:=b) (k:=14) (op:=op) (x:=x) (y:=y) (p:=p) (j:=2) (u:=z) ak hc hp hl hat ak hu rfl (ZE 14 ak 2);rw[pz] at a1 a2;rw[Yf] at b1 b2;rw[auR] at c1 c2;generalize (dN 14 op [u,v,z].length 0 p).DL=q0 at a2 a3;generalize hk0:vT 14 op [u,v,z].length p 0 u=K0 at a3 a4;generalize (dN 14 op [u,v,z].length 1 p).DL=q1 at b2 b3;generalize hk1:vT 14 op [u,v,z].length p 1 v=K1 at b3 b4;generalize (dN 14 op [u,v,z].length 2 p).DL=q2 at c2 c3;generalize hk2:vT 14 op [u,v,z].length p 2 z=K2 at c3 c4;rw[ay8,hk0,hk1,hk2];have e1:=(mX 65 (by constructor<;>decide)).2;have e2:=(mX 66 (by constructor<;>decide)).2;simp(disch:=omega) only[iY,M.uF,a1,a2,a3,b1,b2,b3,c1,c2,c3,e1,e2,Lu,ah,Int.reduceBEq,aS,yj,<-nC,dD,pF,J3,lU,qX,room,QV,cu,aI];simp[Jd,CZ]
def agC{k op:Int}{ks:List Tn}{p:Ps}(hp:nJ p=true)(h:(lvl k op=15)∨(k=13∧Nat.blt 1 ks.length=true∧lvl k op≠0))(ht:∀j,qP k j=false):jI k op ks.length p ks 0=JW ks:=by
 refine aiR ht (λj hj=> ?_) ks 0 ak;rcases h with h|⟨h1,h2,h3⟩
 ·exact JL hp hj h
 ·have hb:Nat.blt j ks.length=true:=by rw[Nat.blt_eq];exact hj
  have h4:(lvl k op==0)=false:=by simpa using h3
  subst h1;unfold dN;rw[hp,hb,h4,h2];simp
def agD(k:Int)(x:aB):([[D.int .i64 k,D.str x,D.int .i64 0]]:aA)=bZ [⟨k,x,0⟩]:=rfl
def aqy(x:aB):([[D.int .i64 24,D.str (spell 24),D.int .i64 0],[D.int .i64 6,D.str x,D.int .i64 0]]:aA)=bZ [tok 24,⟨6,x,0⟩]:=rfl
set_option maxHeartbeats 2000000 in
def auX(t:Tn):Gw t->Yv t->t.size<=1048576->PS t:=by
 refine Tn.ind (P:=λt=>Gw t->Yv t->t.size<=1048576->PS t) ?_ t;intro k op x y ks ih hok he hsz;intro o f p l b hl h hf hp;have bbZ:=h;simp only[Yv,Tn.kind] at he;have hc:=RH hok;have hsz':sizes ks+1=(Tn.mk k op x y ks).size:=by rw[Tn.size]
 have ih':∀u,u∈ks->PS u:=by intro u hu;obtain⟨i,hi⟩:=List.mem_iff_getElem?.1 hu;obtain⟨h1,h2⟩:=acX hok he hi;have:=iw hu;exact ih u hu h2 h1 ak
 have hat:At l b ks:=λj u hj=>Lies.QM h hj
 obtain⟨g,rfl⟩:∃g,f=g+1:=⟨f - 1,ak⟩
 have hr:idx (aT o l) ((b+sizes ks:Nat):Int)=some (TK o ⟨k,op,x,y,ends ks b⟩):=by have hr0:l[b+sizes ks]? =some ⟨k,op,x,y,ends ks b⟩:=Lies.root' h;rw[aW,kZ,hr0];rfl
 have hkl:=iZ ks;have tgt:∀{u:Tn},ks[0]? =some u->cls k op ks.length 0=6->Gw u∧Yv u∧13<=lvl u.kind u.op:=by intro u hu hcls;obtain⟨h1,h2⟩:=acX hok he hu;obtain⟨h3,_⟩:=Oz hok hu;rw[hcls] at h3;exact⟨h2,h1,(amK h3).1⟩
 rw[M.ahD,Tn.kids];have hk:k=1∨k=2∨k=3∨k=4∨k=5∨k=7∨k=8∨k=6∨k=9∨k=10∨k=11∨k=13∨k=15∨k=12∨k=14:=ak;rw[wS];rcases hk with rfl|rfl|rfl|rfl|rfl|rfl|rfl|rfl|rfl|rfl|rfl|rfl|rfl|rfl|rfl
 ·simp only[iY,M.gW,hr,ah,Ji,Me,LV,MB,GI,M.bY,M.bJ,Int.reduceBEq,Int.reduceBNe,aI,aS,agD];rfl
 ·simp only[iY,M.gW,hr,ah,Ji,Me,LV,MB,GI,M.bY,M.bJ,Int.reduceBEq,Int.reduceBNe,aI,aS,agD];rfl
 ·simp only[iY,M.gW,hr,ah,Ji,Me,LV,MB,GI,M.bY,M.bJ,Int.reduceBEq,Int.reduceBNe,aI,aS,agD];rfl
 ·simp only[iY,M.gW,hr,ah,Ji,Me,LV,MB,GI,M.bY,M.bJ,Int.reduceBEq,Int.reduceBNe,aI,aS,agD];rfl
 ·have a1:=am2 ih' (o:=o) (f:=g) (b:=b) hl hat ak ak 6 x 34 (.inr rfl);rw[agC hp (.inl rfl) (λj=>by simp[qP])];simp only[iY,M.gW,hr,ah,Ji,Me,LV,MB,GI,M.bY,M.bJ,Int.reduceBEq,Int.reduceBNe,aI,aS,a1,cu];rfl
 ·have a1:=am2 ih' (o:=o) (f:=g) (b:=b) hl hat ak ak 7 x 32 (.inl rfl);rw[agC hp (.inl rfl) (λj=>by simp[qP])];simp only[iY,M.gW,hr,ah,Ji,Me,LV,MB,GI,M.bY,M.bJ,Int.reduceBEq,Int.reduceBNe,aI,aS,a1,cu];rfl
 ·have a1:=am2 ih' (o:=o) (f:=g) (b:=b) hl hat ak ak 8 x 32 (.inl rfl);rw[agC hp (.inl rfl) (λj=>by simp[qP])];simp only[iY,M.gW,hr,ah,Ji,Me,LV,MB,GI,M.bY,M.bJ,Int.reduceBEq,Int.reduceBNe,aI,aS,a1,cu];rfl
 ·obtain⟨u,rfl⟩:=zlo.1 (hc.one ak);have hs1:=sz1 u;have e1:=(mX 68 (by constructor<;>decide)).2;obtain⟨⟨a1,a2,a3⟩,a4⟩:=aaO ih' (o:=o) (f:=g) (b:=b) (k:=6) (op:=op) (x:=x) (y:=y) (p:=p) (j:=0) (u:=u) ak hc hp hl hat ak ak rfl (ZE 6 ak 0);rw[pz] at a1 a2;rw[Uo];generalize (dN 6 op [u].length 0 p).DL=q0 at a2 a3;generalize vT 6 op [u].length p 0 u=K0 at a3 a4⊢;simp(disch:=omega) only[iY,M.gW,hr,ah,Ji,Me,LV,MB,GI,M.bY,M.bJ,Int.reduceBEq,Int.reduceBNe,aI,aS,a1,a2,a3,e1,Lu,yj,<-nC,dD,pF,J3,lU,qX,room,QV,cu];simp[Jd,CZ]
 ·obtain⟨u,rfl⟩:=zlo.1 (hc.one ak);have hs1:=sz1 u;have e1:=(mX op (by rcases hc.stp ak with rfl|rfl<;>constructor<;>decide)).2;have a1:=lY (ks:=[u]) (b:=b) (j:=0) (u:=u) rfl;obtain⟨t1,t2,t3⟩:=tgt (u:=u) rfl (by simp[cls]);have a3:=aiS (ih' u (by simp)) t1 t2 t3 (o:=o) (f:=g) (p:=dN 9 op [u].length 0 p) hl (hat 0 u rfl) (by rw[sz1] at hsz';omega) (wU hp (by simp) (by simp[lvl]));have a4:=rO u (dN 9 op [u].length 0 p);rw[sz1] at hsz';rw[pz] at a1;rw[Uo,vT,show qP 9 0=true from rfl,Bool.true_or,aI];generalize wS u (dN 9 op [u].length 0 p)=K0 at a3 a4⊢;simp(disch:=omega) only[iY,M.gW,hr,ah,Ji,Me,LV,MB,GI,M.bY,M.bJ,Int.reduceBEq,Int.reduceBNe,aI,aS,a1,a3,e1,Lu,yj,<-nC,dD,pF,J3,lU,qX,room,QV,cu];simp[Jd,CZ]
 ·obtain⟨u,rfl⟩:=zlo.1 (hc.one ak);have hs1:=sz1 u;have e1:=(mX op (by rcases hc.stp ak with rfl|rfl<;>constructor<;>decide)).2;have a1:=lY (ks:=[u]) (b:=b) (j:=0) (u:=u) rfl;obtain⟨t1,t2,t3⟩:=tgt (u:=u) rfl (by simp[cls]);have a3:=aiS (ih' u (by simp)) t1 t2 t3 (o:=o) (f:=g) (p:=dN 10 op [u].length 0 p) hl (hat 0 u rfl) (by rw[sz1] at hsz';omega) (wU hp (by simp) (by simp[lvl]));have a4:=rO u (dN 10 op [u].length 0 p);rw[sz1] at hsz';rw[pz] at a1;rw[Uo,vT,show qP 10 0=true from rfl,Bool.true_or,aI];generalize wS u (dN 10 op [u].length 0 p)=K0 at a3 a4⊢;simp(disch:=omega) only[iY,M.gW,hr,ah,Ji,Me,LV,MB,GI,M.bY,M.bJ,Int.reduceBEq,Int.reduceBNe,aI,aS,a1,a3,e1,Lu,yj,<-nC,dD,pF,J3,lU,qX,room,QV,cu];simp[Jd,CZ]
 ·obtain⟨u,rfl⟩:=zlo.1 (hc.one ak);have hs1:=sz1 u;have e1:=(mX op (by rcases hc.una ak with rfl|rfl|rfl<;>constructor<;>decide)).2;obtain⟨⟨a1,a2,a3⟩,a4⟩:=aaO ih' (o:=o) (f:=g) (b:=b) (k:=11) (op:=op) (x:=x) (y:=y) (p:=p) (j:=0) (u:=u) ak hc hp hl hat ak ak rfl (ZE 11 ak 0);rw[pz] at a1 a2;rw[Uo];generalize (dN 11 op [u].length 0 p).DL=q0 at a2 a3;generalize vT 11 op [u].length p 0 u=K0 at a3 a4⊢;simp(disch:=omega) only[iY,M.gW,hr,ah,Ji,Me,LV,MB,GI,M.bY,M.bJ,Int.reduceBEq,Int.reduceBNe,aI,aS,a1,a2,a3,e1,Lu,yj,<-nC,dD,pF,J3,lU,qX,room,QV,cu];simp[Jd,CZ]
 ·have e1:=(mX 24 (by constructor<;>decide)).2;have e2:=(mX 32 (by constructor<;>decide)).2;have e3:=(mX 33 (by constructor<;>decide)).2;obtain⟨u,hu⟩:∃u,ks[0]? =some u:=by have:=hc.some_ ak;exact⟨ks[0],by simp⟩
  obtain⟨⟨a1,a2,a3⟩,a4⟩:=aaO ih' (o:=o) (f:=g) (b:=b) (k:=13) (op:=op) (x:=x) (y:=y) (p:=p) (j:=0) (u:=u) ak hc hp hl hat ak ak hu (ZE 13 ak 0);have hus:=iw (zZ hu);rw[pz] at a1 a2;have hel:(encI (ends ks b)).length=ks.length:=by rw[aU,dQ]
  cases hm:Nat.blt 1 ks.length with
  |true=>have b1:=azh ih' (o:=o) (f:=g) (b:=b) hl hat ak ak;have b2:=abL ks true;rw[agC hp (.inr ⟨rfl,hm,by simp[lvl]⟩) (λj=>by simp[qP])];simp(disch:=omega) only[iY,M.gW,hr,ah,Ji,Me,LV,MB,GI,M.bY,M.bJ,Int.reduceBEq,Int.reduceBNe,aI,aS,a1,a2,a3,b1,e1,e2,e3,Lu,hel,many,hm,aqy,yj 32,yj 33,<-nC,dD,pF,J3,lU,qX,room,QV,cu];simp[Jd,hm]
  |false=>
   have h1:ks.length=1:=by
    have h2:=hc.some_ ak;have h3:¬1<ks.length:=by rw[<-Nat.blt_eq,hm];simp
    omega
   obtain⟨u',rfl⟩:=zlo.1 h1;obtain rfl:u'=u:=by simpa using hu
   rw[Uo];generalize (dN 13 op [u'].length 0 p).DL=q0 at a2 a3;generalize vT 13 op [u'].length p 0 u'=K0 at a3 a4⊢;simp(disch:=omega) only[iY,M.gW,hr,ah,Ji,Me,LV,MB,GI,M.bY,M.bJ,Int.reduceBEq,Int.reduceBNe,aI,aS,a1,a2,a3,e1,e2,e3,Lu,hel,many,hm,aqy,<-nC,dD,pF,J3,lU,qX,room,QV,cu];simp[Jd,CZ,show Nat.blt 1 1=false from rfl]
 ·obtain⟨u,v,rfl⟩:=OA (hc.two ak);have hsv:=sz2 u v;have e1:=(mX op (by rcases hc.asg rfl with rfl|h<;>constructor<;>omega)).2;have a1:=lY (ks:=[u,v]) (b:=b) (j:=0) (u:=u) rfl;obtain⟨t1,t2,t3⟩:=tgt (u:=u) rfl (by simp[cls]);have a3:=aiS (ih' u (by simp)) t1 t2 t3 (o:=o) (f:=g) (p:=dN 15 op [u,v].length 0 p) hl (hat 0 u rfl) ak (wU hp (by simp) (by simp[lvl]));have a4:=rO u (dN 15 op [u,v].length 0 p);obtain⟨⟨b1,b2,b3⟩,b4⟩:=aaO ih' (o:=o) (f:=g) (b:=b) (k:=15) (op:=op) (x:=x) (y:=y) (p:=p) (j:=1) (u:=v) ak hc hp hl hat ak ak rfl rfl;rw[pz] at a1;rw[Yf] at b1 b2;have e98:(op==99)=false:=by rw[JX];have:=hc.asg rfl;omega
  rw[Zx]
  conv=>rhs;rw[vT,show qP 15 0=true from rfl,Bool.true_or,aI]
  generalize wS u (dN 15 op [u,v].length 0 p)=K0 at a3 a4⊢;generalize (dN 15 op [u,v].length 1 p).DL=q1 at b2 b3;generalize vT 15 op [u,v].length p 1 v=K1 at b3 b4⊢;simp(disch:=omega) only[iY,M.gW,hr,ah,Ji,Me,LV,MB,GI,M.bY,M.bJ,Int.reduceBEq,Int.reduceBNe,aI,aS,a1,a3,b1,b2,b3,e1,Lu,yj,<-nC,dD,pF,J3,lU,qX,room,QV,cu];simp[Jd,CZ,e98]
 ·have a1:=atw ih' (o:=o) (f:=g) (b:=b) (k:=12) (op:=op) (x:=x) (y:=y) (p:=p) (.inl rfl) hc hp hl hat ak ak;simp only[iY,M.gW,hr,ah,Ji,Me,LV,MB,GI,M.bY,M.bJ,Int.reduceBEq,Int.reduceBNe,aI,aS,a1,cu]
 ·have a1:=atw ih' (o:=o) (f:=g) (b:=b) (k:=14) (op:=op) (x:=x) (y:=y) (p:=p) (.inr rfl) hc hp hl hat ak ak;simp only[iY,M.gW,hr,ah,Ji,Me,LV,MB,GI,M.bY,M.bJ,Int.reduceBEq,Int.reduceBNe,aI,aS,a1,cu]
def dE(t:Tn):aA:=dw true (t.flat 0)
def ZF(t:Tn):Row:=[D.sl true 4 (dE t)]
def kC(s:aB):M.aF s=some (dE (mP s)):=by simp[M.aF,M.PG,dE,mP,Tn.flat,iW,ends,dw,aeg,encI]
def arY:M.sH=some (dE VY):=by simp[M.sH,M.PO,dE,VY,Tn.flat,iW,ends,dw,aeg,encI]
def arZ:M.qG=some (dE TU):=by simp[M.qG,M.PI,dE,TU,Tn.flat,iW,ends,dw,aeg,encI]
def nS(t:Tn):[[D.sl true 4 (dE t)]].all bM=true:=ak1 _
def TB(L:List Tn):aP (L.map ZF)=tY L:=by
 induction L with
 |nil=>rfl
 |cons t L ih=>
  have h1:qg (ZF t)=[D.sl false 4 (dw false (t.flat 0))]:=by simp[ZF,qg,D.fz,dE]
  rw[Rh,aP,ih,h1];rfl
section
variable (a b c d e f g h:Tn)
def fz1:aP [[D.sl true 4 (dE a)]]=tY [a]:=TB [a]
def fz2:aP [[D.sl true 4 (dE a)],[D.sl true 4 (dE b)]]=tY [a,b]:=TB [a,b]
def fz3:aP [[D.sl true 4 (dE a)],[D.sl true 4 (dE b)],[D.sl true 4 (dE c)]]=tY [a,b,c]:=TB [a,b,c]
def fz4:aP [[D.sl true 4 (dE a)],[D.sl true 4 (dE b)],[D.sl true 4 (dE c)],[D.sl true 4 (dE d)]]=tY [a,b,c,d]:=TB [a,b,c,d]
def fz5:aP [[D.sl true 4 (dE a)],[D.sl true 4 (dE b)],[D.sl true 4 (dE c)],[D.sl true 4 (dE d)],[D.sl true 4 (dE e)]]=tY [a,b,c,d,e]:=TB [a,b,c,d,e]
def fz8:aP [[D.sl true 4 (dE a)],[D.sl true 4 (dE b)],[D.sl true 4 (dE c)],[D.sl true 4 (dE d)],[D.sl true 4 (dE e)],[D.sl true 4 (dE f)],[D.sl true 4 (dE g)],[D.sl true 4 (dE h)]]=tY [a,b,c,d,e,f,g,h]:=TB [a,b,c,d,e,f,g,h]
end
def uP(ts:List Tn)(h:sizes ts<=90000000):M.aH 6 0 (tY ts)=some (dE (o7 ts)):=arW 6 0 ts h
def am3(t:Tn)(h:sizes [t]<=90000000):M.aH 4 4 (tY [t])=some (dE (Ym t)):=arW 4 4 [t] h
def azi(t:Tn)(h:sizes [t]<=90000000):M.aH 5 0 (tY [t])=some (dE (aqa t)):=arW 5 0 [t] h
def aqz(p:Ps):∀ks:List Tn,sizes (psD p ks)+3 * ks.length<=16 * sizes ks
 |[]=>by simp[psD,sizes]
 |t::ts=>by have h1:=nR t p;have h2:=aqz p ts;simp only[psD,Rh,sizes,lU] at h2⊢;omega
def DS(t:Tn):Prop:=∀(o:Bool) (f:Nat) (p:Ps) (l:List Nd) (b:Nat),l.length<=1048576->Lies l b t->5 * t.size<=f->nJ p=true->
 M.Ew f (aT o l) false ((b+sizes t.kids:Nat):Int) p.level p.ny p.tN p.tV p.lV=some (dE (qQ t p))
def VD{u:Tn}{o:Bool}{l:List Nd}{b:Nat}(h:Lies l b u):idx (aT o l) ((b+sizes u.kids:Nat):Int)=some (TK o ⟨u.kind,u.op,u.text,u.other,ends u.kids b⟩):=by rw[aW,kZ,Lies.root' h];rfl
def aIi{u:Tn}(hS:DS u){o:Bool}{f:Nat}{p:Ps}{l:List Nd}{b:Nat}(hl:l.length<=1048576)(h:Lies l b u)(hf:5 * u.size+1<=f)(hp:nJ p=true):
  M.sV f (aT o l) false ((b+sizes u.kids:Nat):Int) p.level p.ny p.tN p.tV p.lV=some (dE (C9 u p)):=by
 obtain⟨g,rfl⟩:∃g,f=g+1:=⟨f - 1,ak⟩
 have hlt:=h.lt;have h1:=hS o g p l b hl h ak hp;have h2:=hS o g .top l b hl h ak rfl;have hb:=OC u .top;simp only[Ps.top] at h2 hb;rw[M.ame];simp only[iY,M.KA,VD h,ah,Ji,Me,LV,MB,GI,(ags u.kind u.op u.text u.other _ p).2,C9];cases fits u.kind u.op p with
 |true=>simp only[aI,h1,ah]
 |false=>
  have hs:sizes [mP [40],qQ u ⟨1,false,false,false,false⟩,mP [41]]<=90000000:=by simp only[sizes,gY];omega
  simp only[aS,kC,DF.2,ah,h2,fz3,uP _ hs,nS,aI,Ps.top]
def ar0{ks:List Tn}(ih:∀u,u∈ks->DS u){o:Bool}{f:Nat}{p:Ps}(hp:nJ p=true){l:List Nd}{b:Nat}(hl:l.length<=1048576)(hat:At l b ks)(hf:5 * sizes ks+2<=f)(hu:sizes ks<=1048575):
  M.zy f (aT o l) false (encI (ends ks b)) p.level p.ny p.tN p.tV p.lV=some (dE (Rf p ks)):=by
 obtain⟨g,rfl⟩:∃g,f=g+1:=⟨f - 1,ak⟩
 have hkl:=iZ ks;have hpz:=aqz p ks;have hcz:=aei (psD p ks) true;rw[adg] at hcz;have hloop:=fJ (b:=M.Iy (M.sV g) (encI (ends ks b)) (aT o l) false p.level p.ny p.tN p.tV p.lV) (t:=((ks.length:Int),(Um true (psD p ks)).map ZF)) (λj=>((j:Int),(Um true (psD p (ks.take j))).map ZF)) ks.length
  (by
   intro j hj;obtain⟨u,hu'⟩:∃u,ks[j]? =some u:=⟨ks[j],by simp[hj]⟩
   have hus:=iw (zZ hu');have ha:=aIi (ih u (zZ hu')) (o:=o) (f:=g) (p:=p) hl (hat j u hu') ak hp;have hi:=lY (b:=b) hu';have hcl:=aiL (psD p (ks.take j)) true;rw[adg,Ud] at hcl;have hw:i64.wrap ((j:Int)+1)=((j+1:Nat):Int):=by rw[aC ak ak];omega
   have e:psD p (ks.take (j+1))=psD p (ks.take j)++[C9 u p]:=by rw[dP hu'];simp[psD]
   rw[e,ael];simp only[iY,M.Iy,M.BL,aU,dQ,kC,arY,hi,Lu,ha,ah,pF,List.length_map,lU,qX,hw];rw[zdt ak,aI]
   by_cases h0:j=0
   ·subst h0;rw[nZ ak,aS,aJ ak,aI,aJ ak,aI];rfl
   ·have z:(psD p (ks.take j)).isEmpty=false:=by
     cases hq:psD p (ks.take j) with
     |nil=>have:=adg p (ks.take j);rw[hq,qX,Ud] at this;omega
     |cons _ _=>rfl
    rw[zdt ak,aI,aJ ak,aI,aJ ak,aI,aJ ak,aI,aJ ak,aI,z,Bool.false_and,aS,List.map_append,Ad];rfl)
  (by simp only[iY,M.Iy,M.BL,aU,dQ];rw[nZ ak,aS,List.take_length]) 0 (Nat.zero_le _)
 have xA:M.Nv (M.sV g) (encI (ends ks b)) (aT o l) false p.level p.ny p.tN p.tV p.lV (0,[])=some ((ks.length:Int),(Um true (psD p ks)).map ZF):=hloop;have z1:sizes [o7 (Um true (psD p ks))]<=90000000:=by simp only[sizes,pX];omega
 have z2:sizes [Ym (o7 (Um true (psD p ks)))]<=90000000:=by simp only[sizes,pX,Xq];omega
 rw[M.ahF];simp only[M.En,xA,ah,TB,uP _ (show sizes (Um true (psD p ks))<=90000000 by omega),nS,aI,fz1,am3 _ z1,azi _ z2];rfl
def adh{ks:List Tn}(ih:∀u,u∈ks->DS u){o:Bool}{f:Nat}{l:List Nd}{b:Nat}{k op:Int}{x y:aB}{p:Ps}{j:Nat}{u:Tn}(he:1<=k∧k<=15)(hc:Cnt k op y ks.length)(hp:nJ p=true)(hl:l.length<=1048576)(hat:At l b ks)(hf:5 * sizes ks+1<=f)(hu:sizes ks<=1048575)(hj:ks[j]? =some u)(ht:qP k j=false):
  (idx (encI (ends ks b)) (j:Int)=some [D.int .i64 ((b+sizes (ks.take j)+sizes u.kids:Nat):Int)]∧
   M.fC k op x y (encI (ends ks b)) (j:Int) p.level p.ny p.tN p.tV p.lV=some (dN k op ks.length j p).DL∧
   M.sV f (aT o l) false ((b+sizes (ks.take j)+sizes u.kids:Nat):Int) (dN k op ks.length j p).DL.1 (dN k op ks.length j p).DL.2.1 (dN k op ks.length j p).DL.2.2.1 (dN k op ks.length j p).DL.2.2.2.1 (dN k op ks.length j p).DL.2.2.2.2=some (dE (QT k op ks.length p j u)))∧(QT k op ks.length p j u).size+3<=16 * u.size:=by
 have hkl:=iZ ks;have hus:=iw (zZ hj);have hjl:j<ks.length:=(Md.1 hj).1;have hen:(encI (ends ks b)).length=ks.length:=by rw[aU,dQ]
 have hlv:lvl k op≠0:=by have:=V3 he hc;omega
 refine⟨⟨lY hj, ?_, ?_⟩,ala (OC u)⟩
 ·have h:=ZC (x:=x) (r:=encI (ends ks b)) (j:=j) (p:=p) he (by rw[hen];exact hc) ak ak;rw[hen] at h;exact h
 ·have h:=aIi (ih u (zZ hj)) (o:=o) (f:=f) (p:=dN k op ks.length j p) hl (hat j u hj) ak (wU hp hjl hlv);rw[QT,ht,Bool.false_or];exact h
def am4{ks:List Tn}(ih:∀u,u∈ks->DS u){o:Bool}{f:Nat}{l:List Nd}{b:Nat}(hl:l.length<=1048576)(hat:At l b ks)(hf:5 * sizes ks+3<=f)(hu:sizes ks<=1048575)(k op:Int)(x y:aB)(hx:x.length<=1048576)(c d:UInt8):
  M.GX f (aT o l) false k op x y (encI (ends ks b)) [c] [d]=some (dE (o7 [mP (x++[c]),Rf .top ks,mP [d]])):=by
 obtain⟨g,rfl⟩:∃g,f=g+1:=⟨f - 1,ak⟩
 have h1:=ar0 ih (o:=o) (f:=g) (p:=.top) rfl (b:=b) hl hat ak hu;have h2:=OD .top ks;simp only[Ps.top] at h1 h2;have hs:sizes [mP (x++[c]),Rf ⟨1,false,false,false,false⟩ ks,mP [d]]<=90000000:=by simp only[sizes,gY];omega
 rw[M.afA];simp(disch:=omega) only[M.Am,lU,qX,Dh,aI,kC,DF.2,h1,ah,fz3,uP _ hs,nS,Ps.top]
def aiT{u:Tn}(hS:DS u)(hok:Gw u)(he:Yv u)(hh:13<=lvl u.kind u.op){o:Bool}{f:Nat}{l:List Nd}{b:Nat}(hl:l.length<=1048576)(h:Lies l b u)(hf:5 * u.size+1<=f)(p:Ps)(hp:nJ p=true):
  M.Eu f (aT o l) false ((b+sizes u.kids:Nat):Int)=some (dE (qQ u p)):=by
 obtain⟨g,rfl⟩:∃g,f=g+1:=⟨f - 1,ak⟩
 have h1:=hS o g ⟨14,false,false,false,false⟩ l b hl h ak rfl;rw[arM u hok hh he _ p rfl hp] at h1;rw[M.adT];simp only[M.yV,h1,ah]
end Go.Proofs.YtbgadfelmhoheaaGreatDoor
