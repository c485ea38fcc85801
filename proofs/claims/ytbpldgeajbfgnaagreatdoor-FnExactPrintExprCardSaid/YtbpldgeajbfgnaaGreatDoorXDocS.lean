import Derived.Test.YtbpldgeajbfgnaaGreatDoorXTok2
import Derived.Test.YtbpldgeajbfgnaaGreatDoorXRend3
import Derived.Test.YtbpldgeajbfgnaaGreatDoorXLay
set_option linter.defProp false
namespace Go.Proofs.YtbpldgeajbfgnaaGreatDoor
set_option linter.unusedVariables false
set_option linter.unusedSimpArgs false
open Go Go.Vm
open Go.IntKind (i64)
def Lm(k op:Int)(n:Nat)(p:Ps)(u:Tn):iW k op n p [u] 0=[rF k op n p 0 u]:=by rw[iW,iW];rfl
def RH(k op:Int)(n:Nat)(p:Ps)(u v:Tn):iW k op n p [u,v] 0=[rF k op n p 0 u,rF k op n p 1 v]:=by rw[iW,iW,iW];rfl
def apu(k op:Int)(n:Nat)(p:Ps)(u v z:Tn):iW k op n p [u,v,z] 0=[rF k op n p 0 u,rF k op n p 1 v,rF k op n p 2 z]:=by rw[iW,iW,iW,iW];rfl
def ZM(u:Tn):sizes [u]=u.size:=by simp[sizes]
def sz2(u v:Tn):sizes [u,v]=u.size+v.size:=by simp[sizes]
def sz3(u v z:Tn):sizes [u,v,z]=u.size+(v.size+z.size):=by simp[sizes]
def Ql{α:Type}{l:List α}(h:l.length=2):∃a b,l=[a,b]:=by
 match l,h with
 |[a,b],_=>exact⟨a,b,rfl⟩
def Wy{α:Type}{l:List α}(h:l.length=3):∃a b c,l=[a,b,c]:=by
 match l,h with
 |[a,b,c],_=>exact⟨a,b,c,rfl⟩
def ZN{op:Int}(h:vT op≠0):I64 op:=by
 by_cases hr:0<=op∧op<=99
 ·constructor<;>omega
 ·exfalso;apply h;have e:∀z:Int,0<=z->z<=99->(op==z)=false:=λz h1 h2=>by rw[Nw];omega
  simp only[vT,e 44 (by decide) (by decide),e 45 (by decide) (by decide),e 67 (by decide) (by decide),e 46 (by decide) (by decide),e 63 (by decide) (by decide),e 48 (by decide) (by decide),e 47 (by decide) (by decide),e 50 (by decide) (by decide),e 62 (by decide) (by decide),e 49 (by decide) (by decide),e 99 (by decide) (by decide),e 55 (by decide) (by decide),e 56 (by decide) (by decide),e 57 (by decide) (by decide),e 58 (by decide) (by decide),e 59 (by decide) (by decide),e 60 (by decide) (by decide),Bool.or_false,dP]
def WA:((1:Nat):Int)=1:=rfl
def arn:((2:Nat):Int)=2:=rfl
section
variable {k op:Int} {x y:aC} {ks:List Tn} (ih:∀u,u∈ks->PT u)
include ih
theorem awd{w:Bool}{f:Nat}{p:Ps}{toks:List Tk}{sp:au}(hc:Cnt k op y ks.length)(hk:k=6∨k=9∨k=10∨k=11∨k=12∨k=13∨k=14∨k=15)(hf:5 * sizes ks+4<=f)(hp:kZ p=true)(hs:aA sp=true)(ht:toks.length+16 * sizes ks+3<=900000000)(hl:sp.length+sizes ks<=900000000)(hu:sizes ks<=1048575):
  Wr toks sp (sizes ks) (CP k op ks.length x (iW k op ks.length p ks 0)) (M.nN f k op x y (mD w ks) p.level p.kV p.qh p.qj p.kE (jR toks) sp false):=by
 obtain⟨g,rfl⟩:∃g,f=g+1:=⟨f - 1,by omega⟩
 have hlv:lvl k op≠0:=by have:=NZ (y:=y) (n:=ks.length) (k:=k) (op:=op) (by omega) hc;omega
 rw[M.OX];rcases hk with rfl|rfl|rfl|rfl|rfl|rfl|rfl|rfl
 ·obtain⟨u,rfl⟩:=zlo.1 (hc.one (by omega));rw[ZM] at *;have e1:=(kG 68 (by constructor<;>decide)).1;have p1:=EM [tok 68] toks sp false hs (by simp;omega);obtain⟨sp1,a1,a2,a3⟩:=KT ih (w:=w) (f:=g) (p:=p) (toks:=toks++[tok 68]) (sp:=sp) (x:=x) (y:=y) (op:=op) (k:=6) (j:=0) (u:=u) rfl (by omega) hp hlv hs (by simp only[vS,vX,EN,Nat.zero_add] at *;omega) hl (by rw[ZM];exact hu);rw[rE] at a1;simp only[M.dX,Int.reduceBEq,bW,dP,e1,ah,uy,dM,hs,p1,a1,a2];refine⟨sp1, ?_,a2,a3⟩;rw[Lm];simp[CP,xZ]
 ·obtain⟨u,rfl⟩:=zlo.1 (hc.one (by omega));rw[ZM] at *;have e1:=(kG op (by rcases hc.stp (by omega) with rfl|rfl<;>constructor<;>decide)).1;have p1:=EM [tok op] toks sp false hs (by simp;omega);obtain⟨sp1,a1,a2,a3⟩:=KT ih (w:=w) (f:=g) (p:=p) (toks:=toks++[tok op]) (sp:=sp) (x:=x) (y:=y) (op:=op) (k:=9) (j:=0) (u:=u) rfl (by omega) hp hlv hs (by simp only[vS,vX,EN,Nat.zero_add] at *;omega) hl (by rw[ZM];exact hu);rw[rE] at a1;simp only[M.dX,Int.reduceBEq,bW,dP,e1,ah,uy,dM,hs,p1,a1,a2];refine⟨sp1, ?_,a2,a3⟩;rw[Lm];simp[CP,xZ]
 ·obtain⟨u,rfl⟩:=zlo.1 (hc.one (by omega));rw[ZM] at *;have hb:=Jc (k:=10) (op:=op) (n:=[u].length) (p:=p) (j:=0) (nT u);have e1:=(kG op (by rcases hc.stp (by omega) with rfl|rfl<;>constructor<;>decide)).1;obtain⟨sp1,a1,a2,a3⟩:=KT ih (w:=w) (f:=g) (p:=p) (toks:=toks) (sp:=sp) (x:=x) (y:=y) (op:=op) (k:=10) (j:=0) (u:=u) rfl (by omega) hp hlv hs (by omega) hl (by rw[ZM];exact hu);rw[rE] at a1;have p1:=EM [tok op] (toks++rF 10 op [u].length p 0 u) sp1 false a2 (by simp only[vS,vX,EN,Nat.zero_add] at *;omega);simp only[M.dX,Int.reduceBEq,bW,dP,e1,ah,uy,dM,hs,p1,a1,a2];refine⟨sp1, ?_,a2,a3⟩;rw[Lm];simp[CP,xZ]
 ·obtain⟨u,rfl⟩:=zlo.1 (hc.one (by omega));rw[ZM] at *;have e1:=(kG op (by rcases hc.una (by omega) with rfl|rfl|rfl<;>constructor<;>decide)).1;have p1:=EM [tok op] toks sp false hs (by simp;omega);obtain⟨sp1,a1,a2,a3⟩:=KT ih (w:=w) (f:=g) (p:=p) (toks:=toks++[tok op]) (sp:=sp) (x:=x) (y:=y) (op:=op) (k:=11) (j:=0) (u:=u) rfl (by omega) hp hlv hs (by simp only[vS,vX,EN,Nat.zero_add] at *;omega) hl (by rw[ZM];exact hu);rw[rE] at a1;simp only[M.dX,Int.reduceBEq,bW,dP,e1,ah,uy,dM,hs,p1,a1,a2];refine⟨sp1, ?_,a2,a3⟩;rw[Lm];simp[CP,xZ]
 ·obtain⟨u,v,rfl⟩:=Ql (hc.two (by omega));rw[sz2] at *;have hb:=Jc (k:=12) (op:=op) (n:=[u,v].length) (p:=p) (j:=0) (nT u);obtain⟨sp1,a1,a2,a3⟩:=KT ih (w:=w) (f:=g) (p:=p) (toks:=toks) (sp:=sp) (x:=x) (y:=y) (op:=op) (k:=12) (j:=0) (u:=u) rfl (by omega) hp hlv hs (by omega) (by omega) (by rw[sz2];exact hu);rw[rE] at a1
  by_cases h99:op=99
  ·have e99:(op !=99)=false:=by simp[h99]
   obtain⟨sp2,b1,b2,b3⟩:=KT ih (w:=w) (f:=g) (p:=p) (toks:=toks++rF 12 op [u,v].length p 0 u) (sp:=sp1) (x:=x) (y:=y) (op:=op) (k:=12) (j:=1) (u:=v) rfl (by omega) hp hlv a2 (by simp only[vS,vX,EN,Nat.zero_add] at *;omega) (by omega) (by rw[sz2];exact hu);rw[WA] at b1;simp only[M.dX,Int.reduceBEq,bW,dP,e99,ah,uy,dM,hs,a1,a2,b1,b2];refine⟨sp2, ?_,b2,by omega⟩;rw[RH];simp[CP,xZ,h99]
  ·have e99:(op !=99)=true:=by simpa using h99
   have e98:(op==99)=false:=by simpa using h99
   have e1:=(kG op (ZN (hc.bin rfl).1)).1;have p1:=EM [tok op] (toks++rF 12 op [u,v].length p 0 u) sp1 false a2 (by simp only[vS,vX,EN,Nat.zero_add] at *;omega);obtain⟨sp2,b1,b2,b3⟩:=KT ih (w:=w) (f:=g) (p:=p) (toks:=toks++rF 12 op [u,v].length p 0 u++[tok op]) (sp:=sp1) (x:=x) (y:=y) (op:=op) (k:=12) (j:=1) (u:=v) rfl (by omega) hp hlv a2 (by simp only[vS,vX,EN,Nat.zero_add] at *;omega) (by omega) (by rw[sz2];exact hu);rw[WA] at b1;simp only[M.dX,Int.reduceBEq,bW,dP,e99,e1,p1,ah,uy,dM,hs,a1,a2,b1,b2];refine⟨sp2, ?_,b2,by omega⟩;rw[RH];simp[CP,xZ,e98]
 ·have e1:=(kG 24 (by constructor<;>decide)).1;have hr:∀z:aC,([[D.int .i64 24,D.str (spell 24),D.int .i64 0],[D.int .i64 6,D.str z,D.int .i64 0]]:au)=jR [tok 24,⟨6,z,0⟩]:=λz=>rfl
  cases hm:Nat.blt 1 ks.length with
  |true=>
   obtain⟨sp1,a1,a2,a3⟩:=ae7 ih (w:=w) (f:=g) (p:=p) (toks:=toks) (sp:=sp) (x:=x) (y:=y) (op:=op) (k:=13) (open':=32) (shut:=33) (by constructor<;>decide) (by constructor<;>decide) (by omega) hp hlv hs (by omega) hl hu;have hlen:(BD true (iW 13 op ks.length p ks 0)).length<=9 * sizes ks:=by
    have h1:=RG (iW 13 op ks.length p ks 0) true;have h2:=SB (k:=13) (op:=op) (n:=ks.length) (p:=p) (ts:=ks) (j:=0) λu _=>nT u
    rw[Ey] at h1;omega
   have p1:=EM [tok 24,⟨6,x,0⟩] (toks++tok 32::(BD true (iW 13 op ks.length p ks 0)++[tok 33])) sp1 false a2 (by simp only[vS,vX,EN,Nat.zero_add] at *;omega);simp only[M.dX,Int.reduceBEq,bW,dP,ny,many,hm,e1,p1,ah,hr,dM,hs,a1,a2];refine⟨sp1, ?_,a2,a3⟩;simp[CP,hm]
  |false=>
   have h1:ks.length=1:=by
    have h2:=hc.some_ (by omega);have h3:¬1<ks.length:=by rw[<-Nat.blt_eq,hm];simp
    omega
   obtain⟨u,rfl⟩:=zlo.1 h1;rw[ZM] at *;have hb:=Jc (k:=13) (op:=op) (n:=[u].length) (p:=p) (j:=0) (nT u);obtain⟨sp1,a1,a2,a3⟩:=KT ih (w:=w) (f:=g) (p:=p) (toks:=toks) (sp:=sp) (x:=x) (y:=y) (op:=op) (k:=13) (j:=0) (u:=u) rfl (by omega) hp hlv hs (by omega) hl (by rw[ZM];exact hu);rw[rE] at a1;have p1:=EM [tok 24,⟨6,x,0⟩] (toks++rF 13 op [u].length p 0 u) sp1 false a2 (by simp only[vS,vX,EN,Nat.zero_add] at *;omega);simp only[M.dX,Int.reduceBEq,bW,dP,ny,many,hm,e1,p1,ah,hr,dM,hs,a1,a2];refine⟨sp1, ?_,a2,a3⟩;rw[Lm];simp[CP,xZ,show Nat.blt 1 1=false from rfl]
 ·obtain⟨u,v,z,rfl⟩:=Wy (hc.three rfl);rw[sz3] at *;have hb:=Jc (k:=14) (op:=op) (n:=[u,v,z].length) (p:=p) (j:=0) (nT u);have hb2:=Jc (k:=14) (op:=op) (n:=[u,v,z].length) (p:=p) (j:=1) (nT v);have e1:=(kG 65 (by constructor<;>decide)).1;have e2:=(kG 66 (by constructor<;>decide)).1;obtain⟨sp1,a1,a2,a3⟩:=KT ih (w:=w) (f:=g) (p:=p) (toks:=toks) (sp:=sp) (x:=x) (y:=y) (op:=op) (k:=14) (j:=0) (u:=u) rfl (by omega) hp hlv hs (by omega) (by omega) (by rw[sz3];exact hu);rw[rE] at a1;have p1:=EM [tok 65] (toks++rF 14 op [u,v,z].length p 0 u) sp1 false a2 (by simp only[vS,vX,EN,Nat.zero_add] at *;omega);obtain⟨sp2,b1,b2,b3⟩:=KT ih (w:=w) (f:=g) (p:=p) (toks:=toks++rF 14 op [u,v,z].length p 0 u++[tok 65]) (sp:=sp1) (x:=x) (y:=y) (op:=op) (k:=14) (j:=1) (u:=v) rfl (by omega) hp hlv a2 (by simp only[vS,vX,EN,Nat.zero_add] at *;omega) (by omega) (by rw[sz3];exact hu);rw[WA] at b1;have p2:=EM [tok 66] (toks++rF 14 op [u,v,z].length p 0 u++[tok 65]++rF 14 op [u,v,z].length p 1 v) sp2 false b2 (by simp only[vS,vX,EN,Nat.zero_add] at *;omega);obtain⟨sp3,c1,c2,c3⟩:=KT ih (w:=w) (f:=g) (p:=p) (toks:=toks++rF 14 op [u,v,z].length p 0 u++[tok 65]++rF 14 op [u,v,z].length p 1 v++[tok 66]) (sp:=sp2) (x:=x) (y:=y) (op:=op) (k:=14) (j:=2) (u:=z) rfl (by omega) hp hlv b2 (by simp only[vS,vX,EN,Nat.zero_add] at *;omega) (by omega) (by rw[sz3];exact hu);rw[arn] at c1;simp only[M.dX,Int.reduceBEq,bW,dP,e1,e2,p1,p2,ah,uy,dM,hs,a1,a2,b1,b2,c1,c2];refine⟨sp3, ?_,c2,by omega⟩;rw[apu];simp[CP,xZ]
 ·obtain⟨u,v,rfl⟩:=Ql (hc.two (by omega));rw[sz2] at *;have hb:=Jc (k:=15) (op:=op) (n:=[u,v].length) (p:=p) (j:=0) (nT u);obtain⟨sp1,a1,a2,a3⟩:=KT ih (w:=w) (f:=g) (p:=p) (toks:=toks) (sp:=sp) (x:=x) (y:=y) (op:=op) (k:=15) (j:=0) (u:=u) rfl (by omega) hp hlv hs (by omega) (by omega) (by rw[sz2];exact hu);rw[rE] at a1
  by_cases h99:op=99
  ·have e99:(op !=99)=false:=by simp[h99]
   obtain⟨sp2,b1,b2,b3⟩:=KT ih (w:=w) (f:=g) (p:=p) (toks:=toks++rF 15 op [u,v].length p 0 u) (sp:=sp1) (x:=x) (y:=y) (op:=op) (k:=15) (j:=1) (u:=v) rfl (by omega) hp hlv a2 (by simp only[vS,vX,EN,Nat.zero_add] at *;omega) (by omega) (by rw[sz2];exact hu);rw[WA] at b1;simp only[M.dX,Int.reduceBEq,bW,dP,e99,ah,uy,dM,hs,a1,a2,b1,b2];refine⟨sp2, ?_,b2,by omega⟩;rw[RH];simp[CP,xZ,h99]
  ·have e99:(op !=99)=true:=by simpa using h99
   have e98:(op==99)=false:=by simpa using h99
   have e1:=(kG op (by rcases hc.asg rfl with rfl|h<;>constructor<;>omega)).1;have p1:=EM [tok op] (toks++rF 15 op [u,v].length p 0 u) sp1 false a2 (by simp only[vS,vX,EN,Nat.zero_add] at *;omega);obtain⟨sp2,b1,b2,b3⟩:=KT ih (w:=w) (f:=g) (p:=p) (toks:=toks++rF 15 op [u,v].length p 0 u++[tok op]) (sp:=sp1) (x:=x) (y:=y) (op:=op) (k:=15) (j:=1) (u:=v) rfl (by omega) hp hlv a2 (by simp only[vS,vX,EN,Nat.zero_add] at *;omega) (by omega) (by rw[sz2];exact hu);rw[WA] at b1;simp only[M.dX,Int.reduceBEq,bW,dP,e99,e1,p1,ah,uy,dM,hs,a1,a2,b1,b2];refine⟨sp2, ?_,b2,by omega⟩;rw[RH];simp[CP,xZ,e98]
end
def akR(sp:au)(a b:Int)(hs:aA sp=true):aA (sp++[[D.int .i64 a,D.int .i64 b]])=true:=by simp only[aA,List.all_append,AL] at hs⊢;exact⟨hs,rfl⟩
def awe(t:Tn):GU t->TM t->PT t:=by
 refine Tn.ind (P:=λt=>GU t->TM t->PT t) ?_ t;intro k op x y ks ih hok he w f p toks sp hf hp hs ht hl hu;have hc:=Qc hok;have ih':∀u,u∈ks->PT u:=λu hm=>by obtain⟨i,hi⟩:=List.mem_iff_getElem?.1 hm;obtain⟨h1,h2⟩:=V6 hok he hi;exact ih u hm h2 h1
 have he':1<=k∧k<=15:=he;have hlv:lvl k op≠0:=by have:=NZ he' hc;omega
 rw[Tn.size] at hf ht hl hu⊢;obtain⟨g,rfl⟩:∃g,f=g+1:=⟨f - 1,by omega⟩
 simp only[Tn.kind,Tn.op,Tn.text,Tn.other,Tn.kids];rw[M.SK,sK];have done:∀(out:List Tk) (sp':au) (c:Option (au×au×Bool)),aA sp'=true->sp'.length<=sp.length+sizes ks->c=some (jR (toks++out),sp'++[[D.int .i64 (toks.length:Int),D.int .i64 ((toks++out).length:Int)]],false)->Wr toks sp (sizes ks+1) out c:=by intro out sp' c h1 h2 h3;exact⟨_,h3,akR _ _ _ h1,by rw[vS,GX];omega⟩
 have leaf:∀(z:Int) (h:CP k op ks.length x (iW k op ks.length p ks 0)=([⟨z,x,0⟩]:List Tk)),Wr toks sp (sizes ks+1) (CP k op ks.length x (iW k op ks.length p ks 0)) (some (jR (toks++([⟨z,x,0⟩]:List Tk)),sp++[[D.int .i64 (toks.length:Int),D.int .i64 ((toks++([⟨z,x,0⟩]:List Tk)).length:Int)]],false)):=by intro z h;rw[h];exact done _ sp _ hs (by omega) rfl
 have hrow:∀z:Int,([[D.int .i64 z,D.str x,D.int .i64 0]]:au)=jR [⟨z,x,0⟩]:=λz=>rfl
 have hput:∀z:Int,M.bU (jR [⟨z,x,0⟩]) (jR toks) sp false=some (jR (toks++[⟨z,x,0⟩]),sp,false):=λz=>EM [⟨z,x,0⟩] toks sp false hs (by simp;omega)
 have sps:∀(s:au) (a b:Int),aA s=true->aA (s++[[D.int .i64 a,D.int .i64 b]])=true:=akR;have hk:k=1∨k=2∨k=3∨k=4∨k=5∨k=7∨k=8∨(k=6∨k=9∨k=10∨k=11∨k=12∨k=13∨k=14∨k=15):=by omega
 rcases hk with rfl|rfl|rfl|rfl|rfl|rfl|rfl|hk
 ·simp only[lJ,M.iq,Int.reduceBEq,bW,dP,hrow,hput,ah,dM,hs,gY,GX,sps sp _ _ hs];rw[dN (by omega),bW,dN (by omega),bW];exact leaf 6 rfl
 ·simp only[lJ,M.iq,Int.reduceBEq,bW,dP,hrow,hput,ah,dM,hs,gY,GX,sps sp _ _ hs];rw[dN (by omega),bW,dN (by omega),bW];exact leaf 3 rfl
 ·simp only[lJ,M.iq,Int.reduceBEq,bW,dP,hrow,hput,ah,dM,hs,gY,GX,sps sp _ _ hs];rw[dN (by omega),bW,dN (by omega),bW];exact leaf 4 rfl
 ·simp only[lJ,M.iq,Int.reduceBEq,bW,dP,hrow,hput,ah,dM,hs,gY,GX,sps sp _ _ hs];rw[dN (by omega),bW,dN (by omega),bW];exact leaf 5 rfl
 ·obtain⟨sp1,a1,a2,a3⟩:=ae7 ih' (w:=w) (f:=g) (p:=p) (toks:=toks++[⟨6,x,0⟩]) (sp:=sp) (x:=x) (y:=y) (op:=op) (k:=5) (open':=34) (shut:=35) (by constructor<;>decide) (by constructor<;>decide) (by omega) hp hlv hs (by rw[vS,GX];omega) (by omega) (by omega);simp only[lJ,M.iq,Int.reduceBEq,bW,dP,hrow,hput,ah,dM,hs,a1,a2,gY,GX,sps sp1 _ _ a2];rw[dN (by omega),bW,dN (by omega),bW];have ha:CP 5 op ks.length x (iW 5 op ks.length p ks 0)=⟨6,x,0⟩::tok 34::(BD true (iW 5 op ks.length p ks 0)++[tok 35]):=rfl;rw[ha];refine done _ sp1 _ a2 a3 ?_;simp
 ·obtain⟨sp1,a1,a2,a3⟩:=ae7 ih' (w:=w) (f:=g) (p:=p) (toks:=toks++[⟨7,x,0⟩]) (sp:=sp) (x:=x) (y:=y) (op:=op) (k:=7) (open':=32) (shut:=33) (by constructor<;>decide) (by constructor<;>decide) (by omega) hp hlv hs (by rw[vS,GX];omega) (by omega) (by omega);simp only[lJ,M.iq,Int.reduceBEq,bW,dP,hrow,hput,ah,dM,hs,a1,a2,gY,GX,sps sp1 _ _ a2];rw[dN (by omega),bW,dN (by omega),bW];have ha:CP 7 op ks.length x (iW 7 op ks.length p ks 0)=⟨7,x,0⟩::tok 32::(BD true (iW 7 op ks.length p ks 0)++[tok 33]):=rfl;rw[ha];refine done _ sp1 _ a2 a3 ?_;simp
 ·obtain⟨sp1,a1,a2,a3⟩:=ae7 ih' (w:=w) (f:=g) (p:=p) (toks:=toks++[⟨8,x,0⟩]) (sp:=sp) (x:=x) (y:=y) (op:=op) (k:=8) (open':=32) (shut:=33) (by constructor<;>decide) (by constructor<;>decide) (by omega) hp hlv hs (by rw[vS,GX];omega) (by omega) (by omega);simp only[lJ,M.iq,Int.reduceBEq,bW,dP,hrow,hput,ah,dM,hs,a1,a2,gY,GX,sps sp1 _ _ a2];rw[dN (by omega),bW,dN (by omega),bW];have ha:CP 8 op ks.length x (iW 8 op ks.length p ks 0)=⟨8,x,0⟩::tok 32::(BD true (iW 8 op ks.length p ks 0)++[tok 33]):=rfl;rw[ha];refine done _ sp1 _ a2 a3 ?_;simp
 ·obtain⟨sp1,a1,a2,a3⟩:=awd ih' (w:=w) (f:=g) (p:=p) (toks:=toks) (sp:=sp) (x:=x) (y:=y) (op:=op) (k:=k) hc hk (by omega) hp hs (by omega) (by omega) (by omega);have n1:(k==1)=false:=by rw[Nw];omega
  have n2:(k==2)=false:=by rw[Nw];omega
  have n3:(k==3)=false:=by rw[Nw];omega
  have n4:(k==4)=false:=by rw[Nw];omega
  have n5:(k==5)=false:=by rw[Nw];omega
  have n7:(k==7)=false:=by rw[Nw];omega
  have n8:(k==8)=false:=by rw[Nw];omega
  simp only[lJ,M.iq,n1,n2,n3,n4,n5,n7,n8,bW,dP,ah,dM,hs,a1,a2,gY,GX,sps sp1 _ _ a2];rw[dN (by omega),bW,dN (by omega),bW];exact done _ sp1 _ a2 a3 rfl
mutual
def sml:Tn->Prop
 | .mk _ _ x y ks=>(x.length<=1048576∧y.length<=1048576)∧ajF ks
def ajF:List Tn->Prop
 |[]=>True
 |t::ts=>sml t∧ajF ts
end
mutual
def akS:∀(t:Tn) (b:Nat),sml t↔∀n,n∈t.flat b->Small n
 | .mk k o x y ks,b=>by
  rw[sml,aiA ks b,Tn.flat];constructor
  ·rintro⟨⟨h1,h2⟩,h3⟩ n hn;rcases List.mem_append.1 hn with hn|hn
   ·exact h3 n hn
   ·simp only[List.mem_singleton] at hn;subst hn;exact⟨h1,h2⟩
  ·intro h;have h1:=h ⟨k,o,x,y,ends ks b⟩ (by simp);exact⟨⟨h1.text,h1.other⟩,λn hn=>h n (List.mem_append_left _ hn)⟩
def aiA:∀(ks:List Tn) (b:Nat),ajF ks↔∀n,n∈jC ks b->Small n
 |[],b=>by simp[ajF,jC]
 |t::ts,b=>by
  rw[ajF,akS t b,aiA ts (b+t.size),jC];constructor
  ·rintro⟨h1,h2⟩ n hn;rcases List.mem_append.1 hn with hn|hn
   ·exact h1 n hn
   ·exact h2 n hn
  ·intro h;exact⟨λn hn=>h n (List.mem_append_left _ hn),λn hn=>h n (List.mem_append_right _ hn)⟩
end
def WB:∀{ks:List Tn} {u:Tn},ajF ks->u∈ks->sml u
 |[],_,_,h=>by cases h
 |t::ts,u,h,hu=>by
  rw[ajF] at h;rcases List.mem_cons.1 hu with rfl|hu
  ·exact h.1
  ·exact WB h.2 hu
def asC(l:List (aC))(h:∀g,g∈l->g.length<=9)(i:Nat):(l[i]?.getD []).length<=9:=by
 cases hx:l[i]? with
 |none=>simp
 |some g=>exact h g (Lu hx)
def aIA:∀g,g∈Ro->g.length<=9:=by decide+kernel
def aIB:∀g,g∈O1->g.length<=9:=by decide+kernel
def GN(k:Int):(spell k).length<=9:=by
 unfold spell;split
 ·simp
 ·split
  ·exact asC _ aIA _
  ·split
   ·exact asC _ aIB _
   ·simp
def Sm(l:List Tk):Prop:=∀t,t∈l->t.text.length<=1048576
def RI:Sm []:=λt h=>by cases h
def sO{t:Tk}{l:List Tk}(h:t.text.length<=1048576)(hl:Sm l):Sm (t::l):=by
 intro u hu;rcases List.mem_cons.1 hu with rfl|hu
 ·exact h
 ·exact hl u hu
def JF{a b:List Tk}(ha:Sm a)(hb:Sm b):Sm (a++b):=by
 intro u hu;rcases List.mem_append.1 hu with hu|hu
 ·exact ha u hu
 ·exact hb u hu
def Gs(k:Int):(tok k).text.length<=1048576:=by have:=GN k;show(spell k).length<=1048576;omega
def Dz{a b:List Tk}(c:Bool)(ha:Sm a)(hb:Sm b):Sm (bif c then a else b):=by cases c<;>assumption
def apv:∀{L:List (List Tk)} (b:Bool),(∀l,l∈L->Sm l)->Sm (BD b L)
 |[],b,_=>by rw[BD];exact RI
 |x::l,b,h=>by have h1:=h x ZQ;rw[BD];exact JF (Dz _ h1 (sO (Gs _) h1)) (apv false λl hl=>h l (XR _ hl))
def awf{L:List (List Tk)}(h:∀l,l∈L->Sm l)(j:Nat):Sm (xZ L j):=by
 unfold xZ;cases hx:L[j]? with
 |none=>exact RI
 |some l=>exact h l (Lu hx)
def awg{k op:Int}{n:Nat}{x:aC}{L:List (List Tk)}(hx:x.length<=1048576)(h:∀l,l∈L->Sm l):Sm (CP k op n x L):=by
 have t1:∀z:Int,Sm [⟨z,x,0⟩]:=λz=>sO hx RI
 have t2:∀z:Int,Sm [tok z]:=λz=>sO (Gs z) RI
 have n1:=awf h;have c1:=apv true h;unfold CP;refine Dz _ (t1 _) (Dz _ (t1 _) (Dz _ (t1 _) (Dz _ (t1 _) (Dz _ ?_ (Dz _ ?_ (Dz _ ?_ (Dz _ ?_ (Dz _ ?_ (Dz _ ?_ (Dz _ ?_ (Dz _ ?_ ?_)))))))))))
 ·exact sO hx (sO (Gs _) (JF c1 (t2 _)))
 ·exact sO hx (sO (Gs _) (JF c1 (t2 _)))
 ·exact sO hx (sO (Gs _) (JF c1 (t2 _)))
 ·exact sO (Gs _) (n1 _)
 ·exact sO (Gs _) (n1 _)
 ·exact JF (n1 _) (t2 _)
 ·exact JF (Dz _ (sO (Gs _) (JF c1 (t2 _))) (n1 _)) (sO (Gs _) (sO hx RI))
 ·exact JF (n1 _) (sO (Gs _) (JF (n1 _) (sO (Gs _) (n1 _))))
 ·exact JF (n1 _) (JF (Dz _ RI (t2 _)) (n1 _))
def akT{k op:Int}{n:Nat}{p:Ps}:∀{ts:List Tn} {j:Nat},(∀u,u∈ts->∀q,Sm (sK u q))->∀l,l∈iW k op n p ts j->Sm l
 |[],j,_,l,hl=>by rw[iW] at hl;cases hl
 |t::ts,j,h,l,hl=>by
  rw[iW] at hl;rcases List.mem_cons.1 hl with rfl|hl
  ·exact Dz _ (h t ZQ _) (sO (Gs _) (JF (h t ZQ _) (sO (Gs _) RI)))
  ·exact akT (λu hu=>h u (XR _ hu)) l hl
def akU(t:Tn):sml t->∀p,Sm (sK t p):=by refine Tn.ind (P:=λt=>sml t->∀p,Sm (sK t p)) ?_ t;intro k op x y ks ih h p;rw[sml] at h;rw[sK];exact awg h.1.1 (akT λu hu q=>ih u hu (WB h.2 hu) q)
def apw{k op:Int}{n:Nat}{p:Ps}{j:Nat}{u:Tn}(h:sml u):Sm (rF k op n p j u):=
 Dz _ (akU u h _) (sO (Gs _) (JF (akU u h _) (sO (Gs _) RI)))
def apx(t:Tn):GU t->TM t->∀p,sK t p≠[]:=by
 refine Tn.ind (P:=λt=>GU t->TM t->∀p,sK t p≠[]) ?_ t;intro k op x y ks ih hok he p;have hc:=Qc hok;have he':=he;simp only[TM,Tn.kind] at he';have ih':∀i u,ks[i]? =some u->∀q,sK u q≠[]:=λi u e q=>by obtain⟨h1,h2⟩:=V6 hok he' e;exact ih u (Lu e) h2 h1 q
 have kne:∀i u,ks[i]? =some u->rF k op ks.length p i u≠[]:=by
  intro i u e;unfold rF;cases(nC k i||fits u.kind u.op (dZ k op ks.length i p)) with
  |true=>exact ih' i u e _
  |false=>simp
 rw[sK];have hk:k=1∨k=2∨k=3∨k=4∨k=5∨k=7∨k=8∨k=6∨k=9∨k=10∨k=11∨k=13∨k=14∨(k=12∨k=15):=by omega
 rcases hk with rfl|rfl|rfl|rfl|rfl|rfl|rfl|rfl|rfl|rfl|rfl|rfl|rfl|hk
 iterate 13 simp[CP]
 obtain⟨u,v,rfl⟩:=Ql (hc.two (by omega));have h0:rF k op 2 p 0 u≠[]:=kne 0 u rfl;rcases hk with rfl|rfl
 ·rw[RH];simp[CP,xZ,h0]
 ·rw[RH];simp[CP,xZ,h0]
def akV{k op:Int}{n:Nat}{p:Ps}{j:Nat}{u:Tn}(h1:GU u)(h2:TM u):rF k op n p j u≠[]:=by
 unfold rF;cases(nC k j||fits u.kind u.op (dZ k op n j p)) with
 |true=>exact apx u h1 h2 _
 |false=>simp
mutual
def WC:Tn->Prop
 | .mk _ _ x _ ks=>x.length<=1000000000∧JG ks
def JG:List Tn->Prop
 |[]=>True
 |t::ts=>WC t∧JG ts
end
mutual
def ab1:∀(t:Tn) (b:Nat),WC t->∀n,n∈t.flat b->n.text.length<=1000000000
 | .mk k o x y ks,b,h,n,hn=>by
  rw[WC] at h;rw[Tn.flat] at hn;rcases List.mem_append.1 hn with hn|hn
  ·exact ad2 ks b h.2 n hn
  ·simp only[List.mem_singleton] at hn;subst hn;exact h.1
def ad2:∀(ks:List Tn) (b:Nat),JG ks->∀n,n∈jC ks b->n.text.length<=1000000000
 |[],b,_,n,hn=>by simp[jC] at hn
 |t::ts,b,h,n,hn=>by
  rw[JG] at h;rw[jC] at hn;rcases List.mem_append.1 hn with hn|hn
  ·exact ab1 t b h.1 n hn
  ·exact ad2 ts _ h.2 n hn
end
def ab2(s:aC):WC (GK s)↔s.length<=1000000000:=by simp[GK,WC,JG]
def aiB:WC NY:=by simp[NY,WC,JG]
def aiC(d:Tn):WC (TL d)↔WC d:=by simp[TL,WC,JG]
def akW(d:Tn):WC (aic d)↔WC d:=by simp[aic,WC,JG]
def ae8(l:List Tn):WC (Du l)↔JG l:=by simp[Du,WC]
def aiD:∀l:List Tn,JG l↔∀t,t∈l->WC t
 |[]=>by simp[JG]
 |t::ts=>by simp[JG,aiD ts]
def aiE(a b:List Tn):JG (a++b)↔JG a∧JG b:=by simp only[aiD,List.mem_append];exact⟨λh=>⟨λt ht=>h t (.inl ht),λt ht=>h t (.inr ht)⟩,λh t ht=>ht.elim (h.1 t) (h.2 t)⟩
def CG{a b:Tn}(c:Bool)(ha:WC a)(hb:WC b):WC (bif c then a else b):=by cases c<;>assumption
def apy{a b:List Tn}(c:Bool)(ha:JG a)(hb:JG b):JG (bif c then a else b):=by cases c<;>assumption
def aiF:∀(L:List Tn) (b:Bool),JG L->JG (Lj b L)
 |[],b,_=>by simp[Lj,JG]
 |x::l,b,h=>by rw[JG] at h;rw[Lj,aiE];exact⟨apy _ ⟨h.1,trivial⟩ ⟨by simp[ab2],aiB,h.1,trivial⟩,aiF l false h.2⟩
def al2{L:List Tn}(h:JG L):WC (V5 L):=by rw[V5,akW,aiC,ae8];exact aiF L true h
def WE:∀{L:List Tn} (j:Nat),JG L->WC (Gp L j)
 |[],j,_=>by simp[Gp,ab2]
 |x::l,0,h=>h.1
 |x::l,j+1,h=>WE (L:=l) j h.2
def apz(k op:Int)(n:Nat){x:aC}(g:Bool){L:List Tn}(hx:x.length<=1048576)(h:JG L):WC (Ru k op n x g L):=by
 have hs:=GN op;have h0:=WE 0 h;have h1:=WE 1 h;have h2:=WE 2 h;have hl:=al2 h;unfold Ru;refine CG _ ?_ (CG _ ?_ (CG _ ?_ (CG _ ?_ (CG _ ?_ (CG _ ?_ (CG _ ?_ (CG _ ?_ (CG _ (CG _ ?_ ?_) (CG _ ?_ (CG _ ?_ ?_))))))))))
 all_goals simp only[ae8,akW,aiC,JG,ab2,h0,h1,h2,hl,aiB,true_and,and_true,vS,vX,EN]
 all_goals first
  |omega
  |(cases g<;>simp only[bW,dP,vS,vX,EN]<;>omega)
def ad3{a:Tn}(h:WC a):WC (Du [GK [40],a,GK [41]]):=by rw[ae8];exact⟨by simp[ab2],h,by simp[ab2],trivial⟩
def ad4(k op:Int)(n:Nat)(p:Ps):∀(ts:List Tn) (j:Nat),(∀u,u∈ts->∀q,WC (nD u q))->JG (pz k op n p ts j)
 |[],j,_=>by rw[pz];trivial
 |t::ts,j,h=>by rw[pz];exact⟨CG _ (h t ZQ _) (ad3 (h t ZQ _)),ad4 k op n p ts (j+1) λu hu=>h u (XR _ hu)⟩
def ad5(t:Tn):sml t->∀q,WC (nD t q):=by refine Tn.ind (P:=λt=>sml t->∀q,WC (nD t q)) ?_ t;intro k op x y ks ih hs q;rw[sml] at hs;rw[nD];exact apz _ _ _ _ hs.1.1 (ad4 _ _ _ _ _ _ λu hu=>ih u hu (WB hs.2 hu))
def al3{t:Tn}(h:sml t)(q:Ps):WC (Ez t q):=CG _ (ad5 t h q) (ad3 (ad5 t h _))
def aro(l:List Nd)(o:Bool)(d:Int)(hl:l.length<=90000000)(hk:∀n,n∈l->n.kids.length<=90000000∧∀e,e∈n.kids-> -4000000000<=e+d∧e+d<=4000000000):
  M.ou (dW o l) d=some (dW true (l.map (Nd.up d))):=by
 simp only[M.ou,M.Fp];have hloop:=kX (b:=M.Ah (dW o l) d) (t:=((l.length:Int),dW true (l.map (Nd.up d)))) (λi=>((i:Int),dW true ((l.take i).map (Nd.up d)))) l.length
  (by
   intro i hi;obtain⟨n,hn⟩:∃n,l[i]? =some n:=⟨l[i],by simp[hi]⟩
   obtain⟨hkl,hke⟩:=hk n (Lu hn);have hin:=kX (b:=M.Ag (dW o l) d (i:Int) (dW true ((l.take i).map (Nd.up d))) n.kind n.op n.text) (t:=((n.kids.length:Int),encI (n.kids.map (· +d)))) (λj=>((j:Int),encI ((n.kids.take j).map (· +d)))) n.kids.length
    (by
     intro j hj;obtain⟨e,he⟩:∃e,n.kids[j]? =some e:=⟨n.kids[j],by simp[hj]⟩
     have:=hke e (Lu he);simp only[lJ,M.Ag,M.uZ,dF,qN,hn,Jf,ah,cD3,dn,jS,he,LQ,List.length_map,U2,GX];rw[zdt (by omega),bW,dN (by omega),bW,dN (by omega),bW,aG (by omega) (by omega),aG (by omega) (by omega),kY he];simp[encI])
    (by simp only[lJ,M.Ag,M.uZ,dF,qN,hn,Jf,ah,cD3,dn];rw[uh (by omega),dP,List.take_length]) 0 (Nat.zero_le _)
   simp only[rE,List.take_zero,List.map_nil] at hin;have hin':M.DZ (dW o l) d (i:Int) (dW true ((l.take i).map (Nd.up d))) n.kind n.op n.text (0,[])=some ((n.kids.length:Int),encI (n.kids.map (· +d))):=hin;simp only[lJ,M.Ah,M.vg,iM,dF,qN,hn,Jf,ah,cD0,cD1,cD2,cD3,hin',GH,bW,List.length_map,U2,GX];rw[zdt (by omega),bW,dN (by omega),bW,dN (by omega),bW,aG (by omega) (by omega),kY hn,List.map_append,I9];rfl)
  (by simp only[lJ,M.Ah,M.vg,iM];rw[uh (by omega),dP,List.take_length]) 0 (Nat.zero_le _)
 simp only[rE,List.take_zero,List.map_nil] at hloop;have UQ:M.D5 (dW o l) d (0,[])=some ((l.length:Int),dW true (l.map (Nd.up d))):=hloop;rw[UQ,ah]
def zx(ts:List Tn):au:=ts.map λt=>[.sl false 4 (dW false (t.flat 0))]
def ae9(t:Tn)(n:Nd)(hn:n∈t.flat 0):n.kids.length<=t.size∧∀e,e∈n.kids->0<=e∧e<t.size:=by obtain⟨h1,h2⟩:=XA t 0 n hn;refine⟨by omega,λe he=> ?_⟩;have:=h2 e he;omega
def ajG(k op:Int)(ts:List Tn)(hs:sizes ts<=90000000):M.dR k op (zx ts)=some (dW true ((Tn.mk k op [] [] ts).flat 0)):=by
 have htl:=jT ts;simp only[lJ,M.dR,M.Il];have hpl:(zx ts).length=ts.length:=by simp[zx]
 have hloop:=kX (b:=M.xu)
  (t:=if ts=[] then .inl (zx ts,0,[],k,op,[]) else .inr (zx ts,(ts.length:Int),dW true (jC ts 0),k,op,[],encI (ends ts 0)))
  (λj=>if j=0 then .inl (zx ts,0,[],k,op,[]) else .inr (zx ts,(j:Int),dW true (jC (ts.take j) 0),k,op,[],encI (ends (ts.take j) 0))) ts.length
  (by
   intro j hj;obtain⟨t,ht⟩:∃t,ts[j]? =some t:=⟨ts[j],by simp[hj]⟩
   have hst:=Gn ht;have hp:=t.size_pos;have hr:(zx ts)[j]? =some [.sl false 4 (dW false (t.flat 0))]:=by simp[zx,ht]
   have c0:LC 4 [D.sl false 4 (dW false (t.flat 0))] 0=some (dW false (t.flat 0)):=rfl;have hfl:(dW true (jC (ts.take j) 0)).length=sizes (ts.take j):=by rw[iM,mZ]
   have hsh:M.ou (dW false (t.flat 0)) ((sizes (ts.take j):Nat):Int)=some (dW true (t.flat (sizes (ts.take j)))):=by
    rw[aro (t.flat 0) false _ (by rw[t.flat_length];omega) (λn hn=> ?_)]
    ·rw[t.akf 0 (sizes (ts.take j))];congr 4<;>omega
    ·obtain⟨h1,h2⟩:=ae9 t n hn;refine⟨by omega,λe he=> ?_⟩;have:=h2 e he;omega
   have hrl:(dW true (t.flat (sizes (ts.take j)))).length=t.size:=by rw[iM,t.flat_length]
   have hel:(encI (ends (ts.take j) 0)).length=j:=by rw[dn,iQ,U2];omega
   rw[if_neg (show¬j+1=0 by omega),adO ht,abB ht]
   by_cases h0:j=0
   ·subst h0;have hi:idx (zx ts) 0=some [.sl false 4 (dW false (t.flat 0))]:=by have:=dF (zx ts) 0;rw[rE] at this;rw[this,hr]
    rw[if_pos rfl];have z:sizes (ts.take 0)=0:=rfl;rw[z] at hsh hrl;have z2:(([]:au).length:Int)=((0:Nat):Int):=rfl;simp only[lJ,M.xu,M.sG,hpl,hi,ah,c0,z2,hsh,hrl,List.nil_append,EN,Nat.zero_add];rw[zdt (by omega),bW,dN (by omega),bW,dN (by omega),bW,aG (by omega) (by omega),aG (by omega) (by omega)];simp[encI,dW,jC,ends,sizes]
   ·rw[if_neg h0];simp only[lJ,M.xu,M.sG,hpl,dF,hr,ah,c0,hfl,hsh,hrl,hel,vS,GX];rw[zdt (by omega),bW,dN (by omega),bW,dN (by omega),bW,dN (by omega),bW,dN (by omega),bW,aG (by omega) (by omega),aG (by omega) (by omega),I9,Nat.zero_add];simp[encI])
  (by
   by_cases h0:ts=[]
   ·rw[if_pos (by rw[h0];rfl),if_pos h0];subst h0;rfl
   ·have h1:¬ts.length=0:=λe=>h0 (List.length_eq_zero_iff.1 e)
    rw[if_neg h1,if_neg h0,List.take_length];simp only[lJ,M.xu,M.sG,hpl];rw[uh (by omega),dP]) 0 (Nat.zero_le _)
 rw[if_pos rfl] at hloop;rw[M.Fq,hloop,ah]
 by_cases h0:ts=[]
 ·rw[if_pos h0];subst h0;rfl
 ·rw[if_neg h0];simp only[nX,letE,GH,bW,iM,mZ,GX];rw[dN (by omega),bW,dN (by omega),bW,Tn.flat,I9];rfl
mutual
def JH(w:Bool):Tn->Row
 | .mk k n x _ ks=>[.int .i64 k,.int .i64 n,.str x,.sl w 5 (pF w ks),.int .i64 0]
def pF(w:Bool):List Tn->au
 |[]=>[]
 |t::ts=>JH w t::pF w ts
end
def SC(w:Bool):∀ts:List Tn,pF w ts=ts.map (JH w)
 |[]=>rfl
 |t::ts=>by rw[pF,SC w ts];rfl
def WG(w:Bool)(a:List Tn):(pF w a).length=a.length:=by simp[SC]
mutual
def arp(w:Bool):∀t:Tn,ql (JH w t)=JH false t
 | .mk k n x y ks=>by have:=ab3 w ks;simp only[JH,ql,D.fz,this]
def ab3(w:Bool):∀ts:List Tn,dI (pF w ts)=pF false ts
 |[]=>rfl
 |t::ts=>by rw[pF,dI,arp w t,ab3 w ts,pF]
end
def aIC(t:Tn):∀(f:Nat) (w:Bool) (p:List Nd),t.size<=f->p.length+t.size<=90000000->
  M.jO f t.kind t.op t.text (pF w t.kids) 0 (dW true p)=some (dW true (p++t.flat p.length)):=by
 refine Tn.ind (P:=λt=>∀(f:Nat) (w:Bool) (p:List Nd),t.size<=f->p.length+t.size<=90000000->M.jO f t.kind t.op t.text (pF w t.kids) 0 (dW true p)=some (dW true (p++t.flat p.length))) ?_ t;intro k op x y ks ih f w p hf hp;cases f with
 |zero=>rw[Tn.size] at hf;omega
 |succ f=>
  rw[Tn.size] at hf hp;have hkl:=jT ks;simp only[lJ,M.jO,M.Dn,Tn.kids,Tn.kind,Tn.op,Tn.text,WG];have hrec:∀j t,ks[j]? =some t->M.jO f t.kind t.op t.text (pF w t.kids) 0 (dW true (p++jC (ks.take j) p.length))=some (dW true (p++jC (ks.take (j+1)) p.length)):=by
   intro j t hj;have hst:=Gn hj;have hfl:(p++jC (ks.take j) p.length).length=p.length+sizes (ks.take j):=by rw[vS,mZ]
   have:=ih t (Lu hj) f w (p++jC (ks.take j) p.length) (by omega) (by rw[hfl];omega);rw[this,hfl,abB hj,AB]
  have hloop:=kX (b:=M.sH (M.jO f))
   (t:=if ks=[] then .inl (pF w ks,(ks.length:Int),0,dW true p,k,op,x) else .inr (pF w ks,(ks.length:Int),(ks.length:Int),dW true (p++jC ks p.length),k,op,x,encI (ends ks p.length)))
   (λj=>if j=0 then .inl (pF w ks,(ks.length:Int),0,dW true p,k,op,x) else .inr (pF w ks,(ks.length:Int),(j:Int),dW true (p++jC (ks.take j) p.length),k,op,x,encI (ends (ks.take j) p.length))) ks.length
   (by
    intro j hj;obtain⟨t,ht⟩:∃t,ks[j]? =some t:=⟨ks[j],by simp⟩
    have hr:=hrec j t ht;have hst:=Gn ht;have hp1:=t.size_pos;have hg:(pF w ks)[j]? =some (JH w t):=by rw[SC];simp[ht]
    have hc0:eu .i64 (JH w t) 0=some t.kind:=by cases t;rfl
    have hc1:eu .i64 (JH w t) 1=some t.op:=by cases t;rfl
    have hc2:cStr (JH w t) 2=some t.text:=by cases t;rfl
    have hc3:LC 5 (JH w t) 3=some (pF w t.kids):=by cases t;rfl
    have hc4:eu .i64 (JH w t) 4=some 0:=by cases t;rfl
    have hfl:(dW true (p++jC (ks.take (j+1)) p.length)).length=p.length+sizes (ks.take j)+t.size:=by rw[iM,vS,mZ,kY ht,kK,sizes,sizes];omega
    rw[if_neg (show¬j+1=0 by omega),adO ht]
    by_cases h0:j=0
    ·subst h0;rw[if_pos rfl];have hi:idx (pF w ks) 0=some (JH w t):=by have:=dF (pF w ks) 0;rw[rE] at this;rw[this,hg]
     have hr0:M.jO f t.kind t.op t.text (pF w t.kids) 0 (dW true p)=some (dW true (p++jC (ks.take (0+1)) p.length)):=by rw[<-hr];simp[jC]
     simp only[lJ,M.sH,M.oV,hi,ah,hc0,hc1,hc2,hc3,hc4,hr0,hfl];rw[zdt (by omega),bW,aG (by omega) (by omega),aG (by omega) (by omega)];rfl
    ·rw[if_neg h0];simp only[lJ,M.sH,M.oV,dF,hg,ah,hc0,hc1,hc2,hc3,hc4,hr,hfl,dn,iQ,U2,GX];rw[zdt (by omega),bW,dN (by omega),bW,dN (by omega),bW,aG (by omega) (by omega),aG (by omega) (by omega)];simp[encI])
   (by
    by_cases h0:ks.length=0
    ·have he:ks=[]:=List.length_eq_zero_iff.1 h0;rw[if_pos h0,if_pos he];simp only[lJ,M.sH,M.oV];rw[uh (by omega),dP]
    ·have he:¬ks=[]:=λe=>h0 (by rw[e];rfl)
     rw[if_neg h0,if_neg he,List.take_length];simp only[lJ,M.sH,M.oV];rw[uh (by omega),dP]) 0 (Nat.zero_le _)
  rw[if_pos rfl] at hloop;rw[M.FT,hloop,ah]
  by_cases he:ks=[]
  ·rw[if_pos he];subst he;simp only[nX,iM,GX];rw[dN (by omega),bW,dN (by omega),bW,I9];rfl
  ·rw[if_neg he];simp only[nX,letE,iM,vS,mZ,GX,GH,bW];rw[dN (by omega),bW,dN (by omega),bW,Tn.flat,<-AB];simp only[I9];rfl
def Nv(t:Tn):Int×Int×aC×au×Int:=(t.kind,t.op,t.text,pF false t.kids,0)
section
variable (t:Tn) (s:aC) (L:List Tn) (a b c d e f g h:Tn)
def XH:(Nv t).1=t.kind:=rfl
def XI:(Nv t).2.1=t.op:=rfl
def XJ:(Nv t).2.2.1=t.text:=rfl
def XK:(Nv t).2.2.2.1=pF false t.kids:=rfl
def XL:(Nv t).2.2.2.2=0:=rfl
def XM:dI (pF false L)=pF false L:=ab3 false L
def nU:([D.int .i64 t.kind,D.int .i64 t.op,D.str t.text,D.sl false 5 (pF false t.kids),D.int .i64 0]:Row)=JH false t:=by cases t;rfl
def jI:(t.kind,t.op,t.text,pF false t.kids,(0:Int))=Nv t:=rfl
def yB:M.fE s=some (Nv (GK s)):=rfl
def ab4:M.wo=some (Nv NY):=rfl
def aID:M.iR (pF false L)=some (Nv (Du L)):=rfl
def apA:M.iR [JH false a,JH false b]=some (Nv (Du [a,b])):=rfl
def aiG:M.iR [JH false a,JH false b,JH false c]=some (Nv (Du [a,b,c])):=rfl
def aIE:M.iR [JH false a,JH false b,JH false c,JH false d]=some (Nv (Du [a,b,c,d])):=rfl
def aQ4:M.iR [JH false a,JH false b,JH false c,JH false d,JH false e]=some (Nv (Du [a,b,c,d,e])):=rfl
def ajH:M.wu t.kind t.op t.text (pF false t.kids) 0=some (Nv (TL t)):=by cases t;rfl
def afa:M.sZ t.kind t.op t.text (pF false t.kids) 0=some (Nv (aic t)):=by cases t;rfl
end
def WH:∀a b:List Tn,pF false (a++b)=pF false a++pF false b:=λa b=>by simp[SC]
def XO:∀(L:List Tn) (b:Bool) (x:Tn),Lj b (L++[x])=Lj b L++(bif L.isEmpty && b then[x] else[GK [44],NY,x])
 |[],b,x=>by cases b<;>simp[Lj]
 |y::L,b,x=>by rw[SS,Lj,Lj,XO L false x];simp
def ab5:∀(L:List Tn) (b:Bool),(Lj b L).length<=3 * L.length
 |[],b=>by simp[Lj]
 |y::L,b=>by have:=ab5 L false;cases b<;>simp only[Lj,bW,dP,vS,vX,EN]<;>omega
def U4(p:Ps)(ks:List Tn):List Tn:=ks.map λu=>Ez u p
def WI(p:Ps)(ks:List Tn):(U4 p ks).length=ks.length:=by simp[U4]
def aiH(p:Ps)(ks:List Tn):YH p ks=V5 (U4 p ks):=rfl
def ajI{ks:List Tn}{p:Ps}{b:Int×au->Option ((Int×au)⊕(Int×au))}(hu:ks.length<=1048576)
  (hb:∀(j:Nat) u (L:List Tn),ks[j]? =some u->L.length<=4000000->b ((j:Int),pF false L)=some (.inl (((j+1:Nat):Int),pF false (L++(if j=0 then[Ez u p] else[GK [44],NY,Ez u p])))))
  (he:∀r,b ((ks.length:Int),r)=some (.inr ((ks.length:Int),r))):
  fF b (0,[])=some ((ks.length:Int),pF false (Lj true (U4 p ks))):=by
 have:=kX (b:=b) (t:=((ks.length:Int),pF false (Lj true (U4 p ks)))) (λj=>((j:Int),pF false (Lj true (U4 p (ks.take j))))) ks.length
  (by
   intro j hj;obtain⟨u,hu'⟩:∃u,ks[j]? =some u:=⟨ks[j],by simp[hj]⟩
   have hl:=ab5 (U4 p (ks.take j)) true;rw[WI,U2] at hl;rw[hb j u _ hu' (by omega),kY hu'];have e:U4 p (ks.take j++[u])=U4 p (ks.take j)++[Ez u p]:=by simp[U4]
   rw[e,XO]
   by_cases h0:j=0
   ·subst h0;rfl
   ·have z:(U4 p (ks.take j)).isEmpty=false:=by
     cases hq:U4 p (ks.take j) with
     |nil=>have:=WI p (ks.take j);rw[hq,EN,U2] at this;omega
     |cons _ _=>rfl
    rw[if_neg h0,z,Bool.false_and,dP])
  (by rw[he,List.take_length]) 0 (Nat.zero_le _)
 exact this
def apB{k op:Int}{x y:aC}{ks:List Tn}(w:Bool)(hu:sizes ks<=1048575):M.jh k op x y (mD w ks)=some (k,op,x,y,encI (iota ks.length)):=by
 have hkl:=jT ks;have hn:=ZL k op x y (mD w ks) (by rw[ny];omega)
 rwa [ny] at hn
def DT(u:Tn):Prop:=∀(w:Bool) (f:Nat) (p:Ps),5 * u.size<=f->kZ p=true->
 M.zl f u.kind u.op u.text u.other (mD w u.kids) p.level p.kV p.qh p.qj p.kE=some (Nv (nD u p))
def ajJ{u:Tn}(hD:DT u){w:Bool}{f:Nat}{p:Ps}(hf:5 * u.size+1<=f)(hp:kZ p=true)(hu:u.size<=1048576):
  M.vC f u.kind u.op u.text u.other (mD w u.kids) p.level p.kV p.qh p.qj p.kE=some (Nv (Ez u p)):=by
 obtain⟨g,rfl⟩:∃g,f=g+1:=⟨f - 1,by omega⟩
 have h1:=hD w g p (by omega) hp;have h2:=hD w g .top (by omega) rfl;simp only[Ps.top] at h2;rw[M.aa9];simp only[lJ,M.zk,ZL u.kind u.op u.text u.other _ (akQ hu w),ah,(ZI u.kind u.op u.text u.other _ p).1,Ez];cases fits u.kind u.op p with
 |true=>simp only[bW,h1,ah,XH,XI,XJ,XK,XL,XM,jI]
 |false=>simp only[dP,yB,Nu.1,h2,ah,XH,XI,XJ,XK,XL,XM,nU,aiG,jI,Ps.top]
section
variable {k op:Int} {x y:aC} {ks:List Tn} (ih:∀u,u∈ks->DT u)
include ih
theorem asD{w:Bool}{f:Nat}{p:Ps}{j:Nat}{u:Tn}(hj:ks[j]? =some u)(hf:5 * u.size+2<=f)(hp:kZ p=true)(hlv:lvl k op≠0)(hu:sizes ks<=1048575):
  M.yw f k op x y (mD w ks) (j:Int) p.level p.kV p.qh p.qj p.kE=some (Nv (Jb k op ks.length p j u)):=by
 obtain⟨g,rfl⟩:∃g,f=g+1:=⟨f - 1,by omega⟩
 have hkl:=jT ks;have hju:=(Je.1 hj).1;have hus:=nJ (Lu hj);have hg:=XF w hj;obtain⟨c0,c1,c2,c3,c4⟩:=XE w u;have hkp:=RF k op x y (encI (iota ks.length)) j p (by rw[dn,KR];omega);rw[dn,KR] at hkp;have hq:=sN (n:=ks.length) (j:=j) hp hju hlv;have e1:=ih u (Lu hj);have h1:=e1 w g (dZ k op ks.length j p) (by omega) hq;have h2:=ajJ e1 (w:=w) (f:=g) (p:=dZ k op ks.length j p) (by omega) hq (by omega);rw[M.acE];simp only[lJ,M.Bq,apB w hu,ah,hg,c0,c1,c2,c3,c4,hkp,Ps.yE,YM,Jb];unfold Ez at h2;cases htg:nC k j with
 |true=>simp only[bW,Bool.true_or,h1,ah,XH,XI,XJ,XK,XL,XM,jI]
 |false=>simp only[dP,Bool.false_or,h2,ah,XH,XI,XJ,XK,XL,XM,jI]
theorem awh{w:Bool}{f:Nat}(hf:5 * sizes ks+2<=f)(hu:sizes ks<=1048575):
  M.Dl f (mD w ks)=some (Nv (YH .top ks)):=by
 obtain⟨g,rfl⟩:∃g,f=g+1:=⟨f - 1,by omega⟩
 have hkl:=jT ks;rw[M.abb];simp only[lJ,M.zi,M.FK,ny];rw[ajI (ks:=ks) (p:=.top) (by omega) (λj u L hj hL=> ?_) (λr=> ?_)]
 ·simp only[ah,aID,XH,XI,XJ,XK,XL,XM,ajH,afa,jI];rfl
 ·have hjl:=(Je.1 hj).1;have hus:=nJ (Lu hj);obtain⟨c0,c1,c2,c3,c4⟩:=XE w u;have h1:=ajJ (ih u (Lu hj)) (w:=w) (f:=g) (p:=.top) (by omega) rfl (by omega);simp only[Ps.top] at h1;have hw:i64.wrap ((j:Int)+1)=((j+1:Nat):Int):=by rw[aG (by omega) (by omega)];omega
  simp only[lJ,M.IB,M.xK,XF w hj,c0,c1,c2,c3,c4,ah,yB,ab4,M.CY,M.LX,Nu.1,h1,XH,XI,XJ,XK,XL,XM,nU,WG,vS,vX,EN,hw];rw[zdt (by omega),bW]
  by_cases h0:j=0
  ·subst h0;rw[uh (by omega),dP,dN (by omega),bW,dN (by omega),bW,if_pos rfl,WH];rfl
  ·rw[zdt (by omega),bW,dN (by omega),bW,dN (by omega),bW,dN (by omega),bW,dN (by omega),bW,if_neg h0,WH,AB];rfl
 ·simp only[lJ,M.IB,M.xK];rw[uh (by omega),dP]
end
def Jm{n:Nat}(h:n<=8000000):n.ble 9223372036854775807=true:=dN (by omega)
def Om(k op:Int)(n:Nat)(p:Ps)(u:Tn):pz k op n p [u] 0=[Jb k op n p 0 u]:=by rw[pz,pz];rfl
def afb(k op:Int)(n:Nat)(p:Ps)(u v:Tn):pz k op n p [u,v] 0=[Jb k op n p 0 u,Jb k op n p 1 v]:=by rw[pz,pz,pz];rfl
def apC(k op:Int)(n:Nat)(p:Ps)(u v z:Tn):pz k op n p [u,v,z] 0=[Jb k op n p 0 u,Jb k op n p 1 v,Jb k op n p 2 z]:=by rw[pz,pz,pz,pz];rfl
def ab6{k op:Int}{n:Nat}{p:Ps}(ht:∀j,nC k j=false)(hq:∀j,j<n->dZ k op n j p=.top):∀(ts:List Tn) (j:Nat),j+ts.length=n->pz k op n p ts j=U4 .top ts
 |[],j,_=>by rw[pz];rfl
 |t::ts,j,hj=>by rw[vX] at hj;rw[pz,hq j (by omega),ht j,ab6 ht hq ts (j+1) (by omega),Bool.false_or];rfl
def KU{k op:Int}{ks:List Tn}{p:Ps}(hp:kZ p=true)(h:(lvl k op=15)∨(k=13∧Nat.blt 1 ks.length=true∧lvl k op≠0))(ht:∀j,nC k j=false):pz k op ks.length p ks 0=U4 .top ks:=by
 refine ab6 ht (λj hj=> ?_) ks 0 (by omega);rcases h with h|⟨h1,h2,h3⟩
 ·exact Dy hp hj h
 ·have hb:Nat.blt j ks.length=true:=by rw[Nat.blt_eq];exact hj
  have h4:(lvl k op==0)=false:=by simpa using h3
  subst h1;unfold dZ;rw[hp,hb,h4,h2];simp
def arq{op:Int}{x y:aC}{u:Tn}(hD:DT u)(hT:PT u)(hok:GU u)(he:TM u)(hs:sml u){w:Bool}{f:Nat}{p:Ps}(hc:Cnt 11 op y 1)(hf:5 * u.size+3<=f)(hp:kZ p=true)(hu:u.size<=1048575):
  M.A8 f 11 op x y (mD w [u]) p.level p.kV p.qh p.qj p.kE=some (Nv (nD (.mk 11 op x y [u]) p)):=by
 obtain⟨g,rfl⟩:∃g,f=g+1:=⟨f - 1,by omega⟩
 have ihD:∀v,v∈[u]->DT v:=by intro v hv;rw[List.mem_singleton.1 hv];exact hD
 have ihT:∀v,v∈[u]->PT v:=by intro v hv;rw[List.mem_singleton.1 hv];exact hT
 have hs1:=ZM u;have hlv:lvl 11 op≠0:=by simp[lvl]
 have hI:I64 op:=by rcases hc.una rfl with rfl|rfl|rfl<;>constructor<;>decide
 have h1:=asD ihD (w:=w) (f:=g) (p:=p) (x:=x) (y:=y) (k:=11) (op:=op) (j:=0) (u:=u) rfl (by omega) hp hlv (by omega);obtain⟨sp,h2,h3,h4⟩:=KT ihT (w:=w) (f:=5 * u.size+2) (p:=p) (toks:=[]) (sp:=[]) (x:=x) (y:=y) (op:=op) (k:=11) (j:=0) (u:=u) rfl (by omega) hp hlv rfl (by simp only[EN];omega) (by simp only[EN];omega) (by omega);have h2':=M.SN h2;rw[rE] at h1 h2';have e0:jR []=[]:=rfl;rw[e0,List.nil_append] at h2';rw[nD,Om,Lm,M.Y9];have hne:=akV (k:=11) (op:=op) (n:=[u].length) (p:=p) (j:=0) hok he;have hsm:=apw (k:=11) (op:=op) (n:=[u].length) (p:=p) (j:=0) hs;generalize rF 11 op [u].length p 0 u=K at *;cases K with
 |nil=>exact absurd rfl hne
 |cons b K=>have hsl:=GN op;have hg:M.qZ op (spell op) 0 b.kind b.text b.at_=some (Dv (tok op) b):=XD (tok op) b (by show(spell op).length<=_;omega) (by have:=hsm b ZQ;omega);have i0:idx (jR (b::K)) 0=some (aaK b):=rfl;have i1:(jR (b::K))[0]? =some (aaK b):=rfl;simp(disch:=omega) only[lJ,M.wC,h2',ah,(lM op hI).2,(kG op hI).1,i0,i1,cT0,cT1,cT2,hg,h1,yB,XH,XI,XJ,XK,XL,XM,nU,apA,jI,Jm];have ha:Ru 11 op [u].length x (adP op [b::K]) [Jb 11 op [u].length p 0 u]=Du [GK (bif Dv (tok op) b then spell op++[32] else spell op),Jb 11 op [u].length p 0 u]:=rfl;rw[ha];cases Dv (tok op) b<;>rfl
set_option maxHeartbeats 2000000 in
def awi(t:Tn):GU t->TM t->sml t->t.size<=1048576->DT t:=by
 refine Tn.ind (P:=λt=>GU t->TM t->sml t->t.size<=1048576->DT t) ?_ t;intro k op x y ks ih hok he hsm hsz;intro w f p hf hp;have hc:=Qc hok;have he':=he;simp only[TM,Tn.kind] at he';rw[sml] at hsm;obtain⟨⟨hx,hy⟩,hss⟩:=hsm;rw[Tn.size] at hsz hf;have hkE:∀u,u∈ks->GU u∧TM u∧sml u:=by intro u hu;obtain⟨i,hi⟩:=List.mem_iff_getElem?.1 hu;obtain⟨h1,h2⟩:=V6 hok he' hi;exact⟨h2,h1,WB hss hu⟩
 have ih':∀u,u∈ks->DT u:=by intro u hu;obtain⟨h1,h2,h3⟩:=hkE u hu;have:=nJ hu;exact ih u hu h1 h2 h3 (by omega)
 obtain⟨g,rfl⟩:∃g,f=g+1:=⟨f - 1,by omega⟩
 have hlv:lvl k op≠0:=by have:=NZ he' hc;omega
 have hL:=awh ih' (w:=w) (f:=g) (by omega) (by omega);have hK:∀(j:Nat) u,ks[j]? =some u->M.yw g k op x y (mD w ks) (j:Int) p.level p.kV p.qh p.qj p.kE=some (Nv (Jb k op ks.length p j u)):=by intro j u hj;have:=nJ (Lu hj);exact asD ih' (w:=w) (f:=g) (p:=p) (x:=x) (y:=y) (k:=k) (op:=op) hj (by omega) hp hlv (by omega)
 simp only[Tn.kind,Tn.op,Tn.text,Tn.other,Tn.kids];rw[M.abd];have hk:k=1∨k=2∨k=3∨k=4∨k=5∨k=7∨k=8∨k=9∨k=10∨k=6∨k=11∨k=14∨k=13∨k=12∨k=15:=by omega
 rcases hk with rfl|rfl|rfl|rfl|rfl|rfl|rfl|rfl|rfl|rfl|rfl|rfl|rfl|rfl|rfl
 ·simp only[lJ,M.fB,Int.reduceBEq,bW,dP,yB,ah,XH,XI,XJ,XK,XL,XM,jI];rfl
 ·simp only[lJ,M.fB,Int.reduceBEq,bW,dP,yB,ah,XH,XI,XJ,XK,XL,XM,jI];rfl
 ·simp only[lJ,M.fB,Int.reduceBEq,bW,dP,yB,ah,XH,XI,XJ,XK,XL,XM,jI];rfl
 ·simp only[lJ,M.fB,Int.reduceBEq,bW,dP,yB,ah,XH,XI,XJ,XK,XL,XM,jI];rfl
 ·simp(disch:=omega) only[lJ,M.fB,Int.reduceBEq,bW,dP,yB,ah,hL,XH,XI,XJ,XK,XL,XM,nU,aiG,jI,Jm];rw[nD,KU hp (.inl rfl) (λj=>by simp[nC])];rfl
 ·simp(disch:=omega) only[lJ,M.fB,Int.reduceBEq,bW,dP,yB,ah,hL,XH,XI,XJ,XK,XL,XM,nU,aiG,jI,Jm];rw[nD,KU hp (.inl rfl) (λj=>by simp[nC])];rfl
 ·simp(disch:=omega) only[lJ,M.fB,Int.reduceBEq,bW,dP,yB,ah,hL,XH,XI,XJ,XK,XL,XM,nU,aiG,jI,Jm];rw[nD,KU hp (.inl rfl) (λj=>by simp[nC])];rfl
 ·obtain⟨u,rfl⟩:=zlo.1 (hc.one (by omega));have hI:I64 op:=by rcases hc.stp (by omega) with rfl|rfl<;>constructor<;>decide
  have k0:=hK 0 u rfl;rw[rE] at k0;simp only[lJ,M.fB,Int.reduceBEq,bW,dP,yB,ah,(lM op hI).2,k0,XH,XI,XJ,XK,XL,XM,nU,apA,jI];rw[nD,Om];rfl
 ·obtain⟨u,rfl⟩:=zlo.1 (hc.one (by omega));have hI:I64 op:=by rcases hc.stp (by omega) with rfl|rfl<;>constructor<;>decide
  have k0:=hK 0 u rfl;rw[rE] at k0;simp only[lJ,M.fB,Int.reduceBEq,bW,dP,yB,ah,(lM op hI).2,k0,XH,XI,XJ,XK,XL,XM,nU,apA,jI];rw[nD,Om];rfl
 ·obtain⟨u,rfl⟩:=zlo.1 (hc.one (by omega));have k0:=hK 0 u rfl;rw[rE] at k0;simp only[lJ,M.fB,Int.reduceBEq,bW,dP,yB,ah,k0,XH,XI,XJ,XK,XL,XM,nU,apA,jI];rw[nD,Om];rfl
 ·obtain⟨u,rfl⟩:=zlo.1 (hc.one (by omega));obtain⟨h1,h2,h3⟩:=hkE u (by simp);rw[ZM] at hf hsz;have a1:=arq (x:=x) (ih' u (by simp)) (awe u h1 h2) h1 h2 h3 (w:=w) (f:=g) (p:=p) hc (by omega) hp (by omega);simp only[lJ,M.fB,Int.reduceBEq,bW,dP,a1,ah,XH,XI,XJ,XK,XL,XM,jI]
 ·obtain⟨u,v,z,rfl⟩:=Wy (hc.three rfl);have k0:=hK 0 u rfl;have k1:=hK 1 v rfl;have k2:=hK 2 z rfl;rw[rE] at k0;rw[WA] at k1;rw[arn] at k2;simp only[lJ,M.fB,Int.reduceBEq,bW,dP,yB,ah,k0,k1,k2,XH,XI,XJ,XK,XL,XM,nU,aQ4,jI];rw[nD,apC];rfl
 ·cases hm:Nat.blt 1 ks.length with
  |true=>simp(disch:=omega) only[lJ,M.fB,Int.reduceBEq,bW,dP,ny,many,hm,yB,ah,hL,XH,XI,XJ,XK,XL,XM,nU,aiG,jI,Jm];rw[nD,KU hp (.inr ⟨rfl,hm,by simp[lvl]⟩) (λj=>by simp[nC])];simp[Ru,hm,aiH]
  |false=>
   have h1:ks.length=1:=by
    have h2:=hc.some_ (by omega);have h3:¬1<ks.length:=by rw[<-Nat.blt_eq,hm];simp
    omega
   obtain⟨u,rfl⟩:=zlo.1 h1;have k0:=hK 0 u rfl;rw[rE] at k0;simp(disch:=omega) only[lJ,M.fB,Int.reduceBEq,bW,dP,ny,many,hm,yB,ah,k0,XH,XI,XJ,XK,XL,XM,nU,apA,jI,Jm];rw[nD,Om];rfl
 ·obtain⟨u,v,rfl⟩:=Ql (hc.two (by omega));have hI:=ZN (hc.bin rfl).1;have hsl:=GN op;have k0:=hK 0 u rfl;have k1:=hK 1 v rfl;rw[rE] at k0;rw[WA] at k1;rw[nD,afb]
  by_cases h99:op=99
  ·subst h99;simp only[lJ,M.fB,Int.reduceBEq,bW,dP,yB,ah,k0,k1,XH,XI,XJ,XK,XL,XM,nU,aiG,jI];rfl
  ·by_cases h45:op=45
   ·subst h45;simp(disch:=omega) only[lJ,M.fB,Int.reduceBEq,bW,dP,yB,ab4,ah,k0,k1,(lM 45 hI).2,XH,XI,XJ,XK,XL,XM,nU,aIE,ajH,afa,jI,Jm];rfl
   ·by_cases h44:op=44
    ·subst h44;simp(disch:=omega) only[lJ,M.fB,Int.reduceBEq,bW,dP,yB,ab4,ah,k0,k1,(lM 44 hI).2,XH,XI,XJ,XK,XL,XM,nU,aIE,ajH,afa,jI,Jm];rfl
    ·have e1:(op==99)=false:=by simpa using h99
     have e2:(op==45)=false:=by simpa using h45
     have e3:(op==44)=false:=by simpa using h44
     simp(disch:=omega) only[lJ,M.fB,Int.reduceBEq,e1,e2,e3,bW,dP,yB,ab4,ah,k0,k1,(lM op hI).2,vS,vX,EN,XH,XI,XJ,XK,XL,XM,nU,aiG,jI,Jm];simp[Ru,e1,e2,e3,Gp]
 ·obtain⟨u,v,rfl⟩:=Ql (hc.two (by omega));have hI:I64 op:=by rcases hc.asg rfl with rfl|h<;>constructor<;>omega
  have hsl:=GN op;have k0:=hK 0 u rfl;have k1:=hK 1 v rfl;rw[rE] at k0;rw[WA] at k1;rw[nD,afb];simp(disch:=omega) only[lJ,M.fB,Int.reduceBEq,bW,dP,yB,ab4,ah,k0,k1,(lM op hI).2,vS,vX,EN,XH,XI,XJ,XK,XL,XM,nU,aiG,jI,Jm];simp[Ru,Gp]
structure Ex'(u:Tn):Prop where
 ok:GU u
 e:TM u
 sm:sml u
 sz:u.size<=1048576
def awj{u:Tn}(h:Ex' u)(w:Bool){p:Ps}(hp:kZ p=true):M.kM u.kind u.op u.text u.other (mD w u.kids) p.level p.kV p.qh p.qj p.kE=some (Nv (Ez u p)):=
 M.Za (ajJ (awi u h.ok h.e h.sm h.sz) (f:=5 * u.size+1) (Nat.le_refl _) hp h.sz)
def afc(s:aC)(h0:s≠[])(hs:s.length<=4000000):M.qF s 0=some ((opF s O1 0 0 0).1,((abD s O1 0:Nat):Int)):=by
 have hl:O1.length=39:=rfl;have hn:1<=s.length:=by cases s with|nil=>exact absurd rfl h0|cons=>simp
 simp only[M.qF,M.NS,M.LV,ahZ,ah];rw[akM s O1 (λi g k m hg hm=> ?_) (λk m=> ?_) aps,ah,ZJ]
 ·have hi:=(Je.1 hg).1;rw[hl] at hi;have hg2:=aps g (Lu hg);have hw1:i64.wrap (30+(i:Int))=30+(i:Int):=aG (by omega) (by omega);have hw2:i64.wrap ((i:Int)+1)=(i:Int)+1:=aG (by omega) (by omega);have hw3:i64.wrap ((s.length:Int) - 0)=(s.length:Int):=by rw[aG (by omega) (by omega)];omega
  have hw4:i64.wrap (0+(g.length:Int))=(g.length:Int):=by rw[aG (by omega) (by omega)];omega
  simp only[M.Nj,M.Dc,KO,dF,Rn,O9,hg,Jf,ah,cS0,hw1,hw2,hw3,hw4,hl];rw[zdt (show((i:Int))<((39:Nat):Int) by omega),bW,zdt (show(0:Int)>=0 by omega),bW,zdt (show(0:Int)<=(s.length:Int) by omega),bW]
  by_cases hq:g.length<=s.length
  ·rw[zdt (by omega),bW,av9 s g.length hq,ah,pre_eq g s hq,ZK];cases Nat.blt m g.length<;>cases g.isPrefixOf s<;>rfl
  ·rw[uh (by omega),dP,adY g s (by omega),Bool.and_false];rfl
 ·simp only[M.Nj,M.Dc,KO];rw[uh (by omega),dP]
def XP(a b:Tk)(ha:a.text.length<=2000000)(hb:b.text.length<=2000000):M.qW a.kind a.text a.at_ b.kind b.text b.at_=some (Dv a b):=by
 rw[YN];simp only[M.qW,M.FB]
 by_cases h1:a.text=[]
 ·rw[show(a.text==[])=true by simpa using h1,bW,bW]
 ·rw[show(a.text==[])=false by simpa using h1,dP,dP]
  by_cases h2:b.text=[]
  ·rw[show(b.text==[])=true by simpa using h2,bW,bW]
  ·obtain⟨c,hc,hc'⟩:=aiz h1 ha;obtain⟨d,hd,hd'⟩:=akN h2;have hop:=afc (a.text++b.text) (by simp[h1]) (by simp only[vS];omega);rw[show(b.text==[])=false by simpa using h2,dP,dP,hc',hd'];have hnn:∀(c:Bool) (r:Bool),some (bif !c then false else r)=bif c then some r else some false:=by intro c r;cases c<;>rfl
   simp only[hc,hd,ah,akO,KE,aT,hop,ZK,ge_iff_le,U0,ae4,O8,hnn,dN (show a.text.length+b.text.length<=9223372036854775807 by omega),bW]
def room{n:Nat}(h:n<=1000000000):n.ble 140737488355328=true:=dN (by omega)
def Jd{n:Nat}(h:n<=1000000000):(n * 32).ble 140737488355328=true:=dN (by omega)
def RJ{k op:Int}{x y:aC}{r:au}{j:Nat}{p:Ps}(he:1<=k∧k<=15)(hc:Cnt k op y r.length)(hj:j<r.length)(hr:r.length<=1048576):
  M.fD k op x y r (j:Int) p.level p.kV p.qh p.qj p.kE=some (dZ k op r.length j p).yE:=by
 have hb:Nat.blt j r.length=true:=by rw[Nat.blt_eq];exact hj
 have hl:=NZ he hc;have hz:(lvl k op==0)=false:=by rw[Nw];omega
 have ho:=abG op;have h15:(vT op==15)=false:=by rw[Nw];omega
 have h2:k=12->j=0∨j=1:=λe=>by have:=hc.two (by omega);omega
 have hk:k=1∨k=2∨k=3∨k=4∨k=5∨k=6∨k=7∨k=8∨k=9∨k=10∨k=11∨k=13∨k=14∨k=15∨k=12:=by omega
 simp only[M.fD,M.J6,(Wx p).2,aT,akL j r.length hr,hb,(Qk k op x y r).2,hz,ajE,Nu.2,ah,many,nb0,gt0,dZ,Bool.not_true,Bool.false_or,dP];cases kZ p with
 |false=>rfl
 |true=>
  rcases hk with rfl|rfl|rfl|rfl|rfl|rfl|rfl|rfl|rfl|rfl|rfl|rfl|rfl|rfl|rfl
  case inr.inr.inr.inr.inr.inr.inr.inr.inr.inr.inr.inr.inr.inr=>have hl12:lvl 12 op=vT op:=rfl;rw[hl12,h15];rcases h2 rfl with rfl|rfl<;>cases p.kE<;>simp[Ps.yE,Qb,show Nat.beq 1 0=false from rfl]
  all_goals(cases p.kE<;>cases hq:Nat.beq j 0<;>cases hm:Nat.blt 1 r.length<;>simp[lvl,Ps.yE,Ps.top,Qb,hq,hm])
def PS(t:Tn):Prop:=∀(o:Bool) (f:Nat) (p:Ps) (l:List Nd) (b:Nat),l.length<=1048576->Lies l b t->5 * t.size<=f->kZ p=true->
 M.y5 f (fU o l) false ((b+sizes t.kids:Nat):Int) p.level p.kV p.qh p.qj p.kE=some (jR (sK t p))
def aIF{u:Tn}(hS:PS u){o:Bool}{f:Nat}{p:Ps}{l:List Nd}{b:Nat}(hl:l.length<=1048576)(h:Lies l b u)(hf:5 * u.size+1<=f)(hp:kZ p=true):
  M.ru f (fU o l) false ((b+sizes u.kids:Nat):Int) p.level p.kV p.qh p.qj p.kE=some (jR (TK u p)):=by
 obtain⟨g,rfl⟩:∃g,f=g+1:=⟨f - 1,by omega⟩
 have hlt:=h.lt;have h1:=hS o g p l b hl h (by omega) hp;have h2:=hS o g .top l b hl h (by omega) rfl;have hb:=nT u .top;have hr:idx (fU o l) ((b+sizes u.kids:Nat):Int)=some (Oc o ⟨u.kind,u.op,u.text,u.other,ends u.kids b⟩):=by rw[dF,mJ,Lies.root' h];rfl
 have e1:=(kG 32 (by constructor<;>decide)).2;have e2:=(kG 33 (by constructor<;>decide)).2;simp only[Ps.top] at h2 hb;rw[M.aeL];simp only[lJ,M.D6,hr,ah,NP,Oo,Oq,Ot,MN,(ZI u.kind u.op u.text u.other _ p).2,Bool.not_false,bW,dP,TK];cases fits u.kind u.op p with
 |true=>simp only[bW,h1,ah,dM]
 |false=>simp(disch:=omega) only[dP,e1,e2,Nu.2,ah,h2,uy,<-kR,gY,vS,GX,vX,EN,room,Jd,dM,bW,Ps.top];rfl
def ad6:∀(L:List (List Tk)) (b:Bool) (x:List Tk),BD b (L++[x])=BD b L++(bif L.isEmpty && b then x else tok 36::x)
 |[],b,x=>by cases b<;>simp[BD]
 |y::L,b,x=>by rw[SS,BD,BD,ad6 L false x];simp
def DC(ks:List Tn):List (List Tk):=ks.map λu=>TK u .top
def ad7:∀ks:List Tn,Ol (DC ks)+2 * ks.length<=8 * sizes ks
 |[]=>by simp[DC,Ol,sizes]
 |t::ts=>by have h1:=ad1 t .top;have h2:=ad7 ts;simp only[DC,JI,Ol,sizes,vX] at h2⊢;omega
def U1(ks:List Tn)(b:Bool):(BD b (DC ks)).length<=9 * sizes ks:=by
 have h1:=RG (DC ks) b;have h2:=ad7 ks;have h3:(DC ks).length=ks.length:=by simp[DC]
 omega
def ab7{k op:Int}{n:Nat}{p:Ps}(ht:∀j,nC k j=false)(hq:∀j,j<n->dZ k op n j p=.top):∀(ts:List Tn) (j:Nat),j+ts.length=n->iW k op n p ts j=DC ts
 |[],j,_=>by rw[iW];rfl
 |t::ts,j,hj=>by rw[vX] at hj;rw[iW,hq j (by omega),ht j,ab7 ht hq ts (j+1) (by omega),Bool.false_or];rfl
def At(l:List Nd)(b:Nat)(ks:List Tn):Prop:=∀j u,ks[j]? =some u->Lies l (b+sizes (ks.take j)) u
def KF{ks:List Tn}{b j:Nat}{u:Tn}(hj:ks[j]? =some u):idx (encI (ends ks b)) (j:Int)=some [D.int .i64 ((b+sizes (ks.take j)+sizes u.kids:Nat):Int)]:=by rw[dF,jS,Qa hj];rfl
def apD{ks:List Tn}(ih:∀u,u∈ks->PS u){o:Bool}{f:Nat}{l:List Nd}{b:Nat}(hl:l.length<=1048576)(hat:At l b ks)(hf:5 * sizes ks+2<=f)(hu:sizes ks<=1048575):
  M.yY f (fU o l) false (encI (ends ks b))=some (jR (BD true (DC ks))):=by
 obtain⟨g,rfl⟩:∃g,f=g+1:=⟨f - 1,by omega⟩
 have hkl:=jT ks;have e1:=(kG 36 (by constructor<;>decide)).2;have hloop:=kX (b:=M.BQ (M.ru g) (encI (ends ks b)) (fU o l) false) (t:=((ks.length:Int),jR (BD true (DC ks)))) (λj=>((j:Int),jR (BD true (DC (ks.take j))))) ks.length
  (by
   intro j hj;obtain⟨u,hu'⟩:∃u,ks[j]? =some u:=⟨ks[j],by simp[hj]⟩
   have hus:=nJ (Lu hu');have hst:=Gn hu';have ha:=aIF (ih u (Lu hu')) (o:=o) (f:=g) (p:=.top) hl (hat j u hu') (by omega) rfl;have hi:=KF (b:=b) hu';have hel:=ad1 u .top;have hcl:=U1 (ks.take j) true;have hsn:BD true (DC (ks.take (j+1)))=BD true (DC (ks.take j))++(bif(DC (ks.take j)).isEmpty && true then TK u .top else tok 36::TK u .top):=by rw[kY hu',DC,List.map_append];exact ad6 _ _ _
   have hw:i64.wrap ((j:Int)+1)=((j+1:Nat):Int):=by rw[aG (by omega) (by omega)];omega
   simp only[Ps.top] at ha hel;rw[hsn];simp only[lJ,M.BQ,M.xA,dn,iQ];rw[zdt (by omega),bW]
   by_cases h0:j=0
   ·subst h0;rw[uh (by omega),dP];have z:(DC (ks.take 0)).isEmpty=true:=rfl;simp(disch:=omega) only[hi,ah,LQ,Nu.2,ha,<-kR,gY,vS,room,Jd,bW,hw,z,Bool.and_true,Ps.top]
   ·rw[zdt (by omega),bW];have z:(DC (ks.take j)).isEmpty=false:=by
     have hl2:(DC (ks.take j)).length=j:=by rw[DC,List.length_map,U2];omega
     cases hq:DC (ks.take j) with
     |nil=>rw[hq,EN] at hl2;omega
     |cons _ _=>rfl
    simp(disch:=omega) only[hi,ah,LQ,Nu.2,ha,e1,uy,<-kR,gY,vS,GX,vX,EN,room,Jd,bW,dP,hw,z,Bool.false_and,Ps.top];simp)
  (by simp only[lJ,M.BQ,M.xA,dn,iQ];rw[uh (by omega),dP,List.take_length]) 0 (Nat.zero_le _)
 have e0:jR (BD true (DC (ks.take 0)))=[]:=rfl;rw[rE,e0] at hloop;rw[M.aa0];simp only[M.yX,M.Fz,hloop,ah,dM,bW]
def TR{ks:List Tn}(ih:∀u,u∈ks->PS u){o:Bool}{f:Nat}{l:List Nd}{b:Nat}{k op:Int}{x y:aC}{p:Ps}{j:Nat}{u:Tn}(he:1<=k∧k<=15)(hc:Cnt k op y ks.length)(hp:kZ p=true)(hl:l.length<=1048576)(hat:At l b ks)(hf:5 * sizes ks+1<=f)(hu:sizes ks<=1048575)(hj:ks[j]? =some u)(ht:nC k j=false):
  (idx (encI (ends ks b)) (j:Int)=some [D.int .i64 ((b+sizes (ks.take j)+sizes u.kids:Nat):Int)]∧
   M.fD k op x y (encI (ends ks b)) (j:Int) p.level p.kV p.qh p.qj p.kE=some (dZ k op ks.length j p).yE∧
   M.ru f (fU o l) false ((b+sizes (ks.take j)+sizes u.kids:Nat):Int) (dZ k op ks.length j p).yE.1 (dZ k op ks.length j p).yE.2.1 (dZ k op ks.length j p).yE.2.2.1 (dZ k op ks.length j p).yE.2.2.2.1 (dZ k op ks.length j p).yE.2.2.2.2=some (jR (rF k op ks.length p j u)))∧(rF k op ks.length p j u).length+2<=8 * u.size:=by
 have hkl:=jT ks;have hus:=nJ (Lu hj);have hjl:j<ks.length:=(Je.1 hj).1;have hen:(encI (ends ks b)).length=ks.length:=by rw[dn,iQ]
 have hlv:lvl k op≠0:=by have:=NZ he hc;omega
 refine⟨⟨KF hj, ?_, ?_⟩,Jc (nT u)⟩
 ·have h:=RJ (x:=x) (r:=encI (ends ks b)) (j:=j) (p:=p) he (by rw[hen];exact hc) (by omega) (by omega);rw[hen] at h;exact h
 ·have h:=aIF (ih u (Lu hj)) (o:=o) (f:=f) (p:=dZ k op ks.length j p) hl (hat j u hj) (by omega) (sN hp hjl hlv);rw[rF,ht,Bool.false_or];exact h
def afd{ks:List Tn}(ih:∀u,u∈ks->PS u){o:Bool}{f:Nat}{l:List Nd}{b:Nat}(hl:l.length<=1048576)(hat:At l b ks)(hf:5 * sizes ks+3<=f)(hu:sizes ks<=1048575)(t':Int)(x:aC)(c:Int)(hop:c=32∨c=34):
  M.AU f (fU o l) false t' x 0 (encI (ends ks b)) c=some (jR (⟨t',x,0⟩::tok c::(BD true (DC ks)++[tok (c+1)]))):=by
 obtain⟨g,rfl⟩:∃g,f=g+1:=⟨f - 1,by omega⟩
 have h1:=apD ih (o:=o) (f:=g) (b:=b) hl hat (by omega) hu;have h2:=U1 ks true;have e1:=(kG c (by rcases hop with rfl|rfl<;>constructor<;>decide)).2;have e2:=(kG (c+1) (by rcases hop with rfl|rfl<;>constructor<;>decide)).2;have e3:i64.wrap (c+1)=c+1:=by rcases hop with rfl|rfl<;>rfl
 have hr:([[D.int .i64 t',D.str x,D.int .i64 0],[D.int .i64 c,D.str (spell c),D.int .i64 0]]:au)=jR [⟨t',x,0⟩,tok c]:=rfl;rw[M.Y0];simp(disch:=omega) only[lJ,M.wB,e1,e2,e3,h1,ah,hr,uy (c+1),<-kR,gY,vS,GX,vX,EN,room,Jd,dM,bW];simp
def ab8{u:Tn}(hS:PS u)(hok:GU u)(he:TM u)(hh:13<=lvl u.kind u.op){o:Bool}{f:Nat}{l:List Nd}{b:Nat}(hl:l.length<=1048576)(h:Lies l b u)(hf:5 * u.size+1<=f)(p:Ps)(hp:kZ p=true):
  M.yZ f (fU o l) false ((b+sizes u.kids:Nat):Int)=some (jR (sK u p)):=by
 obtain⟨g,rfl⟩:∃g,f=g+1:=⟨f - 1,by omega⟩
 have h1:=hS o g ⟨14,false,false,false,false⟩ l b hl h (by omega) rfl;rw[ajC u hok hh he _ p rfl hp] at h1;rw[M.Xr];simp only[M.uP,h1,ah,dM,bW]
def RN(k:Int)(h:k=12∨k=14∨k=6∨k=11∨k=13)(j:Nat):nC k j=false:=by rcases h with rfl|rfl|rfl|rfl|rfl<;>simp[nC]
def akX{ks:List Tn}(ih:∀u,u∈ks->PS u){o:Bool}{f:Nat}{l:List Nd}{b:Nat}{k op:Int}{x y:aC}{p:Ps}(hk:k=12∨k=14)(hc:Cnt k op y ks.length)(hp:kZ p=true)(hl:l.length<=1048576)(hat:At l b ks)(hf:5 * sizes ks+2<=f)(hu:sizes ks<=1048575):
  M.AV f (fU o l) false k op x y (encI (ends ks b)) p.level p.kV p.qh p.qj p.kE=some (jR (CP k op ks.length x (iW k op ks.length p ks 0))):=by
 obtain⟨g,rfl⟩:∃g,f=g+1:=⟨f - 1,by omega⟩
 rw[M.Y1];rcases hk with rfl|rfl
 ·obtain⟨u,v,rfl⟩:=Ql (hc.two (by omega));have hsz:=sz2 u v;obtain⟨⟨a1,a2,a3⟩,a4⟩:=TR ih (o:=o) (f:=g) (b:=b) (k:=12) (op:=op) (x:=x) (y:=y) (p:=p) (j:=0) (u:=u) (by omega) hc hp hl hat (by omega) hu rfl (RN 12 (by omega) 0);obtain⟨⟨b1,b2,b3⟩,b4⟩:=TR ih (o:=o) (f:=g) (b:=b) (k:=12) (op:=op) (x:=x) (y:=y) (p:=p) (j:=1) (u:=v) (by omega) hc hp hl hat (by omega) hu rfl (RN 12 (by omega) 1);rw[rE] at a1 a2;rw[WA] at b1 b2;generalize (dZ 12 op [u,v].length 0 p).yE=q0 at a2 a3;generalize hk0:rF 12 op [u,v].length p 0 u=K0 at a3 a4;generalize (dZ 12 op [u,v].length 1 p).yE=q1 at b2 b3;generalize hk1:rF 12 op [u,v].length p 1 v=K1 at b3 b4;rw[RH,hk0,hk1]
  by_cases h99:op=99
  ·have e99:(op !=99)=false:=by simp[h99]
   simp(disch:=omega) only[lJ,M.qp,a1,a2,a3,b1,b2,b3,LQ,ah,Int.reduceBEq,e99,dP,<-kR,gY,vS,GX,vX,EN,room,Jd,dM,bW];simp[CP,xZ,h99]
  ·have e99:(op !=99)=true:=by simpa using h99
   have e98:(op==99)=false:=by simpa using h99
   have e1:=(kG op (ZN (hc.bin rfl).1)).2;simp(disch:=omega) only[lJ,M.qp,a1,a2,a3,b1,b2,b3,e1,LQ,ah,Int.reduceBEq,e99,dP,uy,<-kR,gY,vS,GX,vX,EN,room,Jd,dM,bW];simp[CP,xZ,e98]
 ·obtain⟨u,v,z,rfl⟩:=Wy (hc.three rfl);have hsz:=sz3 u v z;obtain⟨⟨a1,a2,a3⟩,a4⟩:=TR ih (o:=o) (f:=g) (b:=b) (k:=14) (op:=op) (x:=x) (y:=y) (p:=p) (j:=0) (u:=u) (by omega) hc hp hl hat (by omega) hu rfl (RN 14 (by omega) 0);obtain⟨⟨b1,b2,b3⟩,b4⟩:=TR ih (o:=o) (f:=g) (b:=b) (k:=14) (op:=op) (x:=x) (y:=y) (p:=p) (j:=1) (u:=v) (by omega) hc hp hl hat (by omega) hu rfl (RN 14 (by omega) 1);obtain⟨⟨c1,c2,c3⟩,c4⟩:=TR ih (o:=o) (f:=g) (b:=b) (k:=14) (op:=op) (x:=x) (y:=y) (p:=p) (j:=2) (u:=z) (by omega) hc hp hl hat (by omega) hu rfl (RN 14 (by omega) 2);rw[rE] at a1 a2;rw[WA] at b1 b2;rw[arn] at c1 c2;generalize (dZ 14 op [u,v,z].length 0 p).yE=q0 at a2 a3;generalize hk0:rF 14 op [u,v,z].length p 0 u=K0 at a3 a4;generalize (dZ 14 op [u,v,z].length 1 p).yE=q1 at b2 b3;generalize hk1:rF 14 op [u,v,z].length p 1 v=K1 at b3 b4;generalize (dZ 14 op [u,v,z].length 2 p).yE=q2 at c2 c3;generalize hk2:rF 14 op [u,v,z].length p 2 z=K2 at c3 c4;rw[apu,hk0,hk1,hk2];have e1:=(kG 65 (by constructor<;>decide)).2;have e2:=(kG 66 (by constructor<;>decide)).2;simp(disch:=omega) only[lJ,M.qp,a1,a2,a3,b1,b2,b3,c1,c2,c3,e1,e2,LQ,ah,Int.reduceBEq,dP,uy,<-kR,gY,vS,GX,vX,EN,room,Jd,dM,bW];simp[CP,xZ]
def ZO{k op:Int}{ks:List Tn}{p:Ps}(hp:kZ p=true)(h:(lvl k op=15)∨(k=13∧Nat.blt 1 ks.length=true∧lvl k op≠0))(ht:∀j,nC k j=false):iW k op ks.length p ks 0=DC ks:=by
 refine ab7 ht (λj hj=> ?_) ks 0 (by omega);rcases h with h|⟨h1,h2,h3⟩
 ·exact Dy hp hj h
 ·have hb:Nat.blt j ks.length=true:=by rw[Nat.blt_eq];exact hj
  have h4:(lvl k op==0)=false:=by simpa using h3
  subst h1;unfold dZ;rw[hp,hb,h4,h2];simp
def ZP(k:Int)(x:aC):([[D.int .i64 k,D.str x,D.int .i64 0]]:au)=jR [⟨k,x,0⟩]:=rfl
def aiI(x:aC):([[D.int .i64 24,D.str (spell 24),D.int .i64 0],[D.int .i64 6,D.str x,D.int .i64 0]]:au)=jR [tok 24,⟨6,x,0⟩]:=rfl
set_option maxHeartbeats 2000000 in
def al4(t:Tn):GU t->TM t->t.size<=1048576->PS t:=by
 refine Tn.ind (P:=λt=>GU t->TM t->t.size<=1048576->PS t) ?_ t;intro k op x y ks ih hok he hsz;intro o f p l b hl h hf hp;have aQ5:=h;simp only[TM,Tn.kind] at he;have hc:=Qc hok;have hsz':sizes ks+1=(Tn.mk k op x y ks).size:=by rw[Tn.size]
 have ih':∀u,u∈ks->PS u:=by intro u hu;obtain⟨i,hi⟩:=List.mem_iff_getElem?.1 hu;obtain⟨h1,h2⟩:=V6 hok he hi;have:=nJ hu;exact ih u hu h2 h1 (by omega)
 have hat:At l b ks:=λj u hj=>Lies.P9 h hj
 obtain⟨g,rfl⟩:∃g,f=g+1:=⟨f - 1,by omega⟩
 have hr:idx (fU o l) ((b+sizes ks:Nat):Int)=some (Oc o ⟨k,op,x,y,ends ks b⟩):=by have hr0:l[b+sizes ks]? =some ⟨k,op,x,y,ends ks b⟩:=Lies.root' h;rw[dF,mJ,hr0];rfl
 have hkl:=jT ks;have tgt:∀{u:Tn},ks[0]? =some u->cls k op ks.length 0=6->GU u∧TM u∧13<=lvl u.kind u.op:=by intro u hu hcls;obtain⟨h1,h2⟩:=V6 hok he hu;obtain⟨h3,_⟩:=abE hok hu;rw[hcls] at h3;exact⟨h2,h1,(ae3 h3).1⟩
 rw[M.aa1,Tn.kids];have hk:k=1∨k=2∨k=3∨k=4∨k=5∨k=7∨k=8∨k=6∨k=9∨k=10∨k=11∨k=13∨k=15∨k=12∨k=14:=by omega
 rw[sK];rcases hk with rfl|rfl|rfl|rfl|rfl|rfl|rfl|rfl|rfl|rfl|rfl|rfl|rfl|rfl|rfl
 ·simp only[lJ,M.fV,hr,ah,NP,Oo,Oq,Ot,MN,M.dL,M.dw,Int.reduceBEq,Int.reduceBNe,bW,dP,ZP];rfl
 ·simp only[lJ,M.fV,hr,ah,NP,Oo,Oq,Ot,MN,M.dL,M.dw,Int.reduceBEq,Int.reduceBNe,bW,dP,ZP];rfl
 ·simp only[lJ,M.fV,hr,ah,NP,Oo,Oq,Ot,MN,M.dL,M.dw,Int.reduceBEq,Int.reduceBNe,bW,dP,ZP];rfl
 ·simp only[lJ,M.fV,hr,ah,NP,Oo,Oq,Ot,MN,M.dL,M.dw,Int.reduceBEq,Int.reduceBNe,bW,dP,ZP];rfl
 ·have a1:=afd ih' (o:=o) (f:=g) (b:=b) hl hat (by omega) (by omega) 6 x 34 (.inr rfl);rw[ZO hp (.inl rfl) (λj=>by simp[nC])];simp only[lJ,M.fV,hr,ah,NP,Oo,Oq,Ot,MN,M.dL,M.dw,Int.reduceBEq,Int.reduceBNe,bW,dP,a1,dM];rfl
 ·have a1:=afd ih' (o:=o) (f:=g) (b:=b) hl hat (by omega) (by omega) 7 x 32 (.inl rfl);rw[ZO hp (.inl rfl) (λj=>by simp[nC])];simp only[lJ,M.fV,hr,ah,NP,Oo,Oq,Ot,MN,M.dL,M.dw,Int.reduceBEq,Int.reduceBNe,bW,dP,a1,dM];rfl
 ·have a1:=afd ih' (o:=o) (f:=g) (b:=b) hl hat (by omega) (by omega) 8 x 32 (.inl rfl);rw[ZO hp (.inl rfl) (λj=>by simp[nC])];simp only[lJ,M.fV,hr,ah,NP,Oo,Oq,Ot,MN,M.dL,M.dw,Int.reduceBEq,Int.reduceBNe,bW,dP,a1,dM];rfl
 ·obtain⟨u,rfl⟩:=zlo.1 (hc.one (by omega));have hs1:=ZM u;have e1:=(kG 68 (by constructor<;>decide)).2;obtain⟨⟨a1,a2,a3⟩,a4⟩:=TR ih' (o:=o) (f:=g) (b:=b) (k:=6) (op:=op) (x:=x) (y:=y) (p:=p) (j:=0) (u:=u) (by omega) hc hp hl hat (by omega) (by omega) rfl (RN 6 (by omega) 0);rw[rE] at a1 a2;rw[Lm];generalize (dZ 6 op [u].length 0 p).yE=q0 at a2 a3;generalize rF 6 op [u].length p 0 u=K0 at a3 a4⊢;simp(disch:=omega) only[lJ,M.fV,hr,ah,NP,Oo,Oq,Ot,MN,M.dL,M.dw,Int.reduceBEq,Int.reduceBNe,bW,dP,a1,a2,a3,e1,LQ,uy,<-kR,gY,vS,GX,vX,EN,room,Jd,dM];simp[CP,xZ]
 ·obtain⟨u,rfl⟩:=zlo.1 (hc.one (by omega));have hs1:=ZM u;have e1:=(kG op (by rcases hc.stp (by omega) with rfl|rfl<;>constructor<;>decide)).2;have a1:=KF (ks:=[u]) (b:=b) (j:=0) (u:=u) rfl;obtain⟨t1,t2,t3⟩:=tgt (u:=u) rfl (by simp[cls]);have a3:=ab8 (ih' u (by simp)) t1 t2 t3 (o:=o) (f:=g) (p:=dZ 9 op [u].length 0 p) hl (hat 0 u rfl) (by rw[ZM] at hsz';omega) (sN hp (by simp) (by simp[lvl]));have a4:=nT u (dZ 9 op [u].length 0 p);rw[ZM] at hsz';rw[rE] at a1;rw[Lm,rF,show nC 9 0=true from rfl,Bool.true_or,bW];generalize sK u (dZ 9 op [u].length 0 p)=K0 at a3 a4⊢;simp(disch:=omega) only[lJ,M.fV,hr,ah,NP,Oo,Oq,Ot,MN,M.dL,M.dw,Int.reduceBEq,Int.reduceBNe,bW,dP,a1,a3,e1,LQ,uy,<-kR,gY,vS,GX,vX,EN,room,Jd,dM];simp[CP,xZ]
 ·obtain⟨u,rfl⟩:=zlo.1 (hc.one (by omega));have hs1:=ZM u;have e1:=(kG op (by rcases hc.stp (by omega) with rfl|rfl<;>constructor<;>decide)).2;have a1:=KF (ks:=[u]) (b:=b) (j:=0) (u:=u) rfl;obtain⟨t1,t2,t3⟩:=tgt (u:=u) rfl (by simp[cls]);have a3:=ab8 (ih' u (by simp)) t1 t2 t3 (o:=o) (f:=g) (p:=dZ 10 op [u].length 0 p) hl (hat 0 u rfl) (by rw[ZM] at hsz';omega) (sN hp (by simp) (by simp[lvl]));have a4:=nT u (dZ 10 op [u].length 0 p);rw[ZM] at hsz';rw[rE] at a1;rw[Lm,rF,show nC 10 0=true from rfl,Bool.true_or,bW];generalize sK u (dZ 10 op [u].length 0 p)=K0 at a3 a4⊢;simp(disch:=omega) only[lJ,M.fV,hr,ah,NP,Oo,Oq,Ot,MN,M.dL,M.dw,Int.reduceBEq,Int.reduceBNe,bW,dP,a1,a3,e1,LQ,uy,<-kR,gY,vS,GX,vX,EN,room,Jd,dM];simp[CP,xZ]
 ·obtain⟨u,rfl⟩:=zlo.1 (hc.one (by omega));have hs1:=ZM u;have e1:=(kG op (by rcases hc.una (by omega) with rfl|rfl|rfl<;>constructor<;>decide)).2;obtain⟨⟨a1,a2,a3⟩,a4⟩:=TR ih' (o:=o) (f:=g) (b:=b) (k:=11) (op:=op) (x:=x) (y:=y) (p:=p) (j:=0) (u:=u) (by omega) hc hp hl hat (by omega) (by omega) rfl (RN 11 (by omega) 0);rw[rE] at a1 a2;rw[Lm];generalize (dZ 11 op [u].length 0 p).yE=q0 at a2 a3;generalize rF 11 op [u].length p 0 u=K0 at a3 a4⊢;simp(disch:=omega) only[lJ,M.fV,hr,ah,NP,Oo,Oq,Ot,MN,M.dL,M.dw,Int.reduceBEq,Int.reduceBNe,bW,dP,a1,a2,a3,e1,LQ,uy,<-kR,gY,vS,GX,vX,EN,room,Jd,dM];simp[CP,xZ]
 ·have e1:=(kG 24 (by constructor<;>decide)).2;have e2:=(kG 32 (by constructor<;>decide)).2;have e3:=(kG 33 (by constructor<;>decide)).2;obtain⟨u,hu⟩:∃u,ks[0]? =some u:=by have:=hc.some_ (by omega);exact⟨ks[0],by simp⟩
  obtain⟨⟨a1,a2,a3⟩,a4⟩:=TR ih' (o:=o) (f:=g) (b:=b) (k:=13) (op:=op) (x:=x) (y:=y) (p:=p) (j:=0) (u:=u) (by omega) hc hp hl hat (by omega) (by omega) hu (RN 13 (by omega) 0);have hus:=nJ (Lu hu);rw[rE] at a1 a2;have hel:(encI (ends ks b)).length=ks.length:=by rw[dn,iQ]
  cases hm:Nat.blt 1 ks.length with
  |true=>have b1:=apD ih' (o:=o) (f:=g) (b:=b) hl hat (by omega) (by omega);have b2:=U1 ks true;rw[ZO hp (.inr ⟨rfl,hm,by simp[lvl]⟩) (λj=>by simp[nC])];simp(disch:=omega) only[lJ,M.fV,hr,ah,NP,Oo,Oq,Ot,MN,M.dL,M.dw,Int.reduceBEq,Int.reduceBNe,bW,dP,a1,a2,a3,b1,e1,e2,e3,LQ,hel,many,hm,aiI,uy 32,uy 33,<-kR,gY,vS,GX,vX,EN,room,Jd,dM];simp[CP,hm]
  |false=>
   have h1:ks.length=1:=by
    have h2:=hc.some_ (by omega);have h3:¬1<ks.length:=by rw[<-Nat.blt_eq,hm];simp
    omega
   obtain⟨u',rfl⟩:=zlo.1 h1;obtain rfl:u'=u:=by simpa using hu
   rw[Lm];generalize (dZ 13 op [u'].length 0 p).yE=q0 at a2 a3;generalize rF 13 op [u'].length p 0 u'=K0 at a3 a4⊢;simp(disch:=omega) only[lJ,M.fV,hr,ah,NP,Oo,Oq,Ot,MN,M.dL,M.dw,Int.reduceBEq,Int.reduceBNe,bW,dP,a1,a2,a3,e1,e2,e3,LQ,hel,many,hm,aiI,<-kR,gY,vS,GX,vX,EN,room,Jd,dM];simp[CP,xZ,show Nat.blt 1 1=false from rfl]
 ·obtain⟨u,v,rfl⟩:=Ql (hc.two (by omega));have hsv:=sz2 u v;have e1:=(kG op (by rcases hc.asg rfl with rfl|h<;>constructor<;>omega)).2;have a1:=KF (ks:=[u,v]) (b:=b) (j:=0) (u:=u) rfl;obtain⟨t1,t2,t3⟩:=tgt (u:=u) rfl (by simp[cls]);have a3:=ab8 (ih' u (by simp)) t1 t2 t3 (o:=o) (f:=g) (p:=dZ 15 op [u,v].length 0 p) hl (hat 0 u rfl) (by omega) (sN hp (by simp) (by simp[lvl]));have a4:=nT u (dZ 15 op [u,v].length 0 p);obtain⟨⟨b1,b2,b3⟩,b4⟩:=TR ih' (o:=o) (f:=g) (b:=b) (k:=15) (op:=op) (x:=x) (y:=y) (p:=p) (j:=1) (u:=v) (by omega) hc hp hl hat (by omega) (by omega) rfl rfl;rw[rE] at a1;rw[WA] at b1 b2;have e98:(op==99)=false:=by rw[Nw];have:=hc.asg rfl;omega
  rw[RH]
  conv=>rhs;rw[rF,show nC 15 0=true from rfl,Bool.true_or,bW]
  generalize sK u (dZ 15 op [u,v].length 0 p)=K0 at a3 a4⊢;generalize (dZ 15 op [u,v].length 1 p).yE=q1 at b2 b3;generalize rF 15 op [u,v].length p 1 v=K1 at b3 b4⊢;simp(disch:=omega) only[lJ,M.fV,hr,ah,NP,Oo,Oq,Ot,MN,M.dL,M.dw,Int.reduceBEq,Int.reduceBNe,bW,dP,a1,a3,b1,b2,b3,e1,LQ,uy,<-kR,gY,vS,GX,vX,EN,room,Jd,dM];simp[CP,xZ,e98]
 ·have a1:=akX ih' (o:=o) (f:=g) (b:=b) (k:=12) (op:=op) (x:=x) (y:=y) (p:=p) (.inl rfl) hc hp hl hat (by omega) (by omega);simp only[lJ,M.fV,hr,ah,NP,Oo,Oq,Ot,MN,M.dL,M.dw,Int.reduceBEq,Int.reduceBNe,bW,dP,a1,dM]
 ·have a1:=akX ih' (o:=o) (f:=g) (b:=b) (k:=14) (op:=op) (x:=x) (y:=y) (p:=p) (.inr rfl) hc hp hl hat (by omega) (by omega);simp only[lJ,M.fV,hr,ah,NP,Oo,Oq,Ot,MN,M.dL,M.dw,Int.reduceBEq,Int.reduceBNe,bW,dP,a1,dM]
def dE(t:Tn):au:=dW true (t.flat 0)
def al5(t:Tn):Row:=[D.sl true 4 (dE t)]
def AA(s:aC):M.eX s=some (dE (GK s)):=by simp[M.eX,M.Ij,dE,GK,Tn.flat,jC,ends,dW,Zf,encI]
def ajK:M.oK=some (dE NY):=by simp[M.oK,M.Ik,dE,NY,Tn.flat,jC,ends,dW,Zf,encI]
def Gt(t:Tn):[[D.sl true 4 (dE t)]].all jk=true:=alU _
def SE(L:List Tn):dI (L.map al5)=zx L:=by
 induction L with
 |nil=>rfl
 |cons t L ih=>
  have h1:ql (al5 t)=[D.sl false 4 (dW false (t.flat 0))]:=by simp[al5,ql,D.fz,dE]
  rw[JI,dI,ih,h1];rfl
section
variable (a b c d e f g h:Tn)
def fz1:dI [[D.sl true 4 (dE a)]]=zx [a]:=SE [a]
def fz2:dI [[D.sl true 4 (dE a)],[D.sl true 4 (dE b)]]=zx [a,b]:=SE [a,b]
def fz3:dI [[D.sl true 4 (dE a)],[D.sl true 4 (dE b)],[D.sl true 4 (dE c)]]=zx [a,b,c]:=SE [a,b,c]
def fz4:dI [[D.sl true 4 (dE a)],[D.sl true 4 (dE b)],[D.sl true 4 (dE c)],[D.sl true 4 (dE d)]]=zx [a,b,c,d]:=SE [a,b,c,d]
def fz5:dI [[D.sl true 4 (dE a)],[D.sl true 4 (dE b)],[D.sl true 4 (dE c)],[D.sl true 4 (dE d)],[D.sl true 4 (dE e)]]=zx [a,b,c,d,e]:=SE [a,b,c,d,e]
end
def Ls(ts:List Tn)(h:sizes ts<=90000000):M.dR 6 0 (zx ts)=some (dE (Du ts)):=ajG 6 0 ts h
def ajL(t:Tn)(h:sizes [t]<=90000000):M.dR 4 4 (zx [t])=some (dE (TL t)):=ajG 4 4 [t] h
def apE(t:Tn)(h:sizes [t]<=90000000):M.dR 5 0 (zx [t])=some (dE (aic t)):=ajG 5 0 [t] h
def aiJ(p:Ps):∀ks:List Tn,sizes (U4 p ks)+3 * ks.length<=16 * sizes ks
 |[]=>by simp[U4,sizes]
 |t::ts=>by have h1:=UY t p;have h2:=aiJ p ts;simp only[U4,JI,sizes,vX] at h2⊢;omega
def DS(t:Tn):Prop:=∀(o:Bool) (f:Nat) (p:Ps) (l:List Nd) (b:Nat),l.length<=1048576->Lies l b t->5 * t.size<=f->kZ p=true->
 M.y9 f (fU o l) false ((b+sizes t.kids:Nat):Int) p.level p.kV p.qh p.qj p.kE=some (dE (nD t p))
def apF{u:Tn}{o:Bool}{l:List Nd}{b:Nat}(h:Lies l b u):idx (fU o l) ((b+sizes u.kids:Nat):Int)=some (Oc o ⟨u.kind,u.op,u.text,u.other,ends u.kids b⟩):=by rw[dF,mJ,Lies.root' h];rfl
def awk{u:Tn}(hS:DS u){o:Bool}{f:Nat}{p:Ps}{l:List Nd}{b:Nat}(hl:l.length<=1048576)(h:Lies l b u)(hf:5 * u.size+1<=f)(hp:kZ p=true):
  M.oQ f (fU o l) false ((b+sizes u.kids:Nat):Int) p.level p.kV p.qh p.qj p.kE=some (dE (Ez u p)):=by
 obtain⟨g,rfl⟩:∃g,f=g+1:=⟨f - 1,by omega⟩
 have hlt:=h.lt;have h1:=hS o g p l b hl h (by omega) hp;have h2:=hS o g .top l b hl h (by omega) rfl;have hb:=Gq u .top;simp only[Ps.top] at h2 hb;rw[M.aeM];simp only[lJ,M.D7,apF h,ah,NP,Oo,Oq,Ot,MN,(ZI u.kind u.op u.text u.other _ p).2,Ez];cases fits u.kind u.op p with
 |true=>simp only[bW,h1,ah]
 |false=>
  have hs:sizes [GK [40],nD u ⟨1,false,false,false,false⟩,GK [41]]<=90000000:=by simp only[sizes,vM];omega
  simp only[dP,AA,Nu.2,ah,h2,fz3,Ls _ hs,Gt,bW,Ps.top]
def apG{ks:List Tn}(ih:∀u,u∈ks->DS u){o:Bool}{f:Nat}{p:Ps}(hp:kZ p=true){l:List Nd}{b:Nat}(hl:l.length<=1048576)(hat:At l b ks)(hf:5 * sizes ks+2<=f)(hu:sizes ks<=1048575):
  M.y7 f (fU o l) false (encI (ends ks b)) p.level p.kV p.qh p.qj p.kE=some (dE (YH p ks)):=by
 obtain⟨g,rfl⟩:∃g,f=g+1:=⟨f - 1,by omega⟩
 have hkl:=jT ks;have hpz:=aiJ p ks;have hcz:=XC (U4 p ks) true;rw[WI] at hcz;have hloop:=kX (b:=M.BP (M.oQ g) (encI (ends ks b)) (fU o l) false p.level p.kV p.qh p.qj p.kE) (t:=((ks.length:Int),(Lj true (U4 p ks)).map al5)) (λj=>((j:Int),(Lj true (U4 p (ks.take j))).map al5)) ks.length
  (by
   intro j hj;obtain⟨u,hu'⟩:∃u,ks[j]? =some u:=⟨ks[j],by simp[hj]⟩
   have hus:=nJ (Lu hu');have ha:=awk (ih u (Lu hu')) (o:=o) (f:=g) (p:=p) hl (hat j u hu') (by omega) hp;have hi:=KF (b:=b) hu';have hcl:=ab5 (U4 p (ks.take j)) true;rw[WI,U2] at hcl;have hw:i64.wrap ((j:Int)+1)=((j+1:Nat):Int):=by rw[aG (by omega) (by omega)];omega
   have e:U4 p (ks.take (j+1))=U4 p (ks.take j)++[Ez u p]:=by rw[kY hu'];simp[U4]
   rw[e,XO];simp only[lJ,M.BP,M.xw,dn,iQ,AA,ajK,hi,LQ,ha,ah,vS,List.length_map,vX,EN,hw];rw[zdt (by omega),bW]
   by_cases h0:j=0
   ·subst h0;rw[uh (by omega),dP,dN (by omega),bW,dN (by omega),bW];rfl
   ·have z:(U4 p (ks.take j)).isEmpty=false:=by
     cases hq:U4 p (ks.take j) with
     |nil=>have:=WI p (ks.take j);rw[hq,EN,U2] at this;omega
     |cons _ _=>rfl
    rw[zdt (by omega),bW,dN (by omega),bW,dN (by omega),bW,dN (by omega),bW,dN (by omega),bW,z,Bool.false_and,dP,List.map_append,AB];rfl)
  (by simp only[lJ,M.BP,M.xw,dn,iQ];rw[uh (by omega),dP,List.take_length]) 0 (Nat.zero_le _)
 have UQ:M.Fv (M.oQ g) (encI (ends ks b)) (fU o l) false p.level p.kV p.qh p.qj p.kE (0,[])=some ((ks.length:Int),(Lj true (U4 p ks)).map al5):=hloop;have z1:sizes [Du (Lj true (U4 p ks))]<=90000000:=by simp only[sizes,Qh];omega
 have z2:sizes [TL (Du (Lj true (U4 p ks)))]<=90000000:=by simp only[sizes,Qh,Wu];omega
 rw[M.aa3];simp only[M.yV,UQ,ah,SE,Ls _ (show sizes (Lj true (U4 p ks))<=90000000 by omega),Gt,bW,fz1,ajL _ z1,apE _ z2];rfl
def WJ{ks:List Tn}(ih:∀u,u∈ks->DS u){o:Bool}{f:Nat}{l:List Nd}{b:Nat}{k op:Int}{x y:aC}{p:Ps}{j:Nat}{u:Tn}(he:1<=k∧k<=15)(hc:Cnt k op y ks.length)(hp:kZ p=true)(hl:l.length<=1048576)(hat:At l b ks)(hf:5 * sizes ks+1<=f)(hu:sizes ks<=1048575)(hj:ks[j]? =some u)(ht:nC k j=false):
  (idx (encI (ends ks b)) (j:Int)=some [D.int .i64 ((b+sizes (ks.take j)+sizes u.kids:Nat):Int)]∧
   M.fD k op x y (encI (ends ks b)) (j:Int) p.level p.kV p.qh p.qj p.kE=some (dZ k op ks.length j p).yE∧
   M.oQ f (fU o l) false ((b+sizes (ks.take j)+sizes u.kids:Nat):Int) (dZ k op ks.length j p).yE.1 (dZ k op ks.length j p).yE.2.1 (dZ k op ks.length j p).yE.2.2.1 (dZ k op ks.length j p).yE.2.2.2.1 (dZ k op ks.length j p).yE.2.2.2.2=some (dE (Jb k op ks.length p j u)))∧(Jb k op ks.length p j u).size+3<=16 * u.size:=by
 have hkl:=jT ks;have hus:=nJ (Lu hj);have hjl:j<ks.length:=(Je.1 hj).1;have hen:(encI (ends ks b)).length=ks.length:=by rw[dn,iQ]
 have hlv:lvl k op≠0:=by have:=NZ he hc;omega
 refine⟨⟨KF hj, ?_, ?_⟩,adX (Gq u)⟩
 ·have h:=RJ (x:=x) (r:=encI (ends ks b)) (j:=j) (p:=p) he (by rw[hen];exact hc) (by omega) (by omega);rw[hen] at h;exact h
 ·have h:=awk (ih u (Lu hj)) (o:=o) (f:=f) (p:=dZ k op ks.length j p) hl (hat j u hj) (by omega) (sN hp hjl hlv);rw[Jb,ht,Bool.false_or];exact h
def afe{ks:List Tn}(ih:∀u,u∈ks->DS u){o:Bool}{f:Nat}{l:List Nd}{b:Nat}(hl:l.length<=1048576)(hat:At l b ks)(hf:5 * sizes ks+3<=f)(hu:sizes ks<=1048575)(k op:Int)(x y:aC)(hx:x.length<=1048576)(c d:UInt8):
  M.AY f (fU o l) false k op x y (encI (ends ks b)) [c] [d]=some (dE (Du [GK (x++[c]),YH .top ks,GK [d]])):=by
 obtain⟨g,rfl⟩:∃g,f=g+1:=⟨f - 1,by omega⟩
 have h1:=apG ih (o:=o) (f:=g) (p:=.top) rfl (b:=b) hl hat (by omega) hu;have h2:=abZ .top ks;simp only[Ps.top] at h1 h2;have hs:sizes [GK (x++[c]),YH ⟨1,false,false,false,false⟩ ks,GK [d]]<=90000000:=by simp only[sizes,vM];omega
 rw[M.Y4];simp(disch:=omega) only[M.wz,vX,EN,Jm,bW,AA,Nu.2,h1,ah,fz3,Ls _ hs,Gt,Ps.top]
def ab9{u:Tn}(hS:DS u)(hok:GU u)(he:TM u)(hh:13<=lvl u.kind u.op){o:Bool}{f:Nat}{l:List Nd}{b:Nat}(hl:l.length<=1048576)(h:Lies l b u)(hf:5 * u.size+1<=f)(p:Ps)(hp:kZ p=true):
  M.y8 f (fU o l) false ((b+sizes u.kids:Nat):Int)=some (dE (nD u p)):=by
 obtain⟨g,rfl⟩:∃g,f=g+1:=⟨f - 1,by omega⟩
 have h1:=hS o g ⟨14,false,false,false,false⟩ l b hl h (by omega) rfl;rw[ajD u hok hh he _ p rfl hp] at h1;rw[M.Xu];simp only[M.uO,h1,ah]
def aIG{ks:List Tn}(ih:∀u,u∈ks->DS u){o:Bool}{f:Nat}{l:List Nd}{b:Nat}{op:Int}{x y:aC}{p:Ps}(hc:Cnt 12 op y ks.length)(hp:kZ p=true)(hl:l.length<=1048576)(hat:At l b ks)(hf:5 * sizes ks+2<=f)(hu:sizes ks<=1048575)(gp:Bool):
  M.ET f (fU o l) false 12 op x y (encI (ends ks b)) p.level p.kV p.qh p.qj p.kE=some (dE (Ru 12 op ks.length x gp (pz 12 op ks.length p ks 0))):=by
 obtain⟨g,rfl⟩:∃g,f=g+1:=⟨f - 1,by omega⟩
 rw[M.acC];obtain⟨u,v,rfl⟩:=Ql (hc.two (by omega));have hsz:=sz2 u v;have hI:=ZN (hc.bin rfl).1;have hsl:=GN op;obtain⟨⟨a1,a2,a3⟩,a4⟩:=WJ ih (o:=o) (f:=g) (b:=b) (k:=12) (op:=op) (x:=x) (y:=y) (p:=p) (j:=0) (u:=u) (by omega) hc hp hl hat (by omega) hu rfl (RN 12 (by omega) 0);obtain⟨⟨b1,b2,b3⟩,b4⟩:=WJ ih (o:=o) (f:=g) (b:=b) (k:=12) (op:=op) (x:=x) (y:=y) (p:=p) (j:=1) (u:=v) (by omega) hc hp hl hat (by omega) hu rfl (RN 12 (by omega) 1);rw[rE] at a1 a2;rw[WA] at b1 b2;rw[afb];generalize (dZ 12 op [u,v].length 0 p).yE=q0 at a2 a3;generalize Jb 12 op [u,v].length p 0 u=K0 at a3 a4⊢;generalize (dZ 12 op [u,v].length 1 p).yE=q1 at b2 b3;generalize Jb 12 op [u,v].length p 1 v=K1 at b3 b4⊢
 by_cases h99:op=99
 ·subst h99;have hs:sizes [K0,GK [32],K1]<=90000000:=by simp only[sizes,vM];omega
  simp only[M.rC,a1,a2,a3,b1,b2,b3,LQ,ah,Int.reduceBEq,bW,dP,AA,fz3,Ls _ hs,Gt];rfl
 ·have e1:(op==99)=false:=by simpa using h99
  have hs:sizes [K0,GK ([32]++spell op),NY,K1]<=90000000:=by simp only[sizes,vM,Rz];omega
  have z1:sizes [Du [K0,GK ([32]++spell op),NY,K1]]<=90000000:=by simp only[sizes,vM,Rz,Qh];omega
  have z2:sizes [TL (Du [K0,GK ([32]++spell op),NY,K1])]<=90000000:=by simp only[sizes,vM,Rz,Qh,Wu];omega
  by_cases h45:op=45
  ·subst h45;simp(disch:=omega) only[M.rC,a1,a2,a3,b1,b2,b3,LQ,ah,Int.reduceBEq,bW,dP,(lM 45 hI).1,AA,ajK,fz4,fz1,Ls _ hs,ajL _ z1,apE _ z2,Gt,Jm];rfl
  ·have e2:(op==45)=false:=by simpa using h45
   by_cases h44:op=44
   ·subst h44;simp(disch:=omega) only[M.rC,a1,a2,a3,b1,b2,b3,LQ,ah,Int.reduceBEq,bW,dP,(lM 44 hI).1,AA,ajK,fz4,fz1,Ls _ hs,ajL _ z1,apE _ z2,Gt,Jm];rfl
   ·have e3:(op==44)=false:=by simpa using h44
    have hs3:sizes [K0,GK ([32]++spell op++[32]),K1]<=90000000:=by simp only[sizes,vM];omega
    simp(disch:=omega) only[M.rC,a1,a2,a3,b1,b2,b3,LQ,ah,e1,e2,e3,bW,dP,(lM op hI).1,vS,vX,EN,AA,fz3,Ls _ hs3,Gt,Jm];simp[Ru,e1,e2,e3,Gp]
set_option maxHeartbeats 4000000 in
def ajM(t:Tn):GU t->TM t->sml t->t.size<=1048576->DS t:=by
 refine Tn.ind (P:=λt=>GU t->TM t->sml t->t.size<=1048576->DS t) ?_ t;intro k op x y ks ih hok he hsm hsz;intro o f p l b hl h hf hp;have aQ5:=h;simp only[TM,Tn.kind] at he;have hc:=Qc hok;rw[sml] at hsm;obtain⟨⟨hx,hy⟩,hss⟩:=hsm;rw[Tn.size] at hsz hf;have hkE:∀u,u∈ks->GU u∧TM u∧sml u:=by intro u hu;obtain⟨i,hi⟩:=List.mem_iff_getElem?.1 hu;obtain⟨h1,h2⟩:=V6 hok he hi;exact⟨h2,h1,WB hss hu⟩
 have ih':∀u,u∈ks->DS u:=by intro u hu;obtain⟨h1,h2,h3⟩:=hkE u hu;have:=nJ hu;exact ih u hu h1 h2 h3 (by omega)
 have hat:At l b ks:=λj u hj=>Lies.P9 h hj
 obtain⟨g,rfl⟩:∃g,f=g+1:=⟨f - 1,by omega⟩
 have hr:idx (fU o l) ((b+sizes ks:Nat):Int)=some (Oc o ⟨k,op,x,y,ends ks b⟩):=by have hr0:l[b+sizes ks]? =some ⟨k,op,x,y,ends ks b⟩:=Lies.root' h;rw[dF,mJ,hr0];rfl
 have hkl:=jT ks;have tgt:∀{u:Tn},ks[0]? =some u->cls k op ks.length 0=6->GU u∧TM u∧13<=lvl u.kind u.op:=by intro u hu hcls;obtain⟨h1,h2⟩:=V6 hok he hu;obtain⟨h3,_⟩:=abE hok hu;rw[hcls] at h3;exact⟨h2,h1,(ae3 h3).1⟩
 rw[M.aa4,Tn.kids];have hk:k=1∨k=2∨k=3∨k=4∨k=5∨k=7∨k=8∨k=6∨k=9∨k=10∨k=11∨k=13∨k=15∨k=12∨k=14:=by omega
 rw[nD];rcases hk with rfl|rfl|rfl|rfl|rfl|rfl|rfl|rfl|rfl|rfl|rfl|rfl|rfl|rfl|rfl
 ·simp only[lJ,M.fZ,hr,ah,NP,Oo,Oq,Ot,MN,M.dL,M.dw,Int.reduceBEq,Int.reduceBNe,bW,dP,AA];rfl
 ·simp only[lJ,M.fZ,hr,ah,NP,Oo,Oq,Ot,MN,M.dL,M.dw,Int.reduceBEq,Int.reduceBNe,bW,dP,AA];rfl
 ·simp only[lJ,M.fZ,hr,ah,NP,Oo,Oq,Ot,MN,M.dL,M.dw,Int.reduceBEq,Int.reduceBNe,bW,dP,AA];rfl
 ·simp only[lJ,M.fZ,hr,ah,NP,Oo,Oq,Ot,MN,M.dL,M.dw,Int.reduceBEq,Int.reduceBNe,bW,dP,AA];rfl
 ·have a1:=afe ih' (o:=o) (f:=g) (b:=b) hl hat (by omega) (by omega) 5 op x y hx 91 93;rw[KU hp (.inl rfl) (λj=>by simp[nC])];simp only[lJ,M.fZ,hr,ah,NP,Oo,Oq,Ot,MN,M.dL,M.dw,Int.reduceBEq,Int.reduceBNe,bW,dP,a1];rfl
 ·have a1:=afe ih' (o:=o) (f:=g) (b:=b) hl hat (by omega) (by omega) 7 op x y hx 40 41;rw[KU hp (.inl rfl) (λj=>by simp[nC])];simp only[lJ,M.fZ,hr,ah,NP,Oo,Oq,Ot,MN,M.dL,M.dw,Int.reduceBEq,Int.reduceBNe,bW,dP,a1];rfl
 ·have a1:=afe ih' (o:=o) (f:=g) (b:=b) hl hat (by omega) (by omega) 8 op x y hx 40 41;rw[KU hp (.inl rfl) (λj=>by simp[nC])];simp only[lJ,M.fZ,hr,ah,NP,Oo,Oq,Ot,MN,M.dL,M.dw,Int.reduceBEq,Int.reduceBNe,bW,dP,a1];rfl
 ·obtain⟨u,rfl⟩:=zlo.1 (hc.one (by omega));have hs1:=ZM u;obtain⟨⟨a1,a2,a3⟩,a4⟩:=WJ ih' (o:=o) (f:=g) (b:=b) (k:=6) (op:=op) (x:=x) (y:=y) (p:=p) (j:=0) (u:=u) (by omega) hc hp hl hat (by omega) (by omega) rfl (RN 6 (by omega) 0);rw[rE] at a1 a2;rw[Om];generalize (dZ 6 op [u].length 0 p).yE=q0 at a2 a3;generalize Jb 6 op [u].length p 0 u=K0 at a3 a4⊢;have hs:sizes [GK [36],K0]<=90000000:=by simp only[sizes,vM];omega
  simp only[lJ,M.fZ,hr,ah,NP,Oo,Oq,Ot,MN,M.dL,M.dw,Int.reduceBEq,Int.reduceBNe,bW,dP,a1,a2,a3,LQ,AA,fz2,Ls _ hs,Gt];rfl
 ·obtain⟨u,rfl⟩:=zlo.1 (hc.one (by omega));have hs1:=ZM u;have hI:I64 op:=by rcases hc.stp (by omega) with rfl|rfl<;>constructor<;>decide
  have a1:=KF (ks:=[u]) (b:=b) (j:=0) (u:=u) rfl;obtain⟨t1,t2,t3⟩:=tgt (u:=u) rfl (by simp[cls]);have a3:=ab9 (ih' u (by simp)) t1 t2 t3 (o:=o) (f:=g) (p:=dZ 9 op [u].length 0 p) hl (hat 0 u rfl) (by omega) (sN hp (by simp) (by simp[lvl]));have a4:=Gq u (dZ 9 op [u].length 0 p);rw[rE] at a1;rw[Om,Jb,show nC 9 0=true from rfl,Bool.true_or,bW];generalize nD u (dZ 9 op [u].length 0 p)=K0 at a3 a4⊢;have hs:sizes [GK (spell op),K0]<=90000000:=by simp only[sizes,vM];omega
  simp only[lJ,M.fZ,hr,ah,NP,Oo,Oq,Ot,MN,M.dL,M.dw,Int.reduceBEq,Int.reduceBNe,bW,dP,a1,a3,(lM op hI).1,LQ,AA,fz2,Ls _ hs,Gt];rfl
 ·obtain⟨u,rfl⟩:=zlo.1 (hc.one (by omega));have hs1:=ZM u;have hI:I64 op:=by rcases hc.stp (by omega) with rfl|rfl<;>constructor<;>decide
  have a1:=KF (ks:=[u]) (b:=b) (j:=0) (u:=u) rfl;obtain⟨t1,t2,t3⟩:=tgt (u:=u) rfl (by simp[cls]);have a3:=ab9 (ih' u (by simp)) t1 t2 t3 (o:=o) (f:=g) (p:=dZ 10 op [u].length 0 p) hl (hat 0 u rfl) (by omega) (sN hp (by simp) (by simp[lvl]));have a4:=Gq u (dZ 10 op [u].length 0 p);rw[rE] at a1;rw[Om,Jb,show nC 10 0=true from rfl,Bool.true_or,bW];generalize nD u (dZ 10 op [u].length 0 p)=K0 at a3 a4⊢;have hs:sizes [K0,GK (spell op)]<=90000000:=by simp only[sizes,vM];omega
  simp only[lJ,M.fZ,hr,ah,NP,Oo,Oq,Ot,MN,M.dL,M.dw,Int.reduceBEq,Int.reduceBNe,bW,dP,a1,a3,(lM op hI).1,LQ,AA,fz2,Ls _ hs,Gt];rfl
 ·obtain⟨u,rfl⟩:=zlo.1 (hc.one (by omega));have hs1:=ZM u;obtain⟨u1,u2,u3⟩:=hkE u (by simp);have hI:I64 op:=by rcases hc.una (by omega) with rfl|rfl|rfl<;>constructor<;>decide
  have ihS:∀v,v∈[u]->PS v:=by intro v hv;rw[List.mem_singleton.1 hv];exact al4 u u1 u2 (by omega)
  obtain⟨⟨a1,a2,a3⟩,a4⟩:=WJ ih' (o:=o) (f:=g) (b:=b) (k:=11) (op:=op) (x:=x) (y:=y) (p:=p) (j:=0) (u:=u) (by omega) hc hp hl hat (by omega) (by omega) rfl (RN 11 (by omega) 0);obtain⟨⟨c1,c2,c3⟩,c4⟩:=TR ihS (o:=o) (f:=5 * sizes [u]+1) (b:=b) (k:=11) (op:=op) (x:=x) (y:=y) (p:=p) (j:=0) (u:=u) (by omega) hc hp hl hat (by omega) (by omega) rfl (RN 11 (by omega) 0);have c3':=M.acz c3;rw[rE] at a1 a2;rw[Om,Lm];have hne:=akV (k:=11) (op:=op) (n:=[u].length) (p:=p) (j:=0) u1 u2;have aIH:=apw (k:=11) (op:=op) (n:=[u].length) (p:=p) (j:=0) u3;clear c3 c2;generalize (dZ 11 op [u].length 0 p).yE=q0 at a2 a3 c3';generalize Jb 11 op [u].length p 0 u=K0 at a3 a4⊢;generalize rF 11 op [u].length p 0 u=K at hne aIH c3'⊢;cases K with
  |nil=>exact absurd rfl hne
  |cons t0 K=>
   have hsl:=GN op;have hg:M.qW op (spell op) 0 t0.kind t0.text t0.at_=some (Dv (tok op) t0):=XP (tok op) t0 (by show(spell op).length<=_;omega) (by have:=aIH t0 ZQ;omega);have i0:idx (jR (t0::K)) 0=some (aaK t0):=rfl;have i1:(jR (t0::K))[0]? =some (aaK t0):=rfl;have hs:sizes [GK (spell op),K0]<=90000000:=by simp only[sizes,vM];omega
   have hs2:sizes [GK (spell op++[32]),K0]<=90000000:=by simp only[sizes,vM];omega
   have ha:Ru 11 op [u].length x (adP op [t0::K]) [K0]=Du [GK (bif Dv (tok op) t0 then spell op++[32] else spell op),K0]:=rfl;rw[ha];simp(disch:=omega) only[lJ,M.fZ,hr,ah,NP,Oo,Oq,Ot,MN,M.dL,M.dw,Int.reduceBEq,Int.reduceBNe,bW,dP,a1,a2,a3,c3',i0,i1,cT0,cT1,cT2,hg,(lM op hI).1,(kG op hI).2,LQ,AA,fz2,Ls _ hs,Ls _ hs2,Gt,Jm];cases Dv (tok op) t0<;>rfl
 ·obtain⟨u,hu⟩:∃u,ks[0]? =some u:=by have:=hc.some_ (by omega);exact⟨ks[0],by simp⟩
  obtain⟨⟨a1,a2,a3⟩,a4⟩:=WJ ih' (o:=o) (f:=g) (b:=b) (k:=13) (op:=op) (x:=x) (y:=y) (p:=p) (j:=0) (u:=u) (by omega) hc hp hl hat (by omega) (by omega) hu (RN 13 (by omega) 0);have hus:=nJ (Lu hu);rw[rE] at a1 a2;have hel:(encI (ends ks b)).length=ks.length:=by rw[dn,iQ]
  cases hm:Nat.blt 1 ks.length with
  |true=>
   have b1:=apG ih' (o:=o) (f:=g) (p:=.top) rfl (b:=b) hl hat (by omega) (by omega);have b2:=abZ .top ks;simp only[Ps.top] at b1 b2;have e1:((ks.length:Int)==1)=false:=by rw[Nat.blt_eq] at hm;rw[Nw];omega
   have hs:sizes [GK [40],YH ⟨1,false,false,false,false⟩ ks,GK ([41,32,105,110,32]++x)]<=90000000:=by simp only[sizes,vM];omega
   rw[KU hp (.inr ⟨rfl,hm,by simp[lvl]⟩) (λj=>by simp[nC])];simp(disch:=omega) only[lJ,M.fZ,hr,ah,NP,Oo,Oq,Ot,MN,M.dL,M.dw,Int.reduceBEq,Int.reduceBNe,bW,dP,hel,e1,AA,Nu.2,b1,fz3,Ls _ hs,Gt,Jm];simp[Ru,hm,aiH,Ps.top]
  |false=>
   have h1:ks.length=1:=by
    have h2:=hc.some_ (by omega);have h3:¬1<ks.length:=by rw[<-Nat.blt_eq,hm];simp
    omega
   obtain⟨u',rfl⟩:=zlo.1 h1;obtain rfl:u'=u:=by simpa using hu
   rw[Om];have e1:(([u'].length:Int)==1)=true:=rfl;generalize (dZ 13 op [u'].length 0 p).yE=q0 at a2 a3;generalize Jb 13 op [u'].length p 0 u'=K0 at a3 a4⊢;have hs:sizes [K0,GK ([32,105,110,32]++x)]<=90000000:=by simp only[sizes,vM];omega
   simp(disch:=omega) only[lJ,M.fZ,hr,ah,NP,Oo,Oq,Ot,MN,M.dL,M.dw,Int.reduceBEq,Int.reduceBNe,bW,dP,hel,e1,a1,a2,a3,LQ,AA,fz2,Ls _ hs,Gt,Jm];rfl
 ·obtain⟨u,v,rfl⟩:=Ql (hc.two (by omega));have hsv:=sz2 u v;have hI:I64 op:=by rcases hc.asg rfl with rfl|h<;>constructor<;>omega
  have hsl:=GN op;have a1:=KF (ks:=[u,v]) (b:=b) (j:=0) (u:=u) rfl;obtain⟨t1,t2,t3⟩:=tgt (u:=u) rfl (by simp[cls]);have a3:=ab9 (ih' u (by simp)) t1 t2 t3 (o:=o) (f:=g) (p:=dZ 15 op [u,v].length 0 p) hl (hat 0 u rfl) (by omega) (sN hp (by simp) (by simp[lvl]));have a4:=Gq u (dZ 15 op [u,v].length 0 p);obtain⟨⟨b1,b2,b3⟩,b4⟩:=WJ ih' (o:=o) (f:=g) (b:=b) (k:=15) (op:=op) (x:=x) (y:=y) (p:=p) (j:=1) (u:=v) (by omega) hc hp hl hat (by omega) (by omega) rfl rfl;rw[rE] at a1;rw[WA] at b1 b2;rw[afb]
  conv=>rhs;rw[Jb,show nC 15 0=true from rfl,Bool.true_or,bW]
  generalize nD u (dZ 15 op [u,v].length 0 p)=K0 at a3 a4⊢;generalize (dZ 15 op [u,v].length 1 p).yE=q1 at b2 b3;generalize Jb 15 op [u,v].length p 1 v=K1 at b3 b4⊢;have hs3:sizes [K0,GK ([32]++spell op++[32]),K1]<=90000000:=by simp only[sizes,vM];omega
  simp(disch:=omega) only[lJ,M.fZ,hr,ah,NP,Oo,Oq,Ot,MN,M.dL,M.dw,Int.reduceBEq,Int.reduceBNe,bW,dP,a1,a3,b1,b2,b3,(lM op hI).1,LQ,vS,vX,EN,AA,fz3,Ls _ hs3,Gt,Jm];simp[Ru,Gp]
 ·have a1:=aIG ih' (o:=o) (f:=g) (b:=b) (op:=op) (x:=x) (y:=y) (p:=p) hc hp hl hat (by omega) (by omega) (adP op (iW 12 op ks.length p ks 0));simp only[lJ,M.fZ,hr,ah,NP,Oo,Oq,Ot,MN,M.dL,M.dw,Int.reduceBEq,Int.reduceBNe,bW,dP,a1]
 ·obtain⟨u,v,z,rfl⟩:=Wy (hc.three rfl);have hsz3:=sz3 u v z;obtain⟨⟨a1,a2,a3⟩,a4⟩:=WJ ih' (o:=o) (f:=g) (b:=b) (k:=14) (op:=op) (x:=x) (y:=y) (p:=p) (j:=0) (u:=u) (by omega) hc hp hl hat (by omega) (by omega) rfl (RN 14 (by omega) 0);obtain⟨⟨b1,b2,b3⟩,b4⟩:=WJ ih' (o:=o) (f:=g) (b:=b) (k:=14) (op:=op) (x:=x) (y:=y) (p:=p) (j:=1) (u:=v) (by omega) hc hp hl hat (by omega) (by omega) rfl (RN 14 (by omega) 1);obtain⟨⟨c1,c2,c3⟩,c4⟩:=WJ ih' (o:=o) (f:=g) (b:=b) (k:=14) (op:=op) (x:=x) (y:=y) (p:=p) (j:=2) (u:=z) (by omega) hc hp hl hat (by omega) (by omega) rfl (RN 14 (by omega) 2);rw[rE] at a1 a2;rw[WA] at b1 b2;rw[arn] at c1 c2;rw[apC];generalize (dZ 14 op [u,v,z].length 0 p).yE=q0 at a2 a3;generalize Jb 14 op [u,v,z].length p 0 u=K0 at a3 a4⊢;generalize (dZ 14 op [u,v,z].length 1 p).yE=q1 at b2 b3;generalize Jb 14 op [u,v,z].length p 1 v=K1 at b3 b4⊢;generalize (dZ 14 op [u,v,z].length 2 p).yE=q2 at c2 c3;generalize Jb 14 op [u,v,z].length p 2 z=K2 at c3 c4⊢;have hs:sizes [K0,GK [32,63,32],K1,GK [32,58,32],K2]<=90000000:=by simp only[sizes,vM];omega
  simp only[lJ,M.fZ,hr,ah,NP,Oo,Oq,Ot,MN,M.dL,M.dw,Int.reduceBEq,Int.reduceBNe,bW,dP,a1,a2,a3,b1,b2,b3,c1,c2,c3,LQ,AA,fz5,Ls _ hs,Gt];rfl
section
variable {o:Bool} {l:List Nd} {b:Nat} (hl:l.length<=1048576)
include hl
theorem aQ6{u:Tn}(h:Ex' u)(hh:Lies l b u){p:Ps}(hp:kZ p=true):M.l9 (fU o l) false ((b+sizes u.kids:Nat):Int) p.level p.kV p.qh p.qj p.kE=some (dE (Ez u p)):=
 M.acD (awk (ajM u h.ok h.e h.sm h.sz) (f:=5 * u.size+1) hl hh (Nat.le_refl _) hp)
end
end Go.Proofs.YtbpldgeajbfgnaaGreatDoor
