import Derived.Test.YtajjpadmdmehmaaGreatDoorXTok2
set_option linter.defProp false
namespace Go.Proofs.YtajjpadmdmehmaaGreatDoor
set_option linter.unusedVariables false
set_option linter.unusedSimpArgs false
open Go Go.Vm
open Go.IntKind (i64)
def U0(k op:Int)(n:Nat)(p:Ps)(u:Tn):jM k op n p [u] 0=[wI k op n p 0 u]:=by rw[jM,jM];rfl
def aau(k op:Int)(n:Nat)(p:Ps)(u v:Tn):jM k op n p [u,v] 0=[wI k op n p 0 u,wI k op n p 1 v]:=by rw[jM,jM,jM];rfl
def az9(k op:Int)(n:Nat)(p:Ps)(u v z:Tn):jM k op n p [u,v,z] 0=[wI k op n p 0 u,wI k op n p 1 v,wI k op n p 2 z]:=by rw[jM,jM,jM,jM];rfl
def sz1(u:Tn):sizes [u]=u.size:=by simp[sizes]
def sz2(u v:Tn):sizes [u,v]=u.size+v.size:=by simp[sizes]
def sz3(u v z:Tn):sizes [u,v,z]=u.size+(v.size+z.size):=by simp[sizes]
def Py{α:Type}{l:List α}(h:l.length=2):∃a b,l=[a,b]:=by
 match l,h with
 |[a,b],_=>exact⟨a,b,rfl⟩
def Yp{α:Type}{l:List α}(h:l.length=3):∃a b c,l=[a,b,c]:=by
 match l,h with
 |[a,b,c],_=>exact⟨a,b,c,rfl⟩
def ahk{op:Int}(h:AL op≠0):I64 op:=by
 by_cases hr:0<=op/\op<=99
 ·constructor<;>omega
 ·exfalso;apply h;have e:∀z:Int,0<=z->z<=99->(op==z)=false:=λz h1 h2=>by rw[KL];omega
  simp only[AL,e 44 (by decide) (by decide),e 45 (by decide) (by decide),e 67 (by decide) (by decide),e 46 (by decide) (by decide),e 63 (by decide) (by decide),e 48 (by decide) (by decide),e 47 (by decide) (by decide),e 50 (by decide) (by decide),e 62 (by decide) (by decide),e 49 (by decide) (by decide),e 99 (by decide) (by decide),e 55 (by decide) (by decide),e 56 (by decide) (by decide),e 57 (by decide) (by decide),e 58 (by decide) (by decide),e 59 (by decide) (by decide),e 60 (by decide) (by decide),Bool.or_false,bn]
def Y7:((1:Nat):Int)=1:=rfl
def awt:((2:Nat):Int)=2:=rfl
section
variable {k op:Int} {x y:aC} {ks:List Tn} (ih:∀u,u∈ks->PT u)
include ih
theorem aIM{w:Bool}{f:Nat}{p:Ps}{toks:List Tk}{sp:au}(hc:Cnt k op y ks.length)(hk:k=6\/k=9\/k=10\/k=11\/k=12\/k=13\/k=14\/k=15)(hf:5 * sizes ks+4<=f)(hp:nV p=true)(hs:aA sp=true)(ht:toks.length+16 * sizes ks+3<=900000000)(hl:sp.length+sizes ks<=900000000)(hu:sizes ks<=1048575):
  Wr toks sp (sizes ks) (JL k op ks.length x (jM k op ks.length p ks 0)) (M.ru f k op x y (fG w ks) p.level p.nN p.tZ p.uf p.lY (iP toks) sp false):=by
 obtain⟨g,rfl⟩:∃g,f=g+1:=⟨f - 1,ak⟩
 have hlv:lvl k op≠0:=by have:=Xi (y:=y) (n:=ks.length) (k:=k) (op:=op) ak hc;omega
 rw[M.X7];rcases hk with rfl|rfl|rfl|rfl|rfl|rfl|rfl|rfl
 ·obtain⟨u,rfl⟩:=zlo.1 (hc.one ak);rw[sz1] at *;have e1:=(nD 68 (by constructor<;>decide)).1;have p1:=NG [tok 68] toks sp false hs (by simp;omega);obtain⟨sp1,a1,a2,a3⟩:=UJ ih (w:=w) (f:=g) (p:=p) (toks:=toks++[tok 68]) (sp:=sp) (x:=x) (y:=y) (op:=op) (k:=6) (j:=0) (u:=u) rfl ak hp hlv hs (by simp only[qK,nS,uM,Nat.zero_add] at *;omega) hl (by rw[sz1];exact hu);rw[oQ] at a1;simp only[M.dP,M.dZ,M.dR,Int.reduceBEq,aK,bn,e1,ah,yT,dF,hs,p1,a1,a2];refine⟨sp1, ?_,a2,a3⟩;rw[U0];simp[JL,Dl]
 ·obtain⟨u,rfl⟩:=zlo.1 (hc.one ak);rw[sz1] at *;have e1:=(nD op (by rcases hc.stp ak with rfl|rfl<;>constructor<;>decide)).1;have p1:=NG [tok op] toks sp false hs (by simp;omega);obtain⟨sp1,a1,a2,a3⟩:=UJ ih (w:=w) (f:=g) (p:=p) (toks:=toks++[tok op]) (sp:=sp) (x:=x) (y:=y) (op:=op) (k:=9) (j:=0) (u:=u) rfl ak hp hlv hs (by simp only[qK,nS,uM,Nat.zero_add] at *;omega) hl (by rw[sz1];exact hu);rw[oQ] at a1;simp only[M.dP,M.dZ,M.dR,Int.reduceBEq,aK,bn,e1,ah,yT,dF,hs,p1,a1,a2];refine⟨sp1, ?_,a2,a3⟩;rw[U0];simp[JL,Dl]
 ·obtain⟨u,rfl⟩:=zlo.1 (hc.one ak);rw[sz1] at *;have hb:=RH (k:=10) (op:=op) (n:=[u].length) (p:=p) (j:=0) (rH u);have e1:=(nD op (by rcases hc.stp ak with rfl|rfl<;>constructor<;>decide)).1;obtain⟨sp1,a1,a2,a3⟩:=UJ ih (w:=w) (f:=g) (p:=p) (toks:=toks) (sp:=sp) (x:=x) (y:=y) (op:=op) (k:=10) (j:=0) (u:=u) rfl ak hp hlv hs ak hl (by rw[sz1];exact hu);rw[oQ] at a1;have p1:=NG [tok op] (toks++wI 10 op [u].length p 0 u) sp1 false a2 (by simp only[qK,nS,uM,Nat.zero_add] at *;omega);simp only[M.dP,M.dZ,M.dR,Int.reduceBEq,aK,bn,e1,ah,yT,dF,hs,p1,a1,a2];refine⟨sp1, ?_,a2,a3⟩;rw[U0];simp[JL,Dl]
 ·obtain⟨u,rfl⟩:=zlo.1 (hc.one ak);rw[sz1] at *;have e1:=(nD op (by rcases hc.una ak with rfl|rfl|rfl<;>constructor<;>decide)).1;have p1:=NG [tok op] toks sp false hs (by simp;omega);obtain⟨sp1,a1,a2,a3⟩:=UJ ih (w:=w) (f:=g) (p:=p) (toks:=toks++[tok op]) (sp:=sp) (x:=x) (y:=y) (op:=op) (k:=11) (j:=0) (u:=u) rfl ak hp hlv hs (by simp only[qK,nS,uM,Nat.zero_add] at *;omega) hl (by rw[sz1];exact hu);rw[oQ] at a1;simp only[M.dP,M.dZ,M.dR,Int.reduceBEq,aK,bn,e1,ah,yT,dF,hs,p1,a1,a2];refine⟨sp1, ?_,a2,a3⟩;rw[U0];simp[JL,Dl]
 ·obtain⟨u,v,rfl⟩:=Py (hc.two ak);rw[sz2] at *;have hb:=RH (k:=12) (op:=op) (n:=[u,v].length) (p:=p) (j:=0) (rH u);obtain⟨sp1,a1,a2,a3⟩:=UJ ih (w:=w) (f:=g) (p:=p) (toks:=toks) (sp:=sp) (x:=x) (y:=y) (op:=op) (k:=12) (j:=0) (u:=u) rfl ak hp hlv hs ak ak (by rw[sz2];exact hu);rw[oQ] at a1
  by_cases h99:op=99
  ·have e99:(op !=99)=false:=by simp[h99]
   obtain⟨sp2,b1,b2,b3⟩:=UJ ih (w:=w) (f:=g) (p:=p) (toks:=toks++wI 12 op [u,v].length p 0 u) (sp:=sp1) (x:=x) (y:=y) (op:=op) (k:=12) (j:=1) (u:=v) rfl ak hp hlv a2 (by simp only[qK,nS,uM,Nat.zero_add] at *;omega) ak (by rw[sz2];exact hu);rw[Y7] at b1;simp only[M.dP,M.dZ,M.dR,Int.reduceBEq,aK,bn,e99,ah,yT,dF,hs,a1,a2,b1,b2];refine⟨sp2, ?_,b2,ak⟩;rw[aau];simp[JL,Dl,h99]
  ·have e99:(op !=99)=true:=by simpa using h99
   have e98:(op==99)=false:=by simpa using h99
   have e1:=(nD op (ahk (hc.bin rfl).1)).1;have p1:=NG [tok op] (toks++wI 12 op [u,v].length p 0 u) sp1 false a2 (by simp only[qK,nS,uM,Nat.zero_add] at *;omega);obtain⟨sp2,b1,b2,b3⟩:=UJ ih (w:=w) (f:=g) (p:=p) (toks:=toks++wI 12 op [u,v].length p 0 u++[tok op]) (sp:=sp1) (x:=x) (y:=y) (op:=op) (k:=12) (j:=1) (u:=v) rfl ak hp hlv a2 (by simp only[qK,nS,uM,Nat.zero_add] at *;omega) ak (by rw[sz2];exact hu);rw[Y7] at b1;simp only[M.dP,M.dZ,M.dR,Int.reduceBEq,aK,bn,e99,e1,p1,ah,yT,dF,hs,a1,a2,b1,b2];refine⟨sp2, ?_,b2,ak⟩;rw[aau];simp[JL,Dl,e98]
 ·have e1:=(nD 24 (by constructor<;>decide)).1;have hr:∀z:aC,([[D.int .i64 24,D.str (spell 24),D.int .i64 0],[D.int .i64 6,D.str z,D.int .i64 0]]:au)=iP [tok 24,⟨6,z,0⟩]:=λz=>rfl
  cases hm:Nat.blt 1 ks.length with
  |true=>
   obtain⟨sp1,a1,a2,a3⟩:=an1 ih (w:=w) (f:=g) (p:=p) (toks:=toks) (sp:=sp) (x:=x) (y:=y) (op:=op) (k:=13) (open':=32) (shut:=33) (by constructor<;>decide) (by constructor<;>decide) ak hp hlv hs ak hl hu;have hlen:(IZ true (jM 13 op ks.length p ks 0)).length<=9 * sizes ks:=by
    have h1:=aat (jM 13 op ks.length p ks 0) true;have h2:=aaT (k:=13) (op:=op) (n:=ks.length) (p:=p) (ts:=ks) (j:=0) λu _=>rH u
    rw[MR] at h1;omega
   have p1:=NG [tok 24,⟨6,x,0⟩] (toks++tok 32::(IZ true (jM 13 op ks.length p ks 0)++[tok 33])) sp1 false a2 (by simp only[qK,nS,uM,Nat.zero_add] at *;omega);simp only[M.dP,M.dZ,M.dR,Int.reduceBEq,aK,bn,gW,many,hm,e1,p1,ah,hr,dF,hs,a1,a2];refine⟨sp1, ?_,a2,a3⟩;simp[JL,hm]
  |false=>
   have h1:ks.length=1:=by
    have h2:=hc.some_ ak;have h3:¬1<ks.length:=by rw[<-Nat.blt_eq,hm];simp
    omega
   obtain⟨u,rfl⟩:=zlo.1 h1;rw[sz1] at *;have hb:=RH (k:=13) (op:=op) (n:=[u].length) (p:=p) (j:=0) (rH u);obtain⟨sp1,a1,a2,a3⟩:=UJ ih (w:=w) (f:=g) (p:=p) (toks:=toks) (sp:=sp) (x:=x) (y:=y) (op:=op) (k:=13) (j:=0) (u:=u) rfl ak hp hlv hs ak hl (by rw[sz1];exact hu);rw[oQ] at a1;have p1:=NG [tok 24,⟨6,x,0⟩] (toks++wI 13 op [u].length p 0 u) sp1 false a2 (by simp only[qK,nS,uM,Nat.zero_add] at *;omega);simp only[M.dP,M.dZ,M.dR,Int.reduceBEq,aK,bn,gW,many,hm,e1,p1,ah,hr,dF,hs,a1,a2];refine⟨sp1, ?_,a2,a3⟩;rw[U0];simp[JL,Dl,show Nat.blt 1 1=false from rfl]
 ·obtain⟨u,v,z,rfl⟩:=Yp (hc.three rfl);rw[sz3] at *;have hb:=RH (k:=14) (op:=op) (n:=[u,v,z].length) (p:=p) (j:=0) (rH u);have hb2:=RH (k:=14) (op:=op) (n:=[u,v,z].length) (p:=p) (j:=1) (rH v);have e1:=(nD 65 (by constructor<;>decide)).1;have e2:=(nD 66 (by constructor<;>decide)).1;obtain⟨sp1,a1,a2,a3⟩:=UJ ih (w:=w) (f:=g) (p:=p) (toks:=toks) (sp:=sp) (x:=x) (y:=y) (op:=op) (k:=14) (j:=0) (u:=u) rfl ak hp hlv hs ak ak (by rw[sz3];exact hu);rw[oQ] at a1;have p1:=NG [tok 65] (toks++wI 14 op [u,v,z].length p 0 u) sp1 false a2 (by simp only[qK,nS,uM,Nat.zero_add] at *;omega);obtain⟨sp2,b1,b2,b3⟩:=UJ ih (w:=w) (f:=g) (p:=p) (toks:=toks++wI 14 op [u,v,z].length p 0 u++[tok 65]) (sp:=sp1) (x:=x) (y:=y) (op:=op) (k:=14) (j:=1) (u:=v) rfl ak hp hlv a2 (by simp only[qK,nS,uM,Nat.zero_add] at *;omega) ak (by rw[sz3];exact hu);rw[Y7] at b1;have p2:=NG [tok 66] (toks++wI 14 op [u,v,z].length p 0 u++[tok 65]++wI 14 op [u,v,z].length p 1 v) sp2 false b2 (by simp only[qK,nS,uM,Nat.zero_add] at *;omega);obtain⟨sp3,c1,c2,c3⟩:=UJ ih (w:=w) (f:=g) (p:=p) (toks:=toks++wI 14 op [u,v,z].length p 0 u++[tok 65]++wI 14 op [u,v,z].length p 1 v++[tok 66]) (sp:=sp2) (x:=x) (y:=y) (op:=op) (k:=14) (j:=2) (u:=z) rfl ak hp hlv b2 (by simp only[qK,nS,uM,Nat.zero_add] at *;omega) ak (by rw[sz3];exact hu);rw[awt] at c1;simp only[M.dP,M.dZ,M.dR,Int.reduceBEq,aK,bn,e1,e2,p1,p2,ah,yT,dF,hs,a1,a2,b1,b2,c1,c2];refine⟨sp3, ?_,c2,ak⟩;rw[az9];simp[JL,Dl]
 ·obtain⟨u,v,rfl⟩:=Py (hc.two ak);rw[sz2] at *;have hb:=RH (k:=15) (op:=op) (n:=[u,v].length) (p:=p) (j:=0) (rH u);obtain⟨sp1,a1,a2,a3⟩:=UJ ih (w:=w) (f:=g) (p:=p) (toks:=toks) (sp:=sp) (x:=x) (y:=y) (op:=op) (k:=15) (j:=0) (u:=u) rfl ak hp hlv hs ak ak (by rw[sz2];exact hu);rw[oQ] at a1
  by_cases h99:op=99
  ·have e99:(op !=99)=false:=by simp[h99]
   obtain⟨sp2,b1,b2,b3⟩:=UJ ih (w:=w) (f:=g) (p:=p) (toks:=toks++wI 15 op [u,v].length p 0 u) (sp:=sp1) (x:=x) (y:=y) (op:=op) (k:=15) (j:=1) (u:=v) rfl ak hp hlv a2 (by simp only[qK,nS,uM,Nat.zero_add] at *;omega) ak (by rw[sz2];exact hu);rw[Y7] at b1;simp only[M.dP,M.dZ,M.dR,Int.reduceBEq,aK,bn,e99,ah,yT,dF,hs,a1,a2,b1,b2];refine⟨sp2, ?_,b2,ak⟩;rw[aau];simp[JL,Dl,h99]
  ·have e99:(op !=99)=true:=by simpa using h99
   have e98:(op==99)=false:=by simpa using h99
   have e1:=(nD op (by rcases hc.asg rfl with rfl|h<;>constructor<;>omega)).1;have p1:=NG [tok op] (toks++wI 15 op [u,v].length p 0 u) sp1 false a2 (by simp only[qK,nS,uM,Nat.zero_add] at *;omega);obtain⟨sp2,b1,b2,b3⟩:=UJ ih (w:=w) (f:=g) (p:=p) (toks:=toks++wI 15 op [u,v].length p 0 u++[tok op]) (sp:=sp1) (x:=x) (y:=y) (op:=op) (k:=15) (j:=1) (u:=v) rfl ak hp hlv a2 (by simp only[qK,nS,uM,Nat.zero_add] at *;omega) ak (by rw[sz2];exact hu);rw[Y7] at b1;simp only[M.dP,M.dZ,M.dR,Int.reduceBEq,aK,bn,e99,e1,p1,ah,yT,dF,hs,a1,a2,b1,b2];refine⟨sp2, ?_,b2,ak⟩;rw[aau];simp[JL,Dl,e98]
end
def auU(sp:au)(a b:Int)(hs:aA sp=true):aA (sp++[[D.int .i64 a,D.int .i64 b]])=true:=by simp only[aA,List.all_append,MS] at hs|-;exact⟨hs,rfl⟩
def aIN(t:Tn):I8 t->Zv t->PT t:=by
 refine Tn.ind (P:=λt=>I8 t->Zv t->PT t) ?_ t;intro k op x y ks ih hok he w f p toks sp hf hp hs ht hl hu;have hc:=SX hok;have ih':∀u,u∈ks->PT u:=λu hm=>by obtain⟨i,hi⟩:=List.mem_iff_getElem?.1 hm;obtain⟨h1,h2⟩:=adQ hok he hi;exact ih u hm h2 h1
 have he':1<=k/\k<=15:=he;have hlv:lvl k op≠0:=by have:=Xi he' hc;omega
 rw[Tn.size] at hf ht hl hu|-;obtain⟨g,rfl⟩:∃g,f=g+1:=⟨f - 1,ak⟩
 simp only[Tn.kind,Tn.op,Tn.text,Tn.other,Tn.kids];rw[M.aa3,xP];have done:∀(out:List Tk) (sp':au) (c:Option zaI),aA sp'=true->sp'.length<=sp.length+sizes ks->c=some (iP (toks++out),sp'++[[D.int .i64 (toks.length:Int),D.int .i64 ((toks++out).length:Int)]],false)->Wr toks sp (sizes ks+1) out c:=by intro out sp' c h1 h2 h3;exact⟨_,h3,auU _ _ _ h1,by rw[qK,IU];omega⟩
 have leaf:∀(z:Int) (h:JL k op ks.length x (jM k op ks.length p ks 0)=([⟨z,x,0⟩]:List Tk)),Wr toks sp (sizes ks+1) (JL k op ks.length x (jM k op ks.length p ks 0)) (some (iP (toks++([⟨z,x,0⟩]:List Tk)),sp++[[D.int .i64 (toks.length:Int),D.int .i64 ((toks++([⟨z,x,0⟩]:List Tk)).length:Int)]],false)):=by intro z h;rw[h];exact done _ sp _ hs ak rfl
 have hrow:∀z:Int,([[D.int .i64 z,D.str x,D.int .i64 0]]:au)=iP [⟨z,x,0⟩]:=λz=>rfl
 have hput:∀z:Int,M.bT (iP [⟨z,x,0⟩]) (iP toks) sp false=some (iP (toks++[⟨z,x,0⟩]),sp,false):=λz=>NG [⟨z,x,0⟩] toks sp false hs (by simp;omega)
 have sps:∀(s:au) (a b:Int),aA s=true->aA (s++[[D.int .i64 a,D.int .i64 b]])=true:=auU;have hk:k=1\/k=2\/k=3\/k=4\/k=5\/k=7\/k=8\/(k=6\/k=9\/k=10\/k=11\/k=12\/k=13\/k=14\/k=15):=by omega
 rcases hk with rfl|rfl|rfl|rfl|rfl|rfl|rfl|hk
 ·simp only[M.iT,M.eP,Int.reduceBEq,aK,bn,hrow,hput,ah,dF,hs,eU,IU,sps sp _ _ hs];rw[aN ak,aK,aN ak,aK];exact leaf 6 rfl
 ·simp only[M.iT,M.eP,Int.reduceBEq,aK,bn,hrow,hput,ah,dF,hs,eU,IU,sps sp _ _ hs];rw[aN ak,aK,aN ak,aK];exact leaf 3 rfl
 ·simp only[M.iT,M.eP,Int.reduceBEq,aK,bn,hrow,hput,ah,dF,hs,eU,IU,sps sp _ _ hs];rw[aN ak,aK,aN ak,aK];exact leaf 4 rfl
 ·simp only[M.iT,M.eP,Int.reduceBEq,aK,bn,hrow,hput,ah,dF,hs,eU,IU,sps sp _ _ hs];rw[aN ak,aK,aN ak,aK];exact leaf 5 rfl
 ·obtain⟨sp1,a1,a2,a3⟩:=an1 ih' (w:=w) (f:=g) (p:=p) (toks:=toks++[⟨6,x,0⟩]) (sp:=sp) (x:=x) (y:=y) (op:=op) (k:=5) (open':=34) (shut:=35) (by constructor<;>decide) (by constructor<;>decide) ak hp hlv hs (by rw[qK,IU];omega) ak ak;simp only[M.iT,M.eP,Int.reduceBEq,aK,bn,hrow,hput,ah,dF,hs,a1,a2,eU,IU,sps sp1 _ _ a2];rw[aN ak,aK,aN ak,aK];have ha:JL 5 op ks.length x (jM 5 op ks.length p ks 0)=⟨6,x,0⟩::tok 34::(IZ true (jM 5 op ks.length p ks 0)++[tok 35]):=rfl;rw[ha];refine done _ sp1 _ a2 a3 ?_;simp
 ·obtain⟨sp1,a1,a2,a3⟩:=an1 ih' (w:=w) (f:=g) (p:=p) (toks:=toks++[⟨7,x,0⟩]) (sp:=sp) (x:=x) (y:=y) (op:=op) (k:=7) (open':=32) (shut:=33) (by constructor<;>decide) (by constructor<;>decide) ak hp hlv hs (by rw[qK,IU];omega) ak ak;simp only[M.iT,M.eP,Int.reduceBEq,aK,bn,hrow,hput,ah,dF,hs,a1,a2,eU,IU,sps sp1 _ _ a2];rw[aN ak,aK,aN ak,aK];have ha:JL 7 op ks.length x (jM 7 op ks.length p ks 0)=⟨7,x,0⟩::tok 32::(IZ true (jM 7 op ks.length p ks 0)++[tok 33]):=rfl;rw[ha];refine done _ sp1 _ a2 a3 ?_;simp
 ·obtain⟨sp1,a1,a2,a3⟩:=an1 ih' (w:=w) (f:=g) (p:=p) (toks:=toks++[⟨8,x,0⟩]) (sp:=sp) (x:=x) (y:=y) (op:=op) (k:=8) (open':=32) (shut:=33) (by constructor<;>decide) (by constructor<;>decide) ak hp hlv hs (by rw[qK,IU];omega) ak ak;simp only[M.iT,M.eP,Int.reduceBEq,aK,bn,hrow,hput,ah,dF,hs,a1,a2,eU,IU,sps sp1 _ _ a2];rw[aN ak,aK,aN ak,aK];have ha:JL 8 op ks.length x (jM 8 op ks.length p ks 0)=⟨8,x,0⟩::tok 32::(IZ true (jM 8 op ks.length p ks 0)++[tok 33]):=rfl;rw[ha];refine done _ sp1 _ a2 a3 ?_;simp
 ·obtain⟨sp1,a1,a2,a3⟩:=aIM ih' (w:=w) (f:=g) (p:=p) (toks:=toks) (sp:=sp) (x:=x) (y:=y) (op:=op) (k:=k) hc hk ak hp hs ak ak ak;have n1:(k==1)=false:=by rw[KL];omega
  have n2:(k==2)=false:=by rw[KL];omega
  have n3:(k==3)=false:=by rw[KL];omega
  have n4:(k==4)=false:=by rw[KL];omega
  have n5:(k==5)=false:=by rw[KL];omega
  have n7:(k==7)=false:=by rw[KL];omega
  have n8:(k==8)=false:=by rw[KL];omega
  simp only[M.iT,M.eP,n1,n2,n3,n4,n5,n7,n8,aK,bn,ah,dF,hs,a1,a2,eU,IU,sps sp1 _ _ a2];rw[aN ak,aK,aN ak,aK];exact done _ sp1 _ a2 a3 rfl
mutual
def WH:Tn->Prop
 | .mk _ _ x y ks=>(x.length<=1048576/\y.length<=1048576)/\WI ks
def WI:List Tn->Prop
 |[]=>True
 |t::ts=>WH t/\WI ts
end
mutual
def auV:∀(t:Tn) (b:Nat),WH t↔∀n,n∈t.flat b->Small n
 | .mk k o x y ks,b=>by
  rw[WH,arI ks b,Tn.flat];constructor
  ·rintro⟨⟨h1,h2⟩,h3⟩ n hn;rcases List.mem_append.1 hn with hn|hn
   ·exact h3 n hn
   ·simp only[List.mem_singleton] at hn;subst hn;exact⟨h1,h2⟩
  ·intro h;have h1:=h ⟨k,o,x,y,ends ks b⟩ (by simp);exact⟨⟨h1.text,h1.other⟩,λn hn=>h n (List.mem_append_left _ hn)⟩
def arI:∀(ks:List Tn) (b:Nat),WI ks↔∀n,n∈jF ks b->Small n
 |[],b=>by simp[WI,jF]
 |t::ts,b=>by
  rw[WI,auV t b,arI ts (b+t.size),jF];constructor
  ·rintro⟨h1,h2⟩ n hn;rcases List.mem_append.1 hn with hn|hn
   ·exact h1 n hn
   ·exact h2 n hn
  ·intro h;exact⟨λn hn=>h n (List.mem_append_left _ hn),λn hn=>h n (List.mem_append_right _ hn)⟩
end
def yU:∀{ks:List Tn} {u:Tn},WI ks->u∈ks->WH u
 |[],_,_,h=>by cases h
 |t::ts,u,h,hu=>by
  rw[WI] at h;rcases List.mem_cons.1 hu with rfl|hu
  ·exact h.1
  ·exact yU h.2 hu
def aav:∀{t:Tn},WH t->WI t.kids
 | .mk _ _ _ _ _,h=>by rw[WH] at h;exact h.2
def aFU(l:List (aC))(h:∀g,g∈l->g.length<=9)(i:Nat):(l[i]?.getD []).length<=9:=by
 cases hx:l[i]? with
 |none=>simp
 |some g=>exact h g (En hx)
def aX5:∀g,g∈aaj->g.length<=9:=by decide+kernel
def aX6:∀g,g∈Yd->g.length<=9:=by decide+kernel
def PN(k:Int):(spell k).length<=9:=by
 unfold spell;split
 ·simp
 ·split
  ·exact aFU _ aX5 _
  ·split
   ·exact aFU _ aX6 _
   ·simp
def Sm(l:List Tk):Prop:=∀t,t∈l->t.text.length<=1048576
def aaw:Sm []:=λt h=>by cases h
def xR{t:Tk}{l:List Tk}(h:t.text.length<=1048576)(hl:Sm l):Sm (t::l):=by
 intro u hu;rcases List.mem_cons.1 hu with rfl|hu
 ·exact h
 ·exact hl u hu
def SY{a b:List Tk}(ha:Sm a)(hb:Sm b):Sm (a++b):=by
 intro u hu;rcases List.mem_append.1 hu with hu|hu
 ·exact ha u hu
 ·exact hb u hu
def Pz(k:Int):(tok k).text.length<=1048576:=by have:=PN k;show(spell k).length<=1048576;omega
def KG{a b:List Tk}(c:Bool)(ha:Sm a)(hb:Sm b):Sm (bif c then a else b):=by cases c<;>assumption
def aAa:∀{L:List (List Tk)} (b:Bool),(∀l,l∈L->Sm l)->Sm (IZ b L)
 |[],b,_=>by rw[IZ];exact aaw
 |x::l,b,h=>by have h1:=h x zmf;rw[IZ];exact SY (KG _ h1 (xR (Pz _) h1)) (aAa false λl hl=>h l (zmm _ hl))
def aIO{L:List (List Tk)}(h:∀l,l∈L->Sm l)(j:Nat):Sm (Dl L j):=by
 unfold Dl;cases hx:L[j]? with
 |none=>exact aaw
 |some l=>exact h l (En hx)
def aIP{k op:Int}{n:Nat}{x:aC}{L:List (List Tk)}(hx:x.length<=1048576)(h:∀l,l∈L->Sm l):Sm (JL k op n x L):=by
 have t1:∀z:Int,Sm [⟨z,x,0⟩]:=λz=>xR hx aaw
 have t2:∀z:Int,Sm [tok z]:=λz=>xR (Pz z) aaw
 have n1:=aIO h;have c1:=aAa true h;unfold JL;refine KG _ (t1 _) (KG _ (t1 _) (KG _ (t1 _) (KG _ (t1 _) (KG _ ?_ (KG _ ?_ (KG _ ?_ (KG _ ?_ (KG _ ?_ (KG _ ?_ (KG _ ?_ (KG _ ?_ ?_)))))))))))
 ·exact xR hx (xR (Pz _) (SY c1 (t2 _)))
 ·exact xR hx (xR (Pz _) (SY c1 (t2 _)))
 ·exact xR hx (xR (Pz _) (SY c1 (t2 _)))
 ·exact xR (Pz _) (n1 _)
 ·exact xR (Pz _) (n1 _)
 ·exact SY (n1 _) (t2 _)
 ·exact SY (KG _ (xR (Pz _) (SY c1 (t2 _))) (n1 _)) (xR (Pz _) (xR hx aaw))
 ·exact SY (n1 _) (xR (Pz _) (SY (n1 _) (xR (Pz _) (n1 _))))
 ·exact SY (n1 _) (SY (KG _ aaw (t2 _)) (n1 _))
def auW{k op:Int}{n:Nat}{p:Ps}:∀{ts:List Tn} {j:Nat},(∀u,u∈ts->∀q,Sm (xP u q))->∀l,l∈jM k op n p ts j->Sm l
 |[],j,_,l,hl=>by rw[jM] at hl;cases hl
 |t::ts,j,h,l,hl=>by
  rw[jM] at hl;rcases List.mem_cons.1 hl with rfl|hl
  ·exact KG _ (h t zmf _) (xR (Pz _) (SY (h t zmf _) (xR (Pz _) aaw)))
  ·exact auW (λu hu=>h u (zmm _ hu)) l hl
def auX(t:Tn):WH t->∀p,Sm (xP t p):=by refine Tn.ind (P:=λt=>WH t->∀p,Sm (xP t p)) ?_ t;intro k op x y ks ih h p;rw[WH] at h;rw[xP];exact aIP h.1.1 (auW λu hu q=>ih u hu (yU h.2 hu) q)
def aAb{k op:Int}{n:Nat}{p:Ps}{j:Nat}{u:Tn}(h:WH u):Sm (wI k op n p j u):=
 KG _ (auX u h _) (xR (Pz _) (SY (auX u h _) (xR (Pz _) aaw)))
def aAc(t:Tn):I8 t->Zv t->∀p,xP t p≠[]:=by
 refine Tn.ind (P:=λt=>I8 t->Zv t->∀p,xP t p≠[]) ?_ t;intro k op x y ks ih hok he p;have hc:=SX hok;have he':=he;simp only[Zv,Tn.kind] at he';have ih':∀i u,ks[i]? =some u->∀q,xP u q≠[]:=λi u e q=>by obtain⟨h1,h2⟩:=adQ hok he' e;exact ih u (En e) h2 h1 q
 have kne:∀i u,ks[i]? =some u->wI k op ks.length p i u≠[]:=by
  intro i u e;unfold wI;cases(qL k i||fits u.kind u.op (dQ k op ks.length i p)) with
  |true=>exact ih' i u e _
  |false=>simp
 rw[xP];have hk:k=1\/k=2\/k=3\/k=4\/k=5\/k=7\/k=8\/k=6\/k=9\/k=10\/k=11\/k=13\/k=14\/(k=12\/k=15):=ak;rcases hk with rfl|rfl|rfl|rfl|rfl|rfl|rfl|rfl|rfl|rfl|rfl|rfl|rfl|hk
 iterate 13 simp[JL]
 obtain⟨u,v,rfl⟩:=Py (hc.two ak);have h0:wI k op 2 p 0 u≠[]:=kne 0 u rfl;rcases hk with rfl|rfl
 ·rw[aau];simp[JL,Dl,h0]
 ·rw[aau];simp[JL,Dl,h0]
def auY{k op:Int}{n:Nat}{p:Ps}{j:Nat}{u:Tn}(h1:I8 u)(h2:Zv u):wI k op n p j u≠[]:=by
 unfold wI;cases(qL k j||fits u.kind u.op (dQ k op n j p)) with
 |true=>exact aAc u h1 h2 _
 |false=>simp
def Hu(t:Tn):Int×Int×aC×au×Int:=(t.kind,t.op,t.text,oG false t.kids,0)
section
variable (t:Tn) (s:aC) (L:List Tn) (a b c d e f g h:Tn)
def MW:(Hu t).1=t.kind:=rfl
def MX:(Hu t).2.1=t.op:=rfl
def MZ:(Hu t).2.2.1=t.text:=rfl
def Nh:(Hu t).2.2.2.1=oG false t.kids:=rfl
def Nj:(Hu t).2.2.2.2=0:=rfl
def Nl:aG (oG false L)=oG false L:=ajN false L
def fO:([D.int .i64 t.kind,D.int .i64 t.op,D.str t.text,D.sl false 5 (oG false t.kids),D.int .i64 0]:Row)=Dq false t:=by cases t;rfl
def cZ:(t.kind,t.op,t.text,oG false t.kids,(0:Int))=Hu t:=rfl
def kR:M.aT s=some (Hu (mZ s)):=rfl
def aeY:M.EM=some (Hu Xh):=rfl
def arJ:M.dY (oG false L)=some (Hu (o9 L)):=rfl
def ak1:M.dY [Dq false a,Dq false b]=some (Hu (o9 [a,b])):=rfl
def ak2:M.dY [Dq false a,Dq false b,Dq false c]=some (Hu (o9 [a,b,c])):=rfl
def awu:M.dY [Dq false a,Dq false b,Dq false c,Dq false d]=some (Hu (o9 [a,b,c,d])):=rfl
def aX7:M.dY [Dq false a,Dq false b,Dq false c,Dq false d,Dq false e]=some (Hu (o9 [a,b,c,d,e])):=rfl
def ajO:M.zo t.kind t.op t.text (oG false t.kids) 0=some (Hu (Zm t)):=by cases t;rfl
def ahl:M.zJ t.kind t.op t.text (oG false t.kids) 0=some (Hu (arB t)):=by cases t;rfl
end
def Hw:∀a b:List Tn,oG false (a++b)=oG false a++oG false b:=λa b=>by simp[aaR]
def aeZ:∀(L:List Tn) (b:Bool) (x:Tn),UZ b (L++[x])=UZ b L++(bif L.isEmpty && b then[x] else[mZ [44],Xh,x])
 |[],b,x=>by cases b<;>simp[UZ]
 |y::L,b,x=>by rw[Yr,UZ,UZ,aeZ L false x];simp
def ajP:∀(L:List Tn) (b:Bool),(UZ b L).length<=3 * L.length
 |[],b=>by simp[UZ]
 |y::L,b=>by have:=ajP L false;cases b<;>simp only[UZ,aK,bn,qK,nS,uM]<;>omega
def psD(p:Ps)(ks:List Tn):List Tn:=ks.map λu=>Dn u p
def adU(p:Ps)(ks:List Tn):(psD p ks).length=ks.length:=by simp[psD]
def arK(p:Ps)(ks:List Tn):RX p ks=adP (psD p ks):=rfl
def ajQ{ks:List Tn}{p:Ps}{b:Int×au->Option ((Int×au)⊕(Int×au))}(hu:ks.length<=1048576)
  (hb:∀(j:Nat) u (L:List Tn),ks[j]? =some u->L.length<=4000000->b ((j:Int),oG false L)=some (.inl (((j+1:Nat):Int),oG false (L++(if j=0 then[Dn u p] else[mZ [44],Xh,Dn u p])))))
  (he:∀r,b ((ks.length:Int),r)=some (.inr ((ks.length:Int),r))):
  dM b (0,[])=some ((ks.length:Int),oG false (UZ true (psD p ks))):=by
 have:=iY (b:=b) (t:=((ks.length:Int),oG false (UZ true (psD p ks)))) (λj=>((j:Int),oG false (UZ true (psD p (ks.take j))))) ks.length
  (by
   intro j hj;obtain⟨u,hu'⟩:∃u,ks[j]? =some u:=⟨ks[j],by simp[hj]⟩
   have hl:=ajP (psD p (ks.take j)) true;rw[adU,XE] at hl;rw[hb j u _ hu' ak,gu hu'];have e:psD p (ks.take j++[u])=psD p (ks.take j)++[Dn u p]:=by simp[psD]
   rw[e,aeZ]
   by_cases h0:j=0
   ·subst h0;rfl
   ·have z:(psD p (ks.take j)).isEmpty=false:=by
     cases hq:psD p (ks.take j) with
     |nil=>have:=adU p (ks.take j);rw[hq,uM,XE] at this;omega
     |cons _ _=>rfl
    rw[if_neg h0,z,Bool.false_and,bn])
  (by rw[he,List.take_length]) 0 (Nat.zero_le _)
 exact this
def aAd{k op:Int}{x y:aC}{ks:List Tn}(w:Bool)(hu:sizes ks<=1048575):M.kP k op x y (fG w ks)=some (k,op,x,y,encI (iota ks.length)):=by
 have hkl:=jC ks;have hn:=ahj k op x y (fG w ks) (by rw[gW];omega)
 rwa [gW] at hn
def DT(u:Tn):Prop:=∀(w:Bool) (f:Nat) (p:Ps),5 * u.size<=f->nV p=true->
 M.FC f u.kind u.op u.text u.other (fG w u.kids) p.level p.nN p.tZ p.uf p.lY=some (Hu (qM u p))
def atw{u:Tn}(hD:DT u){w:Bool}{f:Nat}{p:Ps}(hf:5 * u.size+1<=f)(hp:nV p=true)(hu:u.size<=1048576):
  M.Ae f u.kind u.op u.text u.other (fG w u.kids) p.level p.nN p.tZ p.uf p.lY=some (Hu (Dn u p)):=by
 obtain⟨g,rfl⟩:∃g,f=g+1:=⟨f - 1,ak⟩
 have h1:=hD w g p ak hp;have h2:=hD w g .top ak rfl;simp only[Ps.top] at h2;rw[M.ai2];simp only[jI,M.Fz,ahj u.kind u.op u.text u.other _ (auT hu w),ah,(ahh u.kind u.op u.text u.other _ p).1,Dn];cases fits u.kind u.op p with
 |true=>simp only[aK,h1,ah,MW,MX,MZ,Nh,Nj,Nl,cZ]
 |false=>simp only[bn,kR,Ed.1,h2,ah,MW,MX,MZ,Nh,Nj,Nl,fO,ak2,cZ,Ps.top]
section
variable {k op:Int} {x y:aC} {ks:List Tn} (ih:∀u,u∈ks->DT u)
include ih
theorem aFV{w:Bool}{f:Nat}{p:Ps}{j:Nat}{u:Tn}(hj:ks[j]? =some u)(hf:5 * u.size+2<=f)(hp:nV p=true)(hlv:lvl k op≠0)(hu:sizes ks<=1048575):
  M.Eb f k op x y (fG w ks) (j:Int) p.level p.nN p.tZ p.uf p.lY=some (Hu (RD k op ks.length p j u)):=by
 obtain⟨g,rfl⟩:∃g,f=g+1:=⟨f - 1,ak⟩
 have hkl:=jC ks;have hju:=(PU.1 hj).1;have hus:=iO (En hj);have hg:=FP w hj;obtain⟨c0,c1,c2,c3,c4⟩:=kG w u;have hkp:=aas k op x y (encI (iota ks.length)) j p (by rw[aV,UH];omega);rw[aV,UH] at hkp;have hq:=xQ (n:=ks.length) (j:=j) hp hju hlv;have e1:=ih u (En hj);have h1:=e1 w g (dQ k op ks.length j p) ak hq;have h2:=atw e1 (w:=w) (f:=g) (p:=dQ k op ks.length j p) ak hq ak;rw[M.akX];simp only[jI,M.IJ,aAd w hu,ah,hg,c0,c1,c2,c3,c4,hkp,Ps.FQ,afW,RD];unfold Dn at h2;cases htg:qL k j with
 |true=>simp only[aK,Bool.true_or,h1,ah,MW,MX,MZ,Nh,Nj,Nl,cZ]
 |false=>simp only[bn,Bool.false_or,h2,ah,MW,MX,MZ,Nh,Nj,Nl,cZ]
theorem aAe{w:Bool}{f:Nat}(hf:5 * sizes ks+2<=f)(hu:sizes ks<=1048575):
  M.FB f (fG w ks)=some (Hu (RX .top ks)):=by
 obtain⟨g,rfl⟩:∃g,f=g+1:=⟨f - 1,ak⟩
 have hkl:=jC ks;rw[M.ai3];simp only[jI,M.Fv,M.OQ,gW];rw[ajQ (ks:=ks) (p:=.top) ak (λj u L hj hL=> ?_) (λr=> ?_)]
 ·simp only[ah,arJ,MW,MX,MZ,Nh,Nj,Nl,ajO,ahl,cZ];rfl
 ·have hjl:=(PU.1 hj).1;have hus:=iO (En hj);obtain⟨c0,c1,c2,c3,c4⟩:=kG w u;have h1:=atw (ih u (En hj)) (w:=w) (f:=g) (p:=.top) ak rfl ak;simp only[Ps.top] at h1;have hw:i64.wrap ((j:Int)+1)=((j+1:Nat):Int):=by rw[aB ak ak];omega
  simp only[jI,M.Q5,M.CW,FP w hj,c0,c1,c2,c3,c4,ah,kR,aeY,M.JZ,M.Vu,Ed.1,h1,MW,MX,MZ,Nh,Nj,Nl,fO,yS,qK,nS,uM,hw];rw[zdt ak,aK]
  by_cases h0:j=0
  ·subst h0;rw[pq ak,bn,aN ak,aK,aN ak,aK,if_pos rfl,Hw];rfl
  ·rw[zdt ak,aK,aN ak,aK,aN ak,aK,aN ak,aK,aN ak,aK,if_neg h0,Hw,NI];rfl
 ·simp only[jI,M.Q5,M.CW];rw[pq ak,bn]
end
def Dt{n:Nat}(h:n<=8000000):n.ble 9223372036854775807=true:=aN ak
def XD(k op:Int)(n:Nat)(p:Ps)(u:Tn):ug k op n p [u] 0=[RD k op n p 0 u]:=by rw[ug,ug];rfl
def an2(k op:Int)(n:Nat)(p:Ps)(u v:Tn):ug k op n p [u,v] 0=[RD k op n p 0 u,RD k op n p 1 v]:=by rw[ug,ug,ug];rfl
def aAf(k op:Int)(n:Nat)(p:Ps)(u v z:Tn):ug k op n p [u,v,z] 0=[RD k op n p 0 u,RD k op n p 1 v,RD k op n p 2 z]:=by rw[ug,ug,ug,ug];rfl
def ajR{k op:Int}{n:Nat}{p:Ps}(ht:∀j,qL k j=false)(hq:∀j,j<n->dQ k op n j p=.top):∀(ts:List Tn) (j:Nat),j+ts.length=n->ug k op n p ts j=psD .top ts
 |[],j,_=>by rw[ug];rfl
 |t::ts,j,hj=>by rw[nS] at hj;rw[ug,hq j ak,ht j,ajR ht hq ts (j+1) ak,Bool.false_or];rfl
def UK{k op:Int}{ks:List Tn}{p:Ps}(hp:nV p=true)(h:(lvl k op=15)\/(k=13/\Nat.blt 1 ks.length=true/\lvl k op≠0))(ht:∀j,qL k j=false):ug k op ks.length p ks 0=psD .top ks:=by
 refine ajR ht (λj hj=> ?_) ks 0 ak;rcases h with h|⟨h1,h2,h3⟩
 ·exact KF hp hj h
 ·have hb:Nat.blt j ks.length=true:=by rw[Nat.blt_eq];exact hj
  have h4:(lvl k op==0)=false:=by simpa using h3
  subst h1;unfold dQ;rw[hp,hb,h4,h2];simp
def aEd{op:Int}{x y:aC}{u:Tn}(hD:DT u)(hT:PT u)(hok:I8 u)(he:Zv u)(hs:WH u){w:Bool}{f:Nat}{p:Ps}(hc:Cnt 11 op y 1)(hf:5 * u.size+3<=f)(hp:nV p=true)(hu:u.size<=1048575):
  M.Ii f 11 op x y (fG w [u]) p.level p.nN p.tZ p.uf p.lY=some (Hu (qM (.mk 11 op x y [u]) p)):=by
 obtain⟨g,rfl⟩:∃g,f=g+1:=⟨f - 1,ak⟩
 have ihD:∀v,v∈[u]->DT v:=by intro v hv;rw[List.mem_singleton.1 hv];exact hD
 have ihT:∀v,v∈[u]->PT v:=by intro v hv;rw[List.mem_singleton.1 hv];exact hT
 have hs1:=sz1 u;have hlv:lvl 11 op≠0:=by simp[lvl]
 have hI:I64 op:=by rcases hc.una rfl with rfl|rfl|rfl<;>constructor<;>decide
 have h1:=aFV ihD (w:=w) (f:=g) (p:=p) (x:=x) (y:=y) (k:=11) (op:=op) (j:=0) (u:=u) rfl ak hp hlv ak;obtain⟨sp,h2,h3,h4⟩:=UJ ihT (w:=w) (f:=5 * u.size+2) (p:=p) (toks:=[]) (sp:=[]) (x:=x) (y:=y) (op:=op) (k:=11) (j:=0) (u:=u) rfl ak hp hlv rfl (by simp only[uM];omega) (by simp only[uM];omega) ak;have h2':=M.aa5 h2;rw[oQ] at h1 h2';have e0:iP []=[]:=rfl;rw[e0,List.nil_append] at h2';rw[qM,XD,U0,M.agD];have hne:=auY (k:=11) (op:=op) (n:=[u].length) (p:=p) (j:=0) hok he;have hsm:=aAb (k:=11) (op:=op) (n:=[u].length) (p:=p) (j:=0) hs;generalize wI 11 op [u].length p 0 u=K at *;cases K with
 |nil=>exact absurd rfl hne
 |cons b K=>have hsl:=PN op;have hg:M.wB op (spell op) 0 b.kind b.text b.at_=some (KC (tok op) b):=aeW (tok op) b (by show(spell op).length<=_;omega) (by have:=hsm b zmf;omega);have i0:idx (iP (b::K)) 0=some (ach b):=rfl;have i1:(iP (b::K))[0]? =some (ach b):=rfl;simp(disch:=omega) only[M.Ba,M.L9,h2',ah,(nM op hI).2,(nD op hI).1,i0,i1,cT0,cT1,cT2,hg,h1,kR,MW,MX,MZ,Nh,Nj,Nl,fO,ak1,cZ,Dt];have ha:aao 11 op [u].length x (amd op [b::K]) [RD 11 op [u].length p 0 u]=o9 [mZ (bif KC (tok op) b then spell op++[32] else spell op),RD 11 op [u].length p 0 u]:=rfl;rw[ha];cases KC (tok op) b<;>rfl
set_option maxHeartbeats 2000000 in
def aAg(t:Tn):I8 t->Zv t->WH t->t.size<=1048576->DT t:=by
 refine Tn.ind (P:=λt=>I8 t->Zv t->WH t->t.size<=1048576->DT t) ?_ t;intro k op x y ks ih hok he hsm hsz;intro w f p hf hp;have hc:=SX hok;have he':=he;simp only[Zv,Tn.kind] at he';rw[WH] at hsm;obtain⟨⟨hx,hy⟩,hss⟩:=hsm;rw[Tn.size] at hsz hf;have hkE:∀u,u∈ks->I8 u/\Zv u/\WH u:=by intro u hu;obtain⟨i,hi⟩:=List.mem_iff_getElem?.1 hu;obtain⟨h1,h2⟩:=adQ hok he' hi;exact⟨h2,h1,yU hss hu⟩
 have ih':∀u,u∈ks->DT u:=by intro u hu;obtain⟨h1,h2,h3⟩:=hkE u hu;have:=iO hu;exact ih u hu h1 h2 h3 ak
 obtain⟨g,rfl⟩:∃g,f=g+1:=⟨f - 1,ak⟩
 have hlv:lvl k op≠0:=by have:=Xi he' hc;omega
 have hL:=aAe ih' (w:=w) (f:=g) ak ak;have hK:∀(j:Nat) u,ks[j]? =some u->M.Eb g k op x y (fG w ks) (j:Int) p.level p.nN p.tZ p.uf p.lY=some (Hu (RD k op ks.length p j u)):=by intro j u hj;have:=iO (En hj);exact aFV ih' (w:=w) (f:=g) (p:=p) (x:=x) (y:=y) (k:=k) (op:=op) hj ak hp hlv ak
 simp only[Tn.kind,Tn.op,Tn.text,Tn.other,Tn.kids];rw[M.ai4];have hk:k=1\/k=2\/k=3\/k=4\/k=5\/k=7\/k=8\/k=9\/k=10\/k=6\/k=11\/k=14\/k=13\/k=12\/k=15:=ak;rcases hk with rfl|rfl|rfl|rfl|rfl|rfl|rfl|rfl|rfl|rfl|rfl|rfl|rfl|rfl|rfl
 ·simp only[jI,M.fH,M.eu,M.eF,M.dG,Int.reduceBEq,aK,bn,kR,ah,MW,MX,MZ,Nh,Nj,Nl,cZ];rfl
 ·simp only[jI,M.fH,M.eu,M.eF,M.dG,Int.reduceBEq,aK,bn,kR,ah,MW,MX,MZ,Nh,Nj,Nl,cZ];rfl
 ·simp only[jI,M.fH,M.eu,M.eF,M.dG,Int.reduceBEq,aK,bn,kR,ah,MW,MX,MZ,Nh,Nj,Nl,cZ];rfl
 ·simp only[jI,M.fH,M.eu,M.eF,M.dG,Int.reduceBEq,aK,bn,kR,ah,MW,MX,MZ,Nh,Nj,Nl,cZ];rfl
 ·simp(disch:=omega) only[jI,M.fH,M.eu,M.eF,M.dG,Int.reduceBEq,aK,bn,kR,ah,hL,MW,MX,MZ,Nh,Nj,Nl,fO,ak2,cZ,Dt];rw[qM,UK hp (.inl rfl) (λj=>by simp[qL])];rfl
 ·simp(disch:=omega) only[jI,M.fH,M.eu,M.eF,M.dG,Int.reduceBEq,aK,bn,kR,ah,hL,MW,MX,MZ,Nh,Nj,Nl,fO,ak2,cZ,Dt];rw[qM,UK hp (.inl rfl) (λj=>by simp[qL])];rfl
 ·simp(disch:=omega) only[jI,M.fH,M.eu,M.eF,M.dG,Int.reduceBEq,aK,bn,kR,ah,hL,MW,MX,MZ,Nh,Nj,Nl,fO,ak2,cZ,Dt];rw[qM,UK hp (.inl rfl) (λj=>by simp[qL])];rfl
 ·obtain⟨u,rfl⟩:=zlo.1 (hc.one ak);have hI:I64 op:=by rcases hc.stp ak with rfl|rfl<;>constructor<;>decide
  have k0:=hK 0 u rfl;rw[oQ] at k0;simp only[jI,M.fH,M.eu,M.eF,M.dG,Int.reduceBEq,aK,bn,kR,ah,(nM op hI).2,k0,MW,MX,MZ,Nh,Nj,Nl,fO,ak1,cZ];rw[qM,XD];rfl
 ·obtain⟨u,rfl⟩:=zlo.1 (hc.one ak);have hI:I64 op:=by rcases hc.stp ak with rfl|rfl<;>constructor<;>decide
  have k0:=hK 0 u rfl;rw[oQ] at k0;simp only[jI,M.fH,M.eu,M.eF,M.dG,Int.reduceBEq,aK,bn,kR,ah,(nM op hI).2,k0,MW,MX,MZ,Nh,Nj,Nl,fO,ak1,cZ];rw[qM,XD];rfl
 ·obtain⟨u,rfl⟩:=zlo.1 (hc.one ak);have k0:=hK 0 u rfl;rw[oQ] at k0;simp only[jI,M.fH,M.eu,M.eF,M.dG,Int.reduceBEq,aK,bn,kR,ah,k0,MW,MX,MZ,Nh,Nj,Nl,fO,ak1,cZ];rw[qM,XD];rfl
 ·obtain⟨u,rfl⟩:=zlo.1 (hc.one ak);obtain⟨h1,h2,h3⟩:=hkE u (by simp);rw[sz1] at hf hsz;have a1:=aEd (x:=x) (ih' u (by simp)) (aIN u h1 h2) h1 h2 h3 (w:=w) (f:=g) (p:=p) hc ak hp ak;simp only[jI,M.fH,M.eu,M.eF,M.dG,Int.reduceBEq,aK,bn,a1,ah,MW,MX,MZ,Nh,Nj,Nl,cZ]
 ·obtain⟨u,v,z,rfl⟩:=Yp (hc.three rfl);have k0:=hK 0 u rfl;have k1:=hK 1 v rfl;have k2:=hK 2 z rfl;rw[oQ] at k0;rw[Y7] at k1;rw[awt] at k2;simp only[jI,M.fH,M.eu,M.eF,M.dG,Int.reduceBEq,aK,bn,kR,ah,k0,k1,k2,MW,MX,MZ,Nh,Nj,Nl,fO,aX7,cZ];rw[qM,aAf];rfl
 ·cases hm:Nat.blt 1 ks.length with
  |true=>simp(disch:=omega) only[jI,M.fH,M.eu,M.eF,M.dG,Int.reduceBEq,aK,bn,gW,many,hm,kR,ah,hL,MW,MX,MZ,Nh,Nj,Nl,fO,ak2,cZ,Dt];rw[qM,UK hp (.inr ⟨rfl,hm,by simp[lvl]⟩) (λj=>by simp[qL])];simp[aao,hm,arK]
  |false=>
   have h1:ks.length=1:=by
    have h2:=hc.some_ ak;have h3:¬1<ks.length:=by rw[<-Nat.blt_eq,hm];simp
    omega
   obtain⟨u,rfl⟩:=zlo.1 h1;have k0:=hK 0 u rfl;rw[oQ] at k0;simp(disch:=omega) only[jI,M.fH,M.eu,M.eF,M.dG,Int.reduceBEq,aK,bn,gW,many,hm,kR,ah,k0,MW,MX,MZ,Nh,Nj,Nl,fO,ak1,cZ,Dt];rw[qM,XD];rfl
 ·obtain⟨u,v,rfl⟩:=Py (hc.two ak);have hI:=ahk (hc.bin rfl).1;have hsl:=PN op;have k0:=hK 0 u rfl;have k1:=hK 1 v rfl;rw[oQ] at k0;rw[Y7] at k1;rw[qM,an2]
  by_cases h99:op=99
  ·subst h99;simp only[jI,M.fH,M.eu,M.eF,M.dG,Int.reduceBEq,aK,bn,kR,ah,k0,k1,MW,MX,MZ,Nh,Nj,Nl,fO,ak2,cZ];rfl
  ·by_cases h45:op=45
   ·subst h45;simp(disch:=omega) only[jI,M.fH,M.eu,M.eF,M.dG,Int.reduceBEq,aK,bn,kR,aeY,ah,k0,k1,(nM 45 hI).2,MW,MX,MZ,Nh,Nj,Nl,fO,awu,ajO,ahl,cZ,Dt];rfl
   ·by_cases h44:op=44
    ·subst h44;simp(disch:=omega) only[jI,M.fH,M.eu,M.eF,M.dG,Int.reduceBEq,aK,bn,kR,aeY,ah,k0,k1,(nM 44 hI).2,MW,MX,MZ,Nh,Nj,Nl,fO,awu,ajO,ahl,cZ,Dt];rfl
    ·have e1:(op==99)=false:=by simpa using h99
     have e2:(op==45)=false:=by simpa using h45
     have e3:(op==44)=false:=by simpa using h44
     simp(disch:=omega) only[jI,M.fH,M.eu,M.eF,M.dG,Int.reduceBEq,e1,e2,e3,aK,bn,kR,aeY,ah,k0,k1,(nM op hI).2,qK,nS,uM,MW,MX,MZ,Nh,Nj,Nl,fO,ak2,cZ,Dt];simp[aao,e1,e2,e3,zB]
 ·obtain⟨u,v,rfl⟩:=Py (hc.two ak);have hI:I64 op:=by rcases hc.asg rfl with rfl|h<;>constructor<;>omega
  have hsl:=PN op;have k0:=hK 0 u rfl;have k1:=hK 1 v rfl;rw[oQ] at k0;rw[Y7] at k1;rw[qM,an2];simp(disch:=omega) only[jI,M.fH,M.eu,M.eF,M.dG,Int.reduceBEq,aK,bn,kR,aeY,ah,k0,k1,(nM op hI).2,qK,nS,uM,MW,MX,MZ,Nh,Nj,Nl,fO,ak2,cZ,Dt];simp[aao,zB]
structure Ex'(u:Tn):Prop where
 ok:I8 u
 e:Zv u
 sm:WH u
 sz:u.size<=1048576
def an3{u:Tn}(h:Ex' u)(w:Bool){p:Ps}(hp:nV p=true):M.jc u.kind u.op u.text u.other (fG w u.kids) p.level p.nN p.tZ p.uf p.lY=some (Hu (Dn u p)):=
 M.agE (atw (aAg u h.ok h.e h.sm h.sz) (f:=5 * u.size+1) (zaP _) hp h.sz)
def ajS{u:Tn}(h:Ex' u)(w:Bool):M.nH u.kind u.op u.text u.other (fG w u.kids)=some (Hu (MQ u)):=by have h1:=an3 h w (p:=.top) rfl;simp only[Ps.top] at h1;simp only[jI,M.nH,M.Uh,Ed.1,ah,h1,MW,MX,MZ,Nh,Nj,Nl,cZ];rfl
def ajT{u:Tn}(h:u.kind=16\/Ex' u)(w:Bool):M.wY u.kind u.op u.text u.other (fG w u.kids)=some (Hu (WA u)):=by
 simp only[jI,M.wY,M.Ui,WA];rcases h with h|h
 ·rw[h];simp only[beq_self_eq_true,aK,kR,ah,MW,MX,MZ,Nh,Nj,Nl,cZ]
 ·have h1:(u.kind==16)=false:=by have:=h.e;unfold Zv at this;rw[KL];omega
  simp only[h1,bn,kR,ajS h w,ah,MW,MX,MZ,Nh,Nj,Nl,fO,ak1,cZ]
def aIQ{ks:List Tn}(h:∀u,u∈ks->Ex' u)(hs:sizes ks<=1048575)(w:Bool):M.qG (fG w ks)=some (Hu (RX .top ks)):=
 M.agF (aAe (λu hu=>aAg u (h u hu).ok (h u hu).e (h u hu).sm (h u hu).sz) (f:=5 * sizes ks+2) (zaP _) hs)
def auZ{ks:List Tn}(h:∀u,u∈ks->Ex' u)(hs:sizes ks<=1048575)(w:Bool):M.sQ (fG w ks)=some (Hu (RX ⟨1,false,false,true,false⟩ ks)):=by
 have hkl:=jC ks;simp only[jI,M.sQ,M.Mc,M.JB,gW];rw[ajQ (ks:=ks) (p:=⟨1,false,false,true,false⟩) ak (λj u L hj hL=> ?_) (λr=> ?_)]
 ·simp only[ah,arJ,MW,MX,MZ,Nh,Nj,Nl,ajO,ahl,cZ];rfl
 ·have hjl:=(PU.1 hj).1;have hus:=iO (En hj);obtain⟨c0,c1,c2,c3,c4⟩:=kG w u;have h1:=an3 (h u (En hj)) w (p:=⟨1,false,false,true,false⟩) rfl;have hw:i64.wrap ((j:Int)+1)=((j+1:Nat):Int):=by rw[aB ak ak];omega
  simp only[jI,M.Nz,M.yF,FP w hj,c0,c1,c2,c3,c4,ah,kR,aeY,M.qX,M.GZ,h1,MW,MX,MZ,Nh,Nj,Nl,fO,yS,qK,nS,uM,hw];rw[zdt ak,aK]
  by_cases h0:j=0
  ·subst h0;rw[pq ak,bn,aN ak,aK,aN ak,aK,if_pos rfl,Hw];rfl
  ·rw[zdt ak,aK,aN ak,aK,aN ak,aK,aN ak,aK,aN ak,aK,if_neg h0,Hw,NI];rfl
 ·simp only[jI,M.Nz,M.yF];rw[pq ak,bn]
def aAh{ks:List Tn}(h:∀u,u∈ks->Ex' u)(wd:aC)(k op:Int)(x y:aC)(w:Bool):M.yQ wd k op x y (fG w ks)=some (Hu (abz wd ks)):=by
 simp only[jI,M.yQ,M.Q9];cases ks with
 |nil=>rw[show(((fG w []).length:Int)==0)=true from rfl];simp only[aK,kR,ah,MW,MX,MZ,Nh,Nj,Nl,cZ];rfl
 |cons u l=>
  have hi:idx (fG w (u::l)) 0=some (u.row w):=rfl;obtain⟨c0,c1,c2,c3,c4⟩:=kG w u;have e0:(((fG w (u::l)).length:Int)==0)=false:=by rw[KL,gW,nS];omega
  simp only[e0,bn,kR,ah,hi,c0,c1,c2,c3,c4,ajT (.inr (h u zmf)) w,MW,MX,MZ,Nh,Nj,Nl,fO,ak1,cZ];rfl
def aX8(a b c:Tn):M.dY ([Dq false a]++[Dq false b,Dq false c])=some (Hu (o9 [a,b,c])):=rfl
def a6B(a b c d e:Tn):M.dY ([Dq false a]++[Dq false b,Dq false c]++[Dq false d,Dq false e])=some (Hu (o9 [a,b,c,d,e])):=rfl
def a6C(a:Tn):M.dY [Dq false a]=some (Hu (o9 [a])):=rfl
def ajU(w:Bool)(ks:List Tn)(n:Nat):(fG w ks).take n=fG w (ks.take n):=by simp[XZ,List.map_take]
def aEe{ks:List Tn}(h:∀u,u∈ks->Ex' u)(hs:sizes ks<=1048575)(op:Int)(x y:aC)(hop:op=0\/op=1)(hy:y≠[]->1<=ks.length)(hyl:y.length<=1048576)(w:Bool):
  M.zi 21 op x y (fG w ks)=some (Hu (anR op y ks)):=by
 have hkl:=jC ks;have hst:cStr [D.str [112,114,105,110,116],D.str [112,114,105,110,116,102]] op.toNat=some (bif op==0 then[112,114,105,110,116] else[112,114,105,110,116,102]):=by rcases hop with rfl|rfl<;>rfl
 have hr:(decide (0<=op) && decide (op<2))=true:=by rcases hop with rfl|rfl<;>rfl
 simp only[M.zi,M.OX,M.Md,M.Me,hst,hr,aK,ah,kR,anR];have gt:∀L:List Tn,decide (((fG w L).length:Int)>0)=Nat.blt 0 L.length:=by intro L;rw[gW];exact aaS 0 L.length
 by_cases hy0:y=[]
 ·have e0:(y==[])=true:=by simpa using hy0
  have l1:=auZ h hs w;simp only[e0,zaO,aK,bn,gt];cases Nat.blt 0 ks.length with
  |true=>simp only[aK,ah,l1,MW,MX,MZ,Nh,Nj,Nl,fO,aX8,cZ];rfl
  |false=>simp only[bn,ah,MW,MX,MZ,Nh,Nj,Nl,fO,a6C,cZ];rfl
 ·have e0:(y==[])=false:=by simpa using hy0
  have hn:=hy hy0;have hw:i64.wrap (((fG w ks).length:Int) - 1)=((ks.length - 1:Nat):Int):=by rw[gW,aB ak ak];omega
  have hcut:cut (fG w ks) 0 ((ks.length - 1:Nat):Int)=some (fG w (ks.take (ks.length - 1))):=by rw[awq _ _ (by rw[gW];omega),ajU]
  obtain⟨u,hu⟩:∃u,ks[ks.length - 1]? =some u:=⟨ks[ks.length - 1],by simp⟩
  have hnt:Aq ks (ks.length - 1)=u:=by rw[Aq,hu];rfl
  obtain⟨c0,c1,c2,c3,c4⟩:=kG w u;have he:=an3 (h u (En hu)) w (p:=⟨9,false,false,false,false⟩) rfl;have l1:=auZ (ks:=ks.take (ks.length - 1)) (λv hv=>h v (List.mem_of_mem_take hv)) (by have:=take_size ks (ks.length - 1);omega) w;simp only[e0,Bool.not_false,aK,bn,hw,hcut,ah,gt,hnt];cases Nat.blt 0 (ks.take (ks.length - 1)).length with
  |true=>simp(disch:=omega) only[aK,ah,l1,FP w hu,c0,c1,c2,c3,c4,he,qK,nS,uM,MW,MX,MZ,Nh,Nj,Nl,fO,a6B,cZ,Dt];rfl
  |false=>simp(disch:=omega) only[aK,bn,ah,l1,FP w hu,c0,c1,c2,c3,c4,he,qK,nS,uM,MW,MX,MZ,Nh,Nj,Nl,fO,aX8,cZ,Dt];rfl
def atx:M.EL=some (Hu UG):=rfl
def aX9(a b c d e f g h:Tn):M.dY [Dq false a,Dq false b,Dq false c,Dq false d,Dq false e,Dq false f,Dq false g,Dq false h]=some (Hu (o9 [a,b,c,d,e,f,g,h])):=rfl
def afY:∀(L:List Tn) (x:Tn),Ht (L++[x])=Ht L++[UG,x]
 |[],x=>rfl
 |y::L,x=>by rw[Yr,Ht,Ht,afY L x];rfl
def ajV:∀(L:List Tn),(Ht L).length=2 * L.length
 |[]=>rfl
 |y::L=>by have:=ajV L;rw[Ht,nS,nS,this,nS];omega
def ajW:∀(L:List Tn) (x:Tn),oU (L++[x])=oU L++[iR x]
 |[],x=>rfl
 |y::L,x=>by rw[Yr,oU,oU,ajW L x];rfl
def ST(u:Tn):Prop:=∀(w:Bool) (f:Nat),4 * u.size<=f->M.xC f u.kind u.op u.text u.other (fG w u.kids)=some (Hu (iR u))
def BT(u:Tn):Prop:=∀(w:Bool) (f:Nat),4 * u.size<=f+2->M.qJ f u.kind u.op u.text u.other (fG w u.kids)=some (Hu (iR u))
def aEf{k op:Int}{x y:aC}{ks:List Tn}(ih:∀u,u∈ks->ST u){w:Bool}{f:Nat}(hf:4 * sizes ks+1<=f)(hu:sizes ks<=1048575):
  M.qJ f k op x y (fG w ks)=some (Hu (anQ (oU ks))):=by
 obtain⟨g,rfl⟩:∃g,f=g+1:=⟨f - 1,ak⟩
 have hkl:=jC ks;have hloop:=iY (b:=M.G7 (M.xC g) (fG w ks) (ks.length:Int) 0 0 [] 0) (t:=((ks.length:Int),oG false (Ht (oU ks)))) (λj=>((j:Int),oG false (Ht (oU (ks.take j))))) ks.length
  (by
   intro j hj;obtain⟨u,hu'⟩:∃u,ks[j]? =some u:=⟨ks[j],by simp[hj]⟩
   have hus:=iO (En hu');obtain⟨c0,c1,c2,c3,c4⟩:=kG w u;have h1:=ih u (En hu') w g ak;have hl:=ajV (oU (ks.take j));rw[RF,XE] at hl;have hw:i64.wrap ((j:Int)+1)=((j+1:Nat):Int):=by rw[aB ak ak];omega
   simp only[jI,M.G7,M.Ah,FP w hu',c0,c1,c2,c3,c4,ah,atx,h1,MW,MX,MZ,Nh,Nj,Nl,fO,yS,nS,uM,hw];rw[zdt ak,aK,aN ak,aK,aN ak,aK,gu hu',ajW,afY,Hw];rfl)
  (by simp only[jI,M.G7,M.Ah];rw[pq ak,bn,List.take_length]) 0 (Nat.zero_le _)
 have yg:M.MB (M.xC g) (fG w ks) (ks.length:Int) 0 0 [] 0 (0,[])=some ((ks.length:Int),oG false (Ht (oU ks))):=hloop;rw[M.agI];simp only[jI,M.Bc,gW,yg,ah,kR,arJ,atx,MW,MX,MZ,Nh,Nj,Nl,ajO,fO,awu,cZ];rfl
set_option maxHeartbeats 2000000 in
def aAi(t:Tn):I8 t->isS t->WH t->t.size<=1048576->ST t/\(t.kind=33->BT t):=by
 refine Tn.ind (P:=λt=>I8 t->isS t->WH t->t.size<=1048576->ST t/\(t.kind=33->BT t)) ?_ t;intro k op x y ks ih hok hs hsm hsz;have hc:=SX hok;simp only[isS,Tn.kind] at hs;rw[WH] at hsm;obtain⟨⟨hx,hy⟩,hss⟩:=hsm;rw[Tn.size] at hsz;have kE:∀{j:Nat} {u:Tn},ks[j]? =some u->cls k op ks.length j=0->Ex' u:=by intro j u hj hcl;obtain⟨h1,h2⟩:=Pq hok hj;rw[hcl] at h1;have:=iO (En hj);exact⟨h2,h1,yU hss (En hj),ak⟩
 have kE3:∀{j:Nat} {u:Tn},ks[j]? =some u->cls k op ks.length j=3->u.kind=16\/Ex' u:=by
  intro j u hj hcl;obtain⟨h1,h2⟩:=Pq hok hj;rw[hcl] at h1;have:=iO (En hj);rcases h1 with h1|h1
  ·exact .inl h1
  ·exact .inr ⟨h2,h1,yU hss (En hj),ak⟩
 have kB:∀{j:Nat} {u:Tn},ks[j]? =some u->cls k op ks.length j=1->BT u:=by intro j u hj hcl;obtain⟨h1,h2⟩:=Pq hok hj;rw[hcl] at h1;have h1':u.kind=33:=h1;have:=iO (En hj);exact(ih u (En hj) h2 (by constructor<;>omega) (yU hss (En hj)) ak).2 h1'
 have kS:k=33->∀u,u∈ks->ST u:=by intro e u hu;subst e;obtain⟨j,hj⟩:=List.mem_iff_getElem?.1 hu;obtain⟨h1,h2⟩:=auN hok hj (.inr (by simp[cls]));have:=iO hu;exact(ih u hu h2 h1 (yU hss hu) ak).1
 have hB:k=33->BT (.mk k op x y ks):=by
  intro e w f hf;have h1:=aEf (k:=k) (op:=op) (x:=x) (y:=y) (kS e) (w:=w) (f:=f) (by rw[Tn.size] at hf;omega) ak;have h2:iR (.mk k op x y ks)=anQ (oU ks):=by rw[iR,e];rfl
  rw[h2];exact h1
 refine⟨λw f hf=> ?_,hB⟩;rw[Tn.size] at hf;obtain⟨g,rfl⟩:∃g,f=g+1:=⟨f - 1,ak⟩
 have aE:∀(h:∀j,cls k op ks.length j=0),∀u,u∈ks->Ex' u:=by intro h u hu;obtain⟨j,hj⟩:=List.mem_iff_getElem?.1 hu;exact kE hj (h j)
 simp only[Tn.kind,Tn.op,Tn.text,Tn.other,Tn.kids];rw[M.ai7];have hk:k=20\/k=21\/k=22\/k=25\/k=26\/k=23\/k=24\/k=27\/k=28\/k=29\/k=30\/k=31\/k=32\/k=33\/k=34:=ak;rcases hk with rfl|rfl|rfl|rfl|rfl|rfl|rfl|rfl|rfl|rfl|rfl|rfl|rfl|rfl|rfl
 ·obtain⟨u,rfl⟩:=zlo.1 (hc.one ak);obtain⟨c0,c1,c2,c3,c4⟩:=kG w u;have i0:idx (fG w [u]) 0=some (u.row w):=rfl;have h0:=ajS (kE (j:=0) (u:=u) rfl (by simp[cls])) w;simp only[jI,M.fQ,Int.reduceBEq,aK,bn,i0,c0,c1,c2,c3,c4,ah,h0,MW,MX,MZ,Nh,Nj,Nl,cZ];rw[iR];rfl
 ·have h0:=aEe (aE (λj=>by simp[cls])) ak op x y (hc.prn rfl).1 (hc.prn rfl).2 hy w;simp only[jI,M.fQ,Int.reduceBEq,aK,bn,ah,h0,MW,MX,MZ,Nh,Nj,Nl,cZ];rw[iR];rfl
 ·simp only[jI,M.fQ,Int.reduceBEq,aK,bn,ah,kR,MW,MX,MZ,Nh,Nj,Nl,cZ];rw[iR];rfl
 ·simp only[jI,M.fQ,Int.reduceBEq,aK,bn,ah,kR,MW,MX,MZ,Nh,Nj,Nl,cZ];rw[iR];rfl
 ·simp only[jI,M.fQ,Int.reduceBEq,aK,bn,ah,kR,MW,MX,MZ,Nh,Nj,Nl,cZ];rw[iR];rfl
 ·have h0:=aAh (aE (λj=>by simp[cls])) [101,120,105,116] 23 op x y w;simp only[jI,M.fQ,Int.reduceBEq,aK,bn,ah,h0,MW,MX,MZ,Nh,Nj,Nl,cZ];rw[iR];rfl
 ·have h0:=aAh (aE (λj=>by simp[cls])) [114,101,116,117,114,110] 24 op x y w;simp only[jI,M.fQ,Int.reduceBEq,aK,bn,ah,h0,MW,MX,MZ,Nh,Nj,Nl,cZ];rw[iR];rfl
 ·have h0:=aIQ (aE (λj=>by simp[cls])) ak w;rw[iR];cases ks with
  |nil=>rw[show fG w []=[] from rfl];simp(disch:=omega) only[jI,M.fQ,Int.reduceBEq,aK,bn,uM,ah,kR,MW,MX,MZ,Nh,Nj,Nl,cZ,Dt,show((((0:Nat):Int))==0)=true from rfl];rfl
  |cons u l=>
   have e0:(((fG w (u::l)).length:Int)==0)=false:=by rw[KL,gW,nS];omega
   simp(disch:=omega) only[jI,M.fQ,Int.reduceBEq,aK,bn,e0,qK,nS,uM,ah,h0,kR,MW,MX,MZ,Nh,Nj,Nl,fO,ak2,cZ,Dt];rfl
 ·rw[iR];obtain⟨g',rfl⟩:∃g',g=g'+1:=⟨g - 1,ak⟩
  rcases hc.cnd rfl with h2|h3
  ·obtain⟨u,v,rfl⟩:=Py h2;have hs2:=sz2 u v;have i0:idx (fG w [u,v]) 0=some (u.row w):=rfl;have i1:idx (fG w [u,v]) 1=some (v.row w):=rfl;obtain⟨c0,c1,c2,c3,c4⟩:=kG w u;obtain⟨d0,d1,d2,d3,d4⟩:=kG w v;have h0:=ajS (kE (j:=0) (u:=u) rfl (by simp[cls])) w;have h1:=kB (j:=1) (u:=v) rfl (by simp[cls]) w g' ak;have hl:decide (((fG w [u,v]).length:Int)>2)=false:=rfl;simp only[jI,M.fQ,Int.reduceBEq,aK,bn,M.X8,M.vK,i0,i1,c0,c1,c2,c3,c4,d0,d1,d2,d3,d4,hl,ah,h0,h1,kR,MW,MX,MZ,Nh,Nj,Nl,fO,awu,cZ];rfl
  ·obtain⟨u,v,z,rfl⟩:=Yp h3;have hs3:=sz3 u v z;have i0:idx (fG w [u,v,z]) 0=some (u.row w):=rfl;have i1:idx (fG w [u,v,z]) 1=some (v.row w):=rfl;have i2:idx (fG w [u,v,z]) 2=some (z.row w):=rfl;obtain⟨c0,c1,c2,c3,c4⟩:=kG w u;obtain⟨d0,d1,d2,d3,d4⟩:=kG w v;obtain⟨e0,e1,e2,e3,e4⟩:=kG w z;have h0:=ajS (kE (j:=0) (u:=u) rfl (by simp[cls])) w;have h1:=kB (j:=1) (u:=v) rfl (by simp[cls]) w g' ak;have h2:=kB (j:=2) (u:=z) rfl (by simp[cls]) w g' ak;have hl:decide (((fG w [u,v,z]).length:Int)>2)=true:=rfl;simp only[jI,M.fQ,Int.reduceBEq,aK,bn,M.X8,M.vK,i0,i1,i2,c0,c1,c2,c3,c4,d0,d1,d2,d3,d4,e0,e1,e2,e3,e4,hl,ah,h0,h1,h2,kR,MW,MX,MZ,Nh,Nj,Nl,fO,awu,ak2,cZ];rfl
 ·rw[iR];obtain⟨u,v,rfl⟩:=Py (hc.two ak);have hs2:=sz2 u v;have i0:idx (fG w [u,v]) 0=some (u.row w):=rfl;have i1:idx (fG w [u,v]) 1=some (v.row w):=rfl;obtain⟨c0,c1,c2,c3,c4⟩:=kG w u;obtain⟨d0,d1,d2,d3,d4⟩:=kG w v;have h0:=ajS (kE (j:=0) (u:=u) rfl (by simp[cls])) w;have h1:=kB (j:=1) (u:=v) rfl (by simp[cls]) w g ak;simp only[jI,M.fQ,Int.reduceBEq,aK,bn,i0,i1,c0,c1,c2,c3,c4,d0,d1,d2,d3,d4,ah,h0,h1,kR,MW,MX,MZ,Nh,Nj,Nl,fO,awu,cZ];rfl
 ·rw[iR];obtain⟨u,v,rfl⟩:=Py (hc.two ak);have hs2:=sz2 u v;have i0:idx (fG w [u,v]) 0=some (u.row w):=rfl;have i1:idx (fG w [u,v]) 1=some (v.row w):=rfl;obtain⟨c0,c1,c2,c3,c4⟩:=kG w u;obtain⟨d0,d1,d2,d3,d4⟩:=kG w v;have h0:=kB (j:=0) (u:=u) rfl (by simp[cls]) w g ak;have h1:=ajS (kE (j:=1) (u:=v) rfl (by simp[cls])) w;simp only[jI,M.fQ,Int.reduceBEq,aK,bn,i0,i1,c0,c1,c2,c3,c4,d0,d1,d2,d3,d4,ah,h0,h1,kR,MW,MX,MZ,Nh,Nj,Nl,fO,aX7,cZ];rfl
 ·rw[iR];obtain⟨g',rfl⟩:∃g',g=g'+1:=⟨g - 1,ak⟩
  obtain⟨u,v,z,q,rfl⟩:=anS (hc.four rfl);have hs4:sizes [u,v,z,q]=u.size+(v.size+(z.size+q.size)):=by simp[sizes]
  have i0:idx (fG w [u,v,z,q]) 0=some (u.row w):=rfl;have i1:idx (fG w [u,v,z,q]) 1=some (v.row w):=rfl;have i2:idx (fG w [u,v,z,q]) 2=some (z.row w):=rfl;have i3:idx (fG w [u,v,z,q]) 3=some (q.row w):=rfl;obtain⟨c0,c1,c2,c3,c4⟩:=kG w u;obtain⟨d0,d1,d2,d3,d4⟩:=kG w v;obtain⟨e0,e1,e2,e3,e4⟩:=kG w z;obtain⟨f0,f1,f2,f3,f4⟩:=kG w q;have h1:=ajT (kE3 (j:=1) (u:=v) rfl (by simp[cls])) w;have h2:=ajT (kE3 (j:=2) (u:=z) rfl (by simp[cls])) w;have h3:=kB (j:=3) (u:=q) rfl (by simp[cls]) w g' ak;rcases kE3 (j:=0) (u:=u) rfl (by simp[cls]) with h0|h0
  ·have n0:(u.kind !=16)=false:=by simp[h0]
   have ha:agO 31 op x y [u,v,z,q] (oU [u,v,z,q])=o9 [mZ [102,111,114,32,40],mZ [],mZ [59],WA v,mZ [59],WA z,mZ [41,32],iR q]:=by simp[agO,Aq,zB,oU,h0]
   rw[ha];simp only[jI,M.fQ,Int.reduceBEq,aK,bn,M.aah,M.Af,M.Ik,i0,i1,i2,i3,c0,c1,c2,c3,c4,d0,d1,d2,d3,d4,e0,e1,e2,e3,e4,f0,f1,f2,f3,f4,n0,ah,h1,h2,h3,kR,MW,MX,MZ,Nh,Nj,Nl,fO,aX9,cZ]
  ·have n0:(u.kind !=16)=true:=by have:=h0.e;unfold Zv at this;simp only[bne_iff_ne];omega
   have n1:(u.kind==16)=false:=by simpa using n0
   have ha:agO 31 op x y [u,v,z,q] (oU [u,v,z,q])=o9 [mZ [102,111,114,32,40],Dn u ⟨1,false,true,false,false⟩,mZ [59],WA v,mZ [59],WA z,mZ [41,32],iR q]:=by simp[agO,Aq,zB,oU,n1]
   have he:=an3 h0 w (p:=⟨1,false,true,false,false⟩) rfl;rw[ha];simp only[jI,M.fQ,Int.reduceBEq,aK,bn,M.aah,M.Af,M.Ik,i0,i1,i2,i3,c0,c1,c2,c3,c4,d0,d1,d2,d3,d4,e0,e1,e2,e3,e4,f0,f1,f2,f3,f4,n0,he,ah,h1,h2,h3,kR,MW,MX,MZ,Nh,Nj,Nl,fO,aX9,cZ]
 ·rw[iR];obtain⟨u,rfl⟩:=zlo.1 (hc.one ak);have hs1:=sz1 u;have i0:idx (fG w [u]) 0=some (u.row w):=rfl;obtain⟨c0,c1,c2,c3,c4⟩:=kG w u;have h0:=kB (j:=0) (u:=u) rfl (by simp[cls]) w g ak;simp(disch:=omega) only[jI,M.fQ,Int.reduceBEq,aK,bn,qK,nS,uM,i0,c0,c1,c2,c3,c4,ah,h0,kR,MW,MX,MZ,Nh,Nj,Nl,fO,ak1,cZ,Dt];rfl
 ·have h0:=hB rfl w g (by rw[Tn.size];omega);simp only[Tn.kind,Tn.op,Tn.text,Tn.other,Tn.kids] at h0;simp only[jI,M.fQ,Int.reduceBEq,aK,bn,ah,h0,MW,MX,MZ,Nh,Nj,Nl,cZ]
 ·simp only[jI,M.fQ,Int.reduceBEq,aK,bn,ah,kR,MW,MX,MZ,Nh,Nj,Nl,cZ];rw[iR];rfl
structure Bk(u:Tn):Prop where
 ok:I8 u
 k:u.kind=33
 sm:WH u
 sz:u.size<=1048576
def aAj{u:Tn}(h:Bk u)(w:Bool):M.kC u.kind u.op u.text u.other (fG w u.kids)=some (Hu (iR u)):=by have hk:=h.k;exact M.aeJ ((aAi u h.ok (by constructor<;>omega) h.sm h.sz).2 hk w (4 * u.size) ak)
def Ex'.kne{u:Tn}(h:Ex' u):(u.kind==33)=false:=by have:=h.e;unfold Zv at this;rw[KL];omega
def Bk.keq{u:Tn}(h:Bk u):(u.kind==33)=true:=by rw[h.k];rfl
def amj(b:Bool)(u:Tn):Ir [u] b=bif u.kind==33 then(bif b then[iR u] else[mZ [32],iR u]) else(bif b then[MQ u] else[mZ [44,32],MQ u]):=by rw[Ir,Ir,List.append_nil]
def acE:∀(L:List Tn) (b:Bool) (x:Tn),Ir (L++[x]) b=Ir L b++Ir [x] (L.isEmpty && b)
 |[],b,x=>rfl
 |y::L,b,x=>by rw[Yr,Ir,Ir,acE L false x,Bool.and_false,List.isEmpty_cons,Bool.false_and,NI]
def ae0:∀(L:List Tn) (b:Bool),(Ir L b).length<=2 * L.length
 |[],b=>zaP _
 |y::L,b=>by have:=ae0 L false;rw[Ir,qK,nS];cases(y.kind==33)<;>cases b<;>simp only[aK,bn,nS,uM]<;>omega
def aIR{ks:List Tn}(h:∀u,u∈ks->Bk u\/Ex' u)(hn:ks.length<=1000)(k op:Int)(x y:aC)(w:Bool):M.yR k op x y (fG w ks)=some (Hu (o9 (Ir ks true))):=by
 have hloop:=iY (b:=M.JC (fG w ks) (ks.length:Int) 0 0 [] 0) (t:=((ks.length:Int),oG false (Ir ks true))) (λj=>((j:Int),oG false (Ir (ks.take j) true))) ks.length
  (by
   intro j hj;obtain⟨u,hu'⟩:∃u,ks[j]? =some u:=⟨ks[j],by simp[hj]⟩
   obtain⟨c0,c1,c2,c3,c4⟩:=kG w u;have hl:=ae0 (ks.take j) true;rw[XE] at hl;have hw:i64.wrap ((j:Int)+1)=((j+1:Nat):Int):=by rw[aB ak ak];omega
   have he:(ks.take j).isEmpty=decide (j=0):=by
    cases j with
    |zero=>rfl
    |succ j=>cases ks with
     |nil=>simp at hj
     |cons a l=>rfl
   simp only[jI,M.JC,M.CY,M.uS,M.Ai,FP w hu',c0,c1,c2,c3,c4,ah];rw[zdt ak,aK,gu hu',acE,he,Bool.and_true,Hw,amj];rcases h u (En hu') with hb|hb
   ·have h1:=aAj hb w;rw[hb.keq]
    by_cases h0:j=0
    ·subst h0;simp(disch:=omega) only[aK,bn,kR,h1,ah,MW,MX,MZ,Nh,Nj,Nl,fO,yS,nS,uM,hw,aN];rfl
    ·rw[zdt (show(j:Int)>0 by omega),pq h0];simp(disch:=omega) only[aK,bn,kR,h1,ah,MW,MX,MZ,Nh,Nj,Nl,fO,yS,nS,uM,hw,aN];rfl
   ·have h1:=ajS hb w;rw[hb.kne]
    by_cases h0:j=0
    ·subst h0;simp(disch:=omega) only[aK,bn,kR,h1,ah,MW,MX,MZ,Nh,Nj,Nl,fO,yS,nS,uM,hw,aN];rfl
    ·rw[zdt (show(j:Int)>0 by omega),pq h0];simp(disch:=omega) only[aK,bn,kR,h1,ah,MW,MX,MZ,Nh,Nj,Nl,fO,yS,nS,uM,hw,aN];rfl)
  (by simp only[jI,M.JC,M.CY,M.uS,M.Ai];rw[pq ak,bn,List.take_length]) 0 (Nat.zero_le _)
 have yg:M.OY (fG w ks) (ks.length:Int) 0 0 [] 0 (0,[])=some ((ks.length:Int),oG false (Ir ks true)):=hloop;simp only[jI,M.yR,M.Rh,gW,yg,ah,arJ,MW,MX,MZ,Nh,Nj,Nl,cZ]
def ajX:∀(L:List (aC)) (b:Bool) (x:aC),KD (L++[x]) b=KD L b++(bif L.isEmpty && b then x else[44,32]++x)
 |[],b,x=>by simp[KD]
 |y::L,b,x=>by rw[Yr,KD,KD,ajX L false x,Bool.and_false,List.isEmpty_cons,Bool.false_and,NI]
def aax:∀(l:List (aC)),joinL [44,32] l=KD l true/\∀x,[44,32]++joinL [44,32] (x::l)=KD (x::l) false
 |[]=>⟨rfl,λx=>by simp[joinL,KD]⟩
 |y::l=>by
  have ih:=(aax l).2;constructor
  ·cases l with
   |nil=>simp[joinL,KD]
   |cons z l=>have h1:=(aax l).2 z;rw[joinL,h1];rfl
  ·intro x;rw[joinL,ih y];simp[KD]
def aaU{N:Nat}:∀(l:List (aC)) (b:Bool),(∀x,x∈l->x.length<=N)->(KD l b).length<=(N+2) * l.length
 |[],b,_=>by simp[KD]
 |x::l,b,h=>by have h1:=aaU l false (λy hy=>h y (zmm _ hy));have h2:=h x zmf;rw[KD,qK,nS,Nat.mul_add,Nat.mul_one];cases b<;>simp only[aK,bn,qK,nS,uM]<;>omega
def amk:∀l:List (aC),asY (encS l)=some l
 |[]=>rfl
 |x::l=>by have h:=amk l;unfold encS at *;rw[RQ,asY];simp only[h]
def au0{N:Nat}:∀(l:List (aC)),(∀x,x∈l->x.length<=N)->aoQ l<=N * l.length
 |[],_=>zaP _
 |x::l,h=>by have h1:=au0 l (λy hy=>h y (zmm _ hy));have h2:=h x zmf;rw[aoQ,nS,Nat.mul_add,Nat.mul_one];omega
def aIS{ks:List Tn}(h:∀u,u∈ks->u.text.length<=1048576)(h0:1<=ks.length)(hn:ks.length<=1000)(k op:Int)(x y:aC)(hx:x.length<=1048576)(w:Bool):M.Gl k op x y (fG w ks)=some (Zn x ks)/\(Zn x ks).length<=1060000000:=by
 obtain⟨A,hA⟩:∃A,ks.take (ks.length - 1)=A:=⟨_,rfl⟩
 have hAl:A.length+1=ks.length:=by rw[<-hA,XE];omega
 have hAm:∀u,u∈A->u.text.length<=1048576:=λu hu=>h u (List.mem_of_mem_take (hA ▸ hu))
 have hmm:∀z,z∈A.map Tn.text->z.length<=1048576:=by intro z hz;obtain⟨u,hu,rfl⟩:=List.mem_map.1 hz;exact hAm u hu
 have hloop:=iY (b:=M.MF (fG w A) (A.length:Int) k op x y (fG w ks)) (t:=((A.length:Int),encS (A.map Tn.text))) (λj=>((j:Int),encS ((A.take j).map Tn.text))) A.length
  (by
   intro j hj;obtain⟨u,hu'⟩:∃u,A[j]? =some u:=⟨A[j],by simp[hj]⟩
   obtain⟨c0,c1,c2,c3,c4⟩:=kG w u;have hl:(encS ((A.take j).map Tn.text)).length=j:=by simp[encS];omega
   have hw:i64.wrap ((j:Int)+1)=((j+1:Nat):Int):=by rw[aB ak ak];omega
   simp only[jI,M.MF,M.FH,FP w hu',c0,c1,c2,c3,c4,ah,hl,nS,uM,hw];rw[zdt ak,aK,aN ak,aK,aN ak,aK,gu hu',List.map_append,encS,encS,List.map_append];rfl)
  (by simp only[jI,M.MF,M.FH];rw[pq ak,bn,List.take_length]) 0 (Nat.zero_le _)
 have yg:M.Ri (fG w A) (A.length:Int) k op x y (fG w ks) (0,[])=some ((A.length:Int),encS (A.map Tn.text)):=hloop;have hw:i64.wrap (((fG w ks).length:Int) - 1)=((ks.length - 1:Nat):Int):=by rw[gW,aB ak ak];omega
 have hcut:cut (fG w ks) 0 ((ks.length - 1:Nat):Int)=some (fG w A):=by rw[awq _ _ (by rw[gW];omega),ajU,hA]
 have hs:=au0 _ hmm;rw[zaQ] at hs;have hj:M.strings_Join (encS (A.map Tn.text)) [44,32]=some (KD (A.map Tn.text) true):=by simp only[M.strings_Join,amk];rw[aN (by rw[zaQ];simp only[nS,uM];omega),aK,(aax _).1]
 have hjl:=aaU _ true hmm;rw[zaQ] at hjl;constructor
 ·rw[gW] at hw;simp only[M.Gl,M.Uj,gW,hw,hcut,ah,yg,hj];rw[aN ak,aK,aN (by simp only[qK,nS,uM];omega),aK,aN (by simp only[qK,nS,uM];omega),aK,aN (by simp only[qK,nS,uM];omega),aK,Zn,hA,NI]
 ·rw[Zn,hA];simp only[qK,nS,uM];omega
mutual
def WJ:Tn->Prop
 | .mk _ _ x _ ks=>x.length<=1000000000/\Du ks
def Du:List Tn->Prop
 |[]=>True
 |t::ts=>WJ t/\Du ts
end
mutual
def ajY:∀(t:Tn) (b:Nat),WJ t->∀n,n∈t.flat b->n.text.length<=1000000000
 | .mk k o x y ks,b,h,n,hn=>by
  rw[WJ] at h;rw[Tn.flat] at hn;rcases List.mem_append.1 hn with hn|hn
  ·exact aml ks b h.2 n hn
  ·simp only[List.mem_singleton] at hn;subst hn;exact h.1
def aml:∀(ks:List Tn) (b:Nat),Du ks->∀n,n∈jF ks b->n.text.length<=1000000000
 |[],b,_,n,hn=>by simp[jF] at hn
 |t::ts,b,h,n,hn=>by
  rw[Du] at h;rw[jF] at hn;rcases List.mem_append.1 hn with hn|hn
  ·exact ajY t b h.1 n hn
  ·exact aml ts _ h.2 n hn
end
def rM(s:aC):WJ (mZ s)↔s.length<=1000000000:=by simp[mZ,WJ,Du]
def arL:WJ Xh:=by simp[Xh,WJ,Du]
def ajZ:WJ UG:=by simp[UG,WJ,Du]
def aj0(d:Tn):WJ (Zm d)↔WJ d:=by simp[Zm,WJ,Du]
def au1(d:Tn):WJ (arB d)↔WJ d:=by simp[arB,WJ,Du]
def yV(l:List Tn):WJ (o9 l)↔Du l:=by simp[o9,WJ]
def aj1:∀l:List Tn,Du l↔∀t,t∈l->WJ t
 |[]=>by simp[Du]
 |t::ts=>by simp[Du,aj1 ts]
def aay(a b:List Tn):Du (a++b)↔Du a/\Du b:=by simp only[aj1,List.mem_append];exact⟨λh=>⟨λt ht=>h t (.inl ht),λt ht=>h t (.inr ht)⟩,λh t ht=>ht.elim (h.1 t) (h.2 t)⟩
def nP{a b:Tn}(c:Bool)(ha:WJ a)(hb:WJ b):WJ (bif c then a else b):=by cases c<;>assumption
def aj2{a b:List Tn}(c:Bool)(ha:Du a)(hb:Du b):Du (bif c then a else b):=by cases c<;>assumption
def arM:∀(L:List Tn) (b:Bool),Du L->Du (UZ b L)
 |[],b,_=>by simp[UZ,Du]
 |x::l,b,h=>by rw[Du] at h;rw[UZ,aay];exact⟨aj2 _ ⟨h.1,trivial⟩ ⟨by simp[rM],arL,h.1,trivial⟩,arM l false h.2⟩
def amm{L:List Tn}(h:Du L):WJ (adP L):=by rw[adP,au1,aj0,yV];exact arM L true h
def UL:∀{L:List Tn} (j:Nat),Du L->WJ (zB L j)
 |[],j,_=>by simp[zB,rM]
 |x::l,0,h=>h.1
 |x::l,j+1,h=>UL (L:=l) j h.2
def aAk(k op:Int)(n:Nat){x:aC}(g:Bool){L:List Tn}(hx:x.length<=1048576)(h:Du L):WJ (aao k op n x g L):=by
 have hs:=PN op;have h0:=UL 0 h;have h1:=UL 1 h;have h2:=UL 2 h;have hl:=amm h;unfold aao;refine nP _ ?_ (nP _ ?_ (nP _ ?_ (nP _ ?_ (nP _ ?_ (nP _ ?_ (nP _ ?_ (nP _ ?_ (nP _ (nP _ ?_ ?_) (nP _ ?_ (nP _ ?_ ?_))))))))))
 all_goals simp only[yV,au1,aj0,Du,rM,h0,h1,h2,hl,arL,true_and,and_true,qK,nS,uM]
 all_goals first
  |omega
  |(cases g<;>simp only[aK,bn,qK,nS,uM]<;>omega)
def amn{a:Tn}(h:WJ a):WJ (o9 [mZ [40],a,mZ [41]]):=by rw[yV];exact⟨by simp[rM],h,by simp[rM],trivial⟩
def amo(k op:Int)(n:Nat)(p:Ps):∀(ts:List Tn) (j:Nat),(∀u,u∈ts->∀q,WJ (qM u q))->Du (ug k op n p ts j)
 |[],j,_=>by rw[ug];trivial
 |t::ts,j,h=>by rw[ug];exact⟨nP _ (h t zmf _) (amn (h t zmf _)),amo k op n p ts (j+1) λu hu=>h u (zmm _ hu)⟩
def amq(t:Tn):WH t->∀q,WJ (qM t q):=by refine Tn.ind (P:=λt=>WH t->∀q,WJ (qM t q)) ?_ t;intro k op x y ks ih hs q;rw[WH] at hs;rw[qM];exact aAk _ _ _ _ hs.1.1 (amo _ _ _ _ _ _ λu hu=>ih u hu (yU hs.2 hu))
def S9{t:Tn}(h:WH t)(q:Ps):WJ (Dn t q):=nP _ (amq t h q) (amn (amq t h _))
def aaz:∀{L:List Tn} (j:Nat),WI L->WH (Aq L j)
 |[],j,_=>by simp[Aq,WH,WI]
 |x::l,0,h=>h.1
 |x::l,j+1,h=>aaz (L:=l) j h.2
def aj3{t:Tn}(h:WH t):WJ (WA t):=by refine nP _ (by simp[rM]) ?_;rw[yV];exact⟨by simp[rM],S9 h _,trivial⟩
def amr(p:Ps){L:List Tn}(h:WI L):WJ (RX p L):=by refine amm ((aj1 _).2 λt ht=> ?_);obtain⟨u,hu,rfl⟩:=List.mem_map.1 ht;exact S9 (yU h hu) p
def ams:∀{L:List Tn} (n:Nat),WI L->WI (L.take n)
 |[],n,_=>by simp[WI]
 |x::l,0,_=>by simp[WI]
 |x::l,n+1,h=>⟨h.1,ams n h.2⟩
def aj6:∀{L:List Tn},Du L->Du (Ht L)
 |[],_=>trivial
 |d::l,h=>⟨ajZ,h.1,aj6 h.2⟩
def aAl{L:List Tn}(h:Du L):WJ (anQ L):=by rw[anQ,yV];exact⟨by simp[rM],(aj0 _).2 ((yV _).2 (aj6 h)),ajZ,by simp[rM],trivial⟩
def amu{w:aC}(hw:w.length<=100):∀{ks:List Tn},WI ks->WJ (abz w ks)
 |[],_=>by rw[abz,rM];omega
 |t::_,h=>by rw[abz,yV];exact⟨by rw[rM];omega,aj3 h.1,trivial⟩
def aAm(op:Int){y:aC}(hy:y.length<=1048576){ks:List Tn}(h:WI ks):WJ (anR op y ks):=by
 have h1:WI (bif y==[] then ks else ks.take (ks.length - 1)):=by
  cases(y==[]) with
  |true=>exact h
  |false=>exact ams _ h
 unfold anR;simp only[yV,aay];refine⟨⟨?_,trivial⟩,aj2 _ ⟨by simp[rM],amr _ h1,trivial⟩ trivial,aj2 _ trivial ⟨?_,S9 (aaz _ h) _,trivial⟩⟩
 ·cases op==0<;>simp[rM]
 ·rw[rM];simp;omega
def aAn(k op:Int){x y:aC}{ks L:List Tn}(hx:x.length<=1048576)(hy:y.length<=1048576)(hk:WI ks)(h:Du L):WJ (agO k op x y ks L):=by
 have n0:=aaz 0 hk;have n1:=aaz 1 hk;have n2:=aaz 2 hk;have l0:=UL 0 h;have l1:=UL 1 h;have l2:=UL 2 h;have l3:=UL 3 h;have t0:WJ (MQ (Aq ks 0)):=S9 n0 _;have t1:WJ (MQ (Aq ks 1)):=S9 n1 _;have s1:=aj3 n1;have s2:=aj3 n2;unfold agO;refine nP _ t0 (nP _ (aAm op hy hk) (nP _ (by simp[rM]) (nP _ (by simp[rM]) (nP _ (by simp[rM]) (nP _ (amu (by simp) hk) (nP _ (amu (by simp) hk) (nP _ ?_ (nP _ ?_ (nP _ ?_ (nP _ ?_ (nP _ ?_ (nP _ ?_ (nP _ (aAl h) ?_)))))))))))))
 ·cases ks with
  |nil=>simp only[rM,qK,nS,uM];omega
  |cons u l=>simp only[yV,Du,rM,qK,nS,uM,amr .top hk,true_and,and_true];omega
 ·have hd:WJ (o9 [mZ [105,102,32,40],MQ (Aq ks 0),mZ [41,32],zB L 1]):=by simp only[yV,Du,rM,t0,l1,true_and,and_true,nS,uM];omega
  exact nP _ ((yV _).2 ⟨hd,by simp[rM],l2,trivial⟩) hd
 ·simp only[yV,Du,rM,t0,l1,true_and,and_true,nS,uM];omega
 ·simp only[yV,Du,rM,t1,l0,true_and,and_true,nS,uM];omega
 ·have he:WJ (bif(Aq ks 0).kind==16 then mZ [] else(Dn (Aq ks 0)) ⟨1,false,true,false,false⟩):=nP _ (by simp[rM]) (S9 n0 _);simp only[yV,Du,rM,he,s1,s2,l3,true_and,and_true,nS,uM];omega
 ·simp only[yV,Du,rM,l0,true_and,and_true,qK,nS,uM];omega
 ·rw[rM];omega
def amv:∀{ks:List Tn},(∀u,u∈ks->WJ (iR u))->Du (oU ks)
 |[],_=>by rw[oU];trivial
 |t::ts,h=>by rw[oU];exact⟨h t zmf,amv λu hu=>h u (zmm _ hu)⟩
def aaV(t:Tn):WH t->WJ (iR t):=by refine Tn.ind (P:=λt=>WH t->WJ (iR t)) ?_ t;intro k op x y ks ih hs;rw[WH] at hs;rw[iR];exact aAn k op hs.1.1 hs.1.2 hs.2 (amv λu hu=>ih u hu (yU hs.2 hu))
def ae1(t:Tn):Prop:=(40<=t.kind/\t.kind<=44)\/t.kind=34
section
variable {k op:Int} {x y:aC} {ks:List Tn} (hok:I8 (.mk k op x y ks)) (hss:WI ks) (hsz:sizes ks<=1048576)
include hok hss hsz
theorem aIT{j:Nat}{u:Tn}(hj:ks[j]? =some u)(hc:cls k op ks.length j=1):Bk u:=by obtain⟨h1,h2⟩:=Pq hok hj;rw[hc] at h1;have:=iO (En hj);exact⟨h2,h1,yU hss (En hj),ak⟩
theorem a6D{j:Nat}{u:Tn}(hj:ks[j]? =some u)(hc:cls k op ks.length j=0):Ex' u:=by obtain⟨h1,h2⟩:=Pq hok hj;rw[hc] at h1;have:=iO (En hj);exact⟨h2,h1,yU hss (En hj),ak⟩
theorem aYa(hk:k=42\/k=43):∀u,u∈ks->Bk u\/Ex' u:=by
 intro u hu;obtain⟨j,hj⟩:=List.mem_iff_getElem?.1 hu;have:cls k op ks.length j=1\/cls k op ks.length j=0:=by
  rcases hk with rfl|rfl
  ·have e:cls 42 op ks.length j=if op=2\/(op=3/\j+1=ks.length) then 1 else 0:=by simp[cls]
   rw[e];split
   ·exact .inl rfl
   ·exact .inr rfl
  ·have e:cls 43 op ks.length j=if j=2 then 1 else 0:=by simp[cls]
   rw[e];split
   ·exact .inl rfl
   ·exact .inr rfl
 rcases this with h|h
 ·exact .inl (aIT hok hss hsz hj h)
 ·exact .inr (a6D hok hss hsz hj h)
end
def adV{t:Tn}(h:WH t):t.text.length<=1048576:=by cases t;exact h.1.1
def aj7{ks:List Tn}(h:WI ks):∀u,u∈ks->u.text.length<=1048576:=λu hu=>adV (yU h hu)
def Bk.size{u:Tn}(h:Bk u):(iR u).size+2<=40 * u.size:=by have hk:=h.k;exact Y2 u h.ok (by constructor<;>omega)
def acF:∀(L:List Tn) (b:Bool),(∀u,u∈L->Bk u\/Ex' u)->sizes (Ir L b)<=40 * sizes L
 |[],b,_=>zaP _
 |u::l,b,h=>by
  have h1:=acF l false (λv hv=>h v (zmm _ hv));have h2:=u.vk;rw[Ir,kU,sizes];rcases h u zmf with hb|hb
  ·have h3:=hb.size;rw[hb.keq,aK];cases b<;>simp only[aK,bn,sizes,iw]<;>omega
  ·have h3:=nZ u .top;rw[hb.kne,bn];cases b<;>simp only[aK,bn,sizes,iw,MQ]<;>omega
def amw:∀(L:List Tn) (b:Bool),WI L->Du (Ir L b)
 |[],b,_=>trivial
 |u::l,b,h=>by have h1:=amw l false h.2;have h2:=aaV u h.1;have h3:=S9 h.1 .top;rw[Ir,aay];refine⟨?_,h1⟩;cases(u.kind==33)<;>cases b<;>simp only[aK,bn,Du,rM,MQ]<;>simp[h2,h3]
def aAo{ks:List Tn}(h:1<=ks.length):∃u,ks[ks.length - 1]? =some u/\Aq ks (ks.length - 1)=u:=by have:ks.length - 1<ks.length:=ak;refine⟨ks[ks.length - 1],by simp[this], ?_⟩;simp[Aq,this]
def Y8{t:Tn}(hok:I8 t)(hi:ae1 t)(hs:WH t)(hz:t.size<=1048576):
  (∃u,(t.kind=40\/t.kind=41)/\t.kids=[u]/\Bk u)\/((t.kind=42\/t.kind=43)/\t.kids.length<=7/\∀u,u∈t.kids->Bk u\/Ex' u)\/
  (t.kind=44/\1<=t.kids.length/\t.kids.length<=7/\∃u,t.kids[t.kids.length - 1]? =some u/\Aq t.kids (t.kids.length - 1)=u/\Bk u)\/t.kind=34:=by
 have hss:=aav hs;have hks:=t.vk;obtain⟨k,op,x,y,ks⟩:=t;simp only[Tn.kids,Tn.kind] at *;have hc:=SX hok;unfold ae1 at hi;simp only[Tn.kind] at hi;rcases hi with hi|hi
 ·have hk:(k=40\/k=41)\/(k=42\/k=43)\/k=44:=ak;rcases hk with hk|hk|hk
  ·obtain⟨u,rfl⟩:=zlo.1 (hc.one ak);refine .inl ⟨u,hk,rfl,aIT hok hss ak (j:=0) rfl ?_⟩;rcases hk with rfl|rfl<;>simp[cls]
  ·exact .inr (.inl ⟨hk,hc.few ak ak,aYa hok hss ak hk⟩)
  ·have h1:=hc.some_ ak;obtain⟨u,h2,h3⟩:=aAo h1;refine .inr (.inr (.inl ⟨hk,h1,hc.few ak ak,u,h2,h3,aIT hok hss ak h2 ?_⟩));subst hk;simp[cls];omega
 ·exact .inr (.inr (.inr hi))
def aj8{t:Tn}(hok:I8 t)(hi:ae1 t)(hs:WH t)(hz:t.size<=1048576):(itemD t).size+1<=40 * t.size:=by
 have hks:=t.vk;unfold itemD;rcases Y8 hok hi hs hz with⟨u,hk,hu,hb⟩|⟨hk,hn,hb⟩|⟨hk,h1,h7,u,hu,hn,hb⟩|hk
 ·have h2:=hb.size;rw[hu,sizes,sizes] at hks;rw[hu];rcases hk with hk|hk<;>rw[hk]<;>simp only[Int.reduceBEq,aK,bn,qj,sizes,iw,Aq,List.getElem?_cons_zero,Option.getD_some]<;>omega
 ·have h2:=acF _ true hb;rcases hk with hk|hk<;>rw[hk]<;>simp only[Int.reduceBEq,aK,bn,Bool.true_or,Bool.or_true,qj]<;>omega
 ·have h2:=hb.size;have h3:=iO (En hu);rw[hk,hn];simp only[Int.reduceBEq,aK,bn,Bool.or_false,qj,sizes,iw];omega
 ·have h2:=Y2 t hok (by constructor<;>omega);rw[hk];simp only[Int.reduceBEq,bn,Bool.or_false];omega
def amx{ks:List Tn}(h:∀u,u∈ks->u.text.length<=1048576)(h0:1<=ks.length)(hn:ks.length<=7){x:aC}(hx:x.length<=1048576):(Zn x ks).length<=10000000:=by
 have hmm:∀z,z∈(ks.take (ks.length - 1)).map Tn.text->z.length<=1048576:=by intro z hz;obtain⟨u,hu,rfl⟩:=List.mem_map.1 hz;exact h u (List.mem_of_mem_take hu)
 have h1:=aaU _ true hmm;rw[zaQ,XE] at h1;rw[Zn];simp only[qK,nS,uM];have h2:min (ks.length - 1) ks.length<=6:=ak;have h3:(1048576+2) * min (ks.length - 1) ks.length<=(1048576+2) * 6:=Nat.mul_le_mul_left _ h2;omega
def awv{t:Tn}(hok:I8 t)(hi:ae1 t)(hs:WH t)(hz:t.size<=1048576):WJ (itemD t):=by
 have hss:=aav hs;have h0:=aaV t hs;unfold itemD;rcases Y8 hok hi hs hz with⟨u,hk,hu,hb⟩|⟨hk,hn,hb⟩|⟨hk,h1,h7,u,hu,hn,hb⟩|hk
 ·have h2:=aaV u hb.sm;rw[hu];rcases hk with hk|hk<;>rw[hk]<;>simp only[Int.reduceBEq,aK,bn,yV,Du,rM,Aq,List.getElem?_cons_zero,Option.getD_some]<;>simp[h2]
 ·have h2:=amw _ true hss;rcases hk with hk|hk<;>rw[hk]<;>simp only[Int.reduceBEq,aK,bn,Bool.true_or,Bool.or_true,yV]<;>exact h2
 ·have h2:=aaV u hb.sm;have h3:=amx (aj7 hss) h1 h7 (adV hs);rw[hk,hn];simp only[Int.reduceBEq,aK,bn,Bool.or_false,yV,Du,rM,qK,nS,uM];exact⟨ak,h2,trivial⟩
 ·rw[hk];simp only[Int.reduceBEq,bn,Bool.or_false];exact h0
def aIU{t:Tn}(hok:I8 t)(hi:ae1 t)(hs:WH t)(hz:t.size<=1048576)(w:Bool):M.BI t.kind t.op t.text t.other (fG w t.kids)=some (Hu (itemD t)):=by
 have hss:=aav hs;simp only[jI,M.BI,M.Rj,M.Il,itemD];rcases Y8 hok hi hs hz with⟨u,hk,hu,hb⟩|⟨hk,hn,hb⟩|⟨hk,h1,h7,u,hu,hn,hb⟩|hk
 ·have h2:=aAj hb w;obtain⟨c0,c1,c2,c3,c4⟩:=kG w u;have i0:idx (fG w [u]) 0=some (u.row w):=rfl;have e0:Aq [u] 0=u:=rfl;rw[hu];rcases hk with hk|hk<;>rw[hk]<;>simp only[Int.reduceBEq,aK,bn,e0,i0,c0,c1,c2,c3,c4,h2,kR,ah,MW,MX,MZ,Nh,Nj,Nl,fO,ak1,cZ]
 ·have h2:=aIR hb ak t.kind t.op t.text t.other w;rcases hk with hk|hk<;>rw[hk] at h2|-<;>simp only[Int.reduceBEq,aK,bn,Bool.true_or,Bool.or_true,h2,ah,MW,MX,MZ,Nh,Nj,Nl,cZ]
 ·have h2:=aAj hb w;have h3:=aIS (aj7 hss) h1 ak t.kind t.op t.text t.other (adV hs) w;obtain⟨c0,c1,c2,c3,c4⟩:=kG w u;have hw:i64.wrap (((fG w t.kids).length:Int) - 1)=((t.kids.length - 1:Nat):Int):=by rw[gW,aB ak ak];omega
  have hr:((Zn t.text t.kids).length+1).ble 9223372036854775807=true:=aN (by have:=h3.2;omega);rw[hk] at h3|-;rw[hn];simp only[Int.reduceBEq,aK,bn,Bool.or_false,h3.1,hr,hw,FP w hu,c0,c1,c2,c3,c4,h2,kR,ah,MW,MX,MZ,Nh,Nj,Nl,fO,ak1,cZ]
 ·have h2:=M.agJ ((aAi t hok (by constructor<;>omega) hs hz).1 w (4 * t.size) (zaP _));rw[hk] at h2|-;simp only[Int.reduceBEq,bn,Bool.or_false,h2,ah,MW,MX,MZ,Nh,Nj,Nl,cZ]
def aaA:∀(L:List Tn) (x:Tn),I4 (L++[x])=I4 L++[itemD x,UG]
 |[],x=>rfl
 |y::L,x=>by rw[Yr,I4,I4,aaA L x];rfl
def acG:∀(L:List Tn),(I4 L).length=2 * L.length
 |[]=>rfl
 |y::L=>by have:=acG L;rw[I4,nS,nS,this,nS];omega
structure It(u:Tn):Prop where
 ok:I8 u
 i:ae1 u
 sm:WH u
 sz:u.size<=1048576
def afZ:∀{L:List Tn},(∀u,u∈L->It u)->sizes (I4 L)<=40 * sizes L
 |[],_=>zaP _
 |u::l,h=>by have h1:=afZ (λv hv=>h v (zmm _ hv));have hu:=h u zmf;have h2:=aj8 hu.ok hu.i hu.sm hu.sz;rw[I4,sizes,sizes,sizes,adR];omega
def aj9:∀{L:List Tn},(∀u,u∈L->It u)->Du (I4 L)
 |[],_=>trivial
 |u::l,h=>by have h1:=aj9 (λv hv=>h v (zmm _ hv));have hu:=h u zmf;exact⟨awv hu.ok hu.i hu.sm hu.sz,ajZ,h1⟩
def aIV{t:Tn}(hok:I8 t)(hk:t.kind=45)(hs:WH t)(hz:t.size<=1048576):∀u,u∈t.kids->It u:=by
 intro u hu;have hss:=aav hs;have hks:=t.vk;obtain⟨k,op,x,y,ks⟩:=t;simp only[Tn.kids,Tn.kind] at *;obtain⟨j,hj⟩:=List.mem_iff_getElem?.1 hu;obtain⟨h1,h2⟩:=Pq hok hj;have hc:cls k op ks.length j=5:=by subst hk;simp[cls]
 rw[hc] at h1;have:=iO hu;exact⟨h2,h1,yU hss hu,ak⟩
def an4(s:aC)(h0:s≠[])(hs:s.length<=4000000):M.KU s 0=some ((opF s Yd 0 0 0).1,((ajF s Yd 0:Nat):Int)):=by
 have hl:Yd.length=39:=rfl;have hn:1<=s.length:=by cases s with|nil=>exact absurd rfl h0|cons=>simp
 simp only[M.KU,M.Xb,M.Vq,arb,ah];rw[auP s Yd (λi g k m hg hm=> ?_) (λk m=> ?_) az7,ah,ahi]
 ·have hi:=(PU.1 hg).1;rw[hl] at hi;have hg2:=az7 g (En hg);have hw1:i64.wrap (30+(i:Int))=30+(i:Int):=aB ak ak;have hw2:i64.wrap ((i:Int)+1)=(i:Int)+1:=aB ak ak;have hw3:i64.wrap ((s.length:Int) - 0)=(s.length:Int):=by rw[aB ak ak];omega
  have hw4:i64.wrap (0+(g.length:Int))=(g.length:Int):=by rw[aB ak ak];omega
  simp only[M.Wh,M.J9,rG,bC,Yc,Xm,hg,O9,ah,cS0,hw1,hw2,hw3,hw4,hl];rw[zdt (show((i:Int))<((39:Nat):Int) by omega),aK,zdt (show(0:Int)>=0 by omega),aK,zdt (show(0:Int)<=(s.length:Int) by omega),aK]
  by_cases hq:g.length<=s.length
  ·rw[zdt ak,aK,awq s g.length hq,ah,pre_eq g s hq,aaS];cases Nat.blt m g.length<;>cases g.isPrefixOf s<;>rfl
  ·rw[pq ak,bn,amg g s ak,Bool.and_false];rfl
 ·simp only[M.Wh,M.J9,rG];rw[pq ak,bn]
def ae2(a b:Tk)(ha:a.text.length<=2000000)(hb:b.text.length<=2000000):M.vZ a.kind a.text a.at_ b.kind b.text b.at_=some (KC a b):=by
 rw[afX];simp only[M.vZ,M.Oz,M.zx]
 by_cases h1:a.text=[]
 ·rw[show(a.text==[])=true by simpa using h1,aK,aK]
 ·rw[show(a.text==[])=false by simpa using h1,bn,bn]
  by_cases h2:b.text=[]
  ·rw[show(b.text==[])=true by simpa using h2,aK,aK]
  ·obtain⟨c,hc,hc'⟩:=arH h1 ha;obtain⟨d,hd,hd'⟩:=auQ h2;have hop:=an4 (a.text++b.text) (by simp[h1]) (by simp only[qK];omega);rw[show(b.text==[])=false by simpa using h2,bn,bn,hc',hd'];have hnn:∀(c:Bool) (r:Bool),some (bif !c then false else r)=bif c then some r else some false:=by intro c r;cases c<;>rfl
   simp only[hc,hd,ah,auR,Um,gV,hop,aaS,ge_iff_le,acD,anY,Yo,hnn,aN (show a.text.length+b.text.length<=9223372036854775807 by omega),aK]
def room{n:Nat}(h:n<=1000000000):n.ble 140737488355328=true:=aN ak
def RI{n:Nat}(h:n<=1000000000):(n * 32).ble 140737488355328=true:=aN ak
def aaB{k op:Int}{x y:aC}{r:au}{j:Nat}{p:Ps}(he:1<=k/\k<=15)(hc:Cnt k op y r.length)(hj:j<r.length)(hr:r.length<=1048576):
  M.fZ k op x y r (j:Int) p.level p.nN p.tZ p.uf p.lY=some (dQ k op r.length j p).FQ:=by
 have hb:Nat.blt j r.length=true:=by rw[Nat.blt_eq];exact hj
 have hl:=Xi he hc;have hz:(lvl k op==0)=false:=by rw[KL];omega
 have ho:=ajG op;have h15:(AL op==15)=false:=by rw[KL];omega
 have h2:k=12->j=0\/j=1:=λe=>by have:=hc.two ak;omega
 have hk:k=1\/k=2\/k=3\/k=4\/k=5\/k=6\/k=7\/k=8\/k=9\/k=10\/k=11\/k=13\/k=14\/k=15\/k=12:=ak;simp only[M.fZ,M.TS,(adT p).2,gV,auO j r.length hr,hb,(Y6 k op x y r).2,hz,atv,Ed.2,ah,many,nb0,gt0,dQ,zaO,Bool.false_or,bn];cases nV p with
 |false=>rfl
 |true=>
  rcases hk with rfl|rfl|rfl|rfl|rfl|rfl|rfl|rfl|rfl|rfl|rfl|rfl|rfl|rfl|rfl
  case inr.inr.inr.inr.inr.inr.inr.inr.inr.inr.inr.inr.inr.inr=>have hl12:lvl 12 op=AL op:=rfl;rw[hl12,h15];rcases h2 rfl with rfl|rfl<;>cases p.lY<;>simp[Ps.FQ,Y1,show Nat.beq 1 0=false from rfl]
  all_goals(cases p.lY<;>cases hq:Nat.beq j 0<;>cases hm:Nat.blt 1 r.length<;>simp[lvl,Ps.FQ,Ps.top,Y1,hq,hm])
def PS(t:Tn):Prop:=∀(o:Bool) (f:Nat) (p:Ps) (l:List Nd) (b:Nat),l.length<=1048576->Lies l b t->5 * t.size<=f->nV p=true->
 M.E9 f (aZ o l) false ((b+sizes t.kids:Nat):Int) p.level p.nN p.tZ p.uf p.lY=some (iP (xP t p))
def aYb{u:Tn}(hS:PS u){o:Bool}{f:Nat}{p:Ps}{l:List Nd}{b:Nat}(hl:l.length<=1048576)(h:Lies l b u)(hf:5 * u.size+1<=f)(hp:nV p=true):
  M.wF f (aZ o l) false ((b+sizes u.kids:Nat):Int) p.level p.nN p.tZ p.uf p.lY=some (iP (aby u p)):=by
 obtain⟨g,rfl⟩:∃g,f=g+1:=⟨f - 1,ak⟩
 have hlt:=h.lt;have h1:=hS o g p l b hl h ak hp;have h2:=hS o g .top l b hl h ak rfl;have hb:=rH u .top;have hr:idx (aZ o l) ((b+sizes u.kids:Nat):Int)=some (XY o ⟨u.kind,u.op,u.text,u.other,ends u.kids b⟩):=by rw[bC,ql,Lies.root' h];rfl
 have e1:=(nD 32 (by constructor<;>decide)).2;have e2:=(nD 33 (by constructor<;>decide)).2;simp only[Ps.top] at h2 hb;rw[M.anq];simp only[jI,M.Lu,M.NR,M.TU,hr,ah,NJ,PG,Pn,PI,JM,(ahh u.kind u.op u.text u.other _ p).2,Bool.not_false,aK,bn,aby];cases fits u.kind u.op p with
 |true=>simp only[aK,h1,ah,dF]
 |false=>simp(disch:=omega) only[bn,e1,e2,Ed.2,ah,h2,yT,<-nO,eU,qK,IU,nS,uM,room,RI,dF,aK,Ps.top];rfl
def amy:∀(L:List (List Tk)) (b:Bool) (x:List Tk),IZ b (L++[x])=IZ b L++(bif L.isEmpty && b then x else tok 36::x)
 |[],b,x=>by cases b<;>simp[IZ]
 |y::L,b,x=>by rw[Yr,IZ,IZ,amy L false x];simp
def KH(ks:List Tn):List (List Tk):=ks.map λu=>aby u .top
def amA:∀ks:List Tn,XC (KH ks)+2 * ks.length<=8 * sizes ks
 |[]=>by simp[KH,XC,sizes]
 |t::ts=>by have h1:=ami t .top;have h2:=amA ts;simp only[KH,RQ,XC,sizes,nS] at h2|-;omega
def acH(ks:List Tn)(b:Bool):(IZ b (KH ks)).length<=9 * sizes ks:=by
 have h1:=aat (KH ks) b;have h2:=amA ks;have h3:(KH ks).length=ks.length:=by simp[KH]
 omega
def akb{k op:Int}{n:Nat}{p:Ps}(ht:∀j,qL k j=false)(hq:∀j,j<n->dQ k op n j p=.top):∀(ts:List Tn) (j:Nat),j+ts.length=n->jM k op n p ts j=KH ts
 |[],j,_=>by rw[jM];rfl
 |t::ts,j,hj=>by rw[nS] at hj;rw[jM,hq j ak,ht j,akb ht hq ts (j+1) ak,Bool.false_or];rfl
def At(l:List Nd)(b:Nat)(ks:List Tn):Prop:=∀j u,ks[j]? =some u->Lies l (b+sizes (ks.take j)) u
def mJ{ks:List Tn}{b j:Nat}{u:Tn}(hj:ks[j]? =some u):idx (encI (ends ks b)) (j:Int)=some [D.int .i64 ((b+sizes (ks.take j)+sizes u.kids:Nat):Int)]:=by rw[bC,lC,YV hj];rfl
def aAp{ks:List Tn}(ih:∀u,u∈ks->PS u){o:Bool}{f:Nat}{l:List Nd}{b:Nat}(hl:l.length<=1048576)(hat:At l b ks)(hf:5 * sizes ks+2<=f)(hu:sizes ks<=1048575):
  M.E5 f (aZ o l) false (encI (ends ks b))=some (iP (IZ true (KH ks))):=by
 obtain⟨g,rfl⟩:∃g,f=g+1:=⟨f - 1,ak⟩
 have hkl:=jC ks;have e1:=(nD 36 (by constructor<;>decide)).2;have hloop:=iY (b:=M.Jp (M.wF g) (encI (ends ks b)) (aZ o l) false) (t:=((ks.length:Int),iP (IZ true (KH ks)))) (λj=>((j:Int),iP (IZ true (KH (ks.take j))))) ks.length
  (by
   intro j hj;obtain⟨u,hu'⟩:∃u,ks[j]? =some u:=⟨ks[j],by simp[hj]⟩
   have hus:=iO (En hu');have hst:=KA hu';have ha:=aYb (ih u (En hu')) (o:=o) (f:=g) (p:=.top) hl (hat j u hu') ak rfl;have hi:=mJ (b:=b) hu';have hel:=ami u .top;have hcl:=acH (ks.take j) true;have hsn:IZ true (KH (ks.take (j+1)))=IZ true (KH (ks.take j))++(bif(KH (ks.take j)).isEmpty && true then aby u .top else tok 36::aby u .top):=by rw[gu hu',KH,List.map_append];exact amy _ _ _
   have hw:i64.wrap ((j:Int)+1)=((j+1:Nat):Int):=by rw[aB ak ak];omega
   simp only[Ps.top] at ha hel;rw[hsn];simp only[jI,M.Jp,M.Ce,aV,eX];rw[zdt ak,aK]
   by_cases h0:j=0
   ·subst h0;rw[pq ak,bn];have z:(KH (ks.take 0)).isEmpty=true:=rfl;simp(disch:=omega) only[hi,ah,KT,Ed.2,ha,<-nO,eU,qK,room,RI,aK,hw,z,Bool.and_true,Ps.top]
   ·rw[zdt ak,aK];have z:(KH (ks.take j)).isEmpty=false:=by
     have hl2:(KH (ks.take j)).length=j:=by rw[KH,zaQ,XE];omega
     cases hq:KH (ks.take j) with
     |nil=>rw[hq,uM] at hl2;omega
     |cons _ _=>rfl
    simp(disch:=omega) only[hi,ah,KT,Ed.2,ha,e1,yT,<-nO,eU,qK,IU,nS,uM,room,RI,aK,bn,hw,z,Bool.false_and,Ps.top];simp)
  (by simp only[jI,M.Jp,M.Ce,aV,eX];rw[pq ak,bn,List.take_length]) 0 (Nat.zero_le _)
 have e0:iP (IZ true (KH (ks.take 0)))=[]:=rfl;rw[oQ,e0] at hloop;rw[M.aiG];simp only[M.EZ,M.Oy,hloop,ah,dF,aK]
def abA{ks:List Tn}(ih:∀u,u∈ks->PS u){o:Bool}{f:Nat}{l:List Nd}{b:Nat}{k op:Int}{x y:aC}{p:Ps}{j:Nat}{u:Tn}(he:1<=k/\k<=15)(hc:Cnt k op y ks.length)(hp:nV p=true)(hl:l.length<=1048576)(hat:At l b ks)(hf:5 * sizes ks+1<=f)(hu:sizes ks<=1048575)(hj:ks[j]? =some u)(ht:qL k j=false):
  (idx (encI (ends ks b)) (j:Int)=some [D.int .i64 ((b+sizes (ks.take j)+sizes u.kids:Nat):Int)]/\
   M.fZ k op x y (encI (ends ks b)) (j:Int) p.level p.nN p.tZ p.uf p.lY=some (dQ k op ks.length j p).FQ/\
   M.wF f (aZ o l) false ((b+sizes (ks.take j)+sizes u.kids:Nat):Int) (dQ k op ks.length j p).FQ.1 (dQ k op ks.length j p).FQ.2.1 (dQ k op ks.length j p).FQ.2.2.1 (dQ k op ks.length j p).FQ.2.2.2.1 (dQ k op ks.length j p).FQ.2.2.2.2=some (iP (wI k op ks.length p j u)))/\(wI k op ks.length p j u).length+2<=8 * u.size:=by
 have hkl:=jC ks;have hus:=iO (En hj);have hjl:j<ks.length:=(PU.1 hj).1;have hen:(encI (ends ks b)).length=ks.length:=by rw[aV,eX]
 have hlv:lvl k op≠0:=by have:=Xi he hc;omega
 refine⟨⟨mJ hj, ?_, ?_⟩,RH (rH u)⟩
 ·have h:=aaB (x:=x) (r:=encI (ends ks b)) (j:=j) (p:=p) he (by rw[hen];exact hc) ak ak;rw[hen] at h;exact h
 ·have h:=aYb (ih u (En hj)) (o:=o) (f:=f) (p:=dQ k op ks.length j p) hl (hat j u hj) ak (xQ hp hjl hlv);rw[wI,ht,Bool.false_or];exact h
def an5{ks:List Tn}(ih:∀u,u∈ks->PS u){o:Bool}{f:Nat}{l:List Nd}{b:Nat}(hl:l.length<=1048576)(hat:At l b ks)(hf:5 * sizes ks+3<=f)(hu:sizes ks<=1048575)(t':Int)(x:aC)(c:Int)(hop:c=32\/c=34):
  M.Ia f (aZ o l) false t' x 0 (encI (ends ks b)) c=some (iP (⟨t',x,0⟩::tok c::(IZ true (KH ks)++[tok (c+1)]))):=by
 obtain⟨g,rfl⟩:∃g,f=g+1:=⟨f - 1,ak⟩
 have h1:=aAp ih (o:=o) (f:=g) (b:=b) hl hat ak hu;have h2:=acH ks true;have e1:=(nD c (by rcases hop with rfl|rfl<;>constructor<;>decide)).2;have e2:=(nD (c+1) (by rcases hop with rfl|rfl<;>constructor<;>decide)).2;have e3:i64.wrap (c+1)=c+1:=by rcases hop with rfl|rfl<;>rfl
 have hr:([[D.int .i64 t',D.str x,D.int .i64 0],[D.int .i64 c,D.str (spell c),D.int .i64 0]]:au)=iP [⟨t',x,0⟩,tok c]:=rfl;rw[M.agk];simp(disch:=omega) only[jI,M.AZ,e1,e2,e3,h1,ah,hr,yT (c+1),<-nO,eU,qK,IU,nS,uM,room,RI,dF,aK];simp
def akc{u:Tn}(hS:PS u)(hok:I8 u)(he:Zv u)(hh:13<=lvl u.kind u.op){o:Bool}{f:Nat}{l:List Nd}{b:Nat}(hl:l.length<=1048576)(h:Lies l b u)(hf:5 * u.size+1<=f)(p:Ps)(hp:nV p=true):
  M.E8 f (aZ o l) false ((b+sizes u.kids:Nat):Int)=some (iP (xP u p)):=by
 obtain⟨g,rfl⟩:∃g,f=g+1:=⟨f - 1,ak⟩
 have h1:=hS o g ⟨14,false,false,false,false⟩ l b hl h ak rfl;rw[atr u hok hh he _ p rfl hp] at h1;rw[M.aeC];simp only[M.zu,h1,ah,dF,aK]
def aaC(k:Int)(h:k=12\/k=14\/k=6\/k=11\/k=13)(j:Nat):qL k j=false:=by rcases h with rfl|rfl|rfl|rfl|rfl<;>simp[qL]
def au2{ks:List Tn}(ih:∀u,u∈ks->PS u){o:Bool}{f:Nat}{l:List Nd}{b:Nat}{k op:Int}{x y:aC}{p:Ps}(hk:k=12\/k=14)(hc:Cnt k op y ks.length)(hp:nV p=true)(hl:l.length<=1048576)(hat:At l b ks)(hf:5 * sizes ks+2<=f)(hu:sizes ks<=1048575):
  M.Ib f (aZ o l) false k op x y (encI (ends ks b)) p.level p.nN p.tZ p.uf p.lY=some (iP (JL k op ks.length x (jM k op ks.length p ks 0))):=by
 obtain⟨g,rfl⟩:∃g,f=g+1:=⟨f - 1,ak⟩
 rw[M.agl];rcases hk with rfl|rfl
 ·obtain⟨u,v,rfl⟩:=Py (hc.two ak);have hsz:=sz2 u v;obtain⟨⟨a1,a2,a3⟩,a4⟩:=abA ih (o:=o) (f:=g) (b:=b) (k:=12) (op:=op) (x:=x) (y:=y) (p:=p) (j:=0) (u:=u) ak hc hp hl hat ak hu rfl (aaC 12 ak 0);obtain⟨⟨b1,b2,b3⟩,b4⟩:=abA ih (o:=o) (f:=g) (b:=b) (k:=12) (op:=op) (x:=x) (y:=y) (p:=p) (j:=1) (u:=v) ak hc hp hl hat ak hu rfl (aaC 12 ak 1);rw[oQ] at a1 a2;rw[Y7] at b1 b2;generalize (dQ 12 op [u,v].length 0 p).FQ=q0 at a2 a3;generalize hk0:wI 12 op [u,v].length p 0 u=K0 at a3 a4;generalize (dQ 12 op [u,v].length 1 p).FQ=q1 at b2 b3;generalize hk1:wI 12 op [u,v].length p 1 v=K1 at b3 b4;rw[aau,hk0,hk1]
  by_cases h99:op=99
  ·have e99:(op !=99)=false:=by simp[h99]
   simp(disch:=omega) only[jI,M.uJ,a1,a2,a3,b1,b2,b3,KT,ah,Int.reduceBEq,e99,bn,<-nO,eU,qK,IU,nS,uM,room,RI,dF,aK];simp[JL,Dl,h99]
  ·have e99:(op !=99)=true:=by simpa using h99
   have e98:(op==99)=false:=by simpa using h99
   have e1:=(nD op (ahk (hc.bin rfl).1)).2;simp(disch:=omega) only[jI,M.uJ,a1,a2,a3,b1,b2,b3,e1,KT,ah,Int.reduceBEq,e99,bn,yT,<-nO,eU,qK,IU,nS,uM,room,RI,dF,aK];simp[JL,Dl,e98]
 ·obtain⟨u,v,z,rfl⟩:=Yp (hc.three rfl);have hsz:=sz3 u v z;obtain⟨⟨a1,a2,a3⟩,a4⟩:=abA ih (o:=o) (f:=g) (b:=b) (k:=14) (op:=op) (x:=x) (y:=y) (p:=p) (j:=0) (u:=u) ak hc hp hl hat ak hu rfl (aaC 14 ak 0);obtain⟨⟨b1,b2,b3⟩,b4⟩:=abA ih (o:=o) (f:=g) (b:=b) (k:=14) (op:=op) (x:=x) (y:=y) (p:=p) (j:=1) (u:=v) ak hc hp hl hat ak hu rfl (aaC 14 ak 1);obtain⟨⟨c1,c2,c3⟩,c4⟩:=abA ih (o:=o) (f:=g) (b:=b) (k:=14) (op:=op) (x:=x) (y:=y) (p:=p) (j:=2) (u:=z) ak hc hp hl hat ak hu rfl (aaC 14 ak 2);rw[oQ] at a1 a2;rw[Y7] at b1 b2;rw[awt] at c1 c2;generalize (dQ 14 op [u,v,z].length 0 p).FQ=q0 at a2 a3;generalize hk0:wI 14 op [u,v,z].length p 0 u=K0 at a3 a4;generalize (dQ 14 op [u,v,z].length 1 p).FQ=q1 at b2 b3;generalize hk1:wI 14 op [u,v,z].length p 1 v=K1 at b3 b4;generalize (dQ 14 op [u,v,z].length 2 p).FQ=q2 at c2 c3;generalize hk2:wI 14 op [u,v,z].length p 2 z=K2 at c3 c4;rw[az9,hk0,hk1,hk2];have e1:=(nD 65 (by constructor<;>decide)).2;have e2:=(nD 66 (by constructor<;>decide)).2;simp(disch:=omega) only[jI,M.uJ,a1,a2,a3,b1,b2,b3,c1,c2,c3,e1,e2,KT,ah,Int.reduceBEq,bn,yT,<-nO,eU,qK,IU,nS,uM,room,RI,dF,aK];simp[JL,Dl]
end Go.Proofs.YtajjpadmdmehmaaGreatDoor
