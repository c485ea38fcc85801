import Derived.Test.YtbkndkcpmnjaeaaGreatDoorXSpec2
import Derived.Test.YtbkndkcpmnjaeaaGreatDoorXRend
set_option linter.defProp false
namespace Go.Proofs.YtbkndkcpmnjaeaaGreatDoor
set_option linter.unusedVariables false
set_option linter.unusedSimpArgs false
open Go Go.Vm
open Go.IntKind (i64)
def Xe{ks:List Tn}(ih:∀u,u∈ks->PS u){o:Bool}{f:Nat}{l:List Nd}{b:Nat}{k op:Int}{x y:aF}{p:Ps}{j:Nat}{u:Tn}(he:1<=k∧k<=15)(hc:Cnt k op y ks.length)(hp:kX p=true)(hl:l.length<=1048576)(hat:At l b ks)(hf:5 * sizes ks+1<=f)(hu:sizes ks<=1048575)(hj:ks[j]? =some u)(ht:oH k j=false):
  (idx (encI (ends ks b)) (j:Int)=some [D.int .i64 ((b+sizes (ks.take j)+sizes u.kids:Nat):Int)]∧
   M.dY k op x y (encI (ends ks b)) (j:Int) p.level p.lJ p.qK p.qL p.kT=some (dG k op ks.length j p).zL∧
   M.sU f (aN o l) false ((b+sizes (ks.take j)+sizes u.kids:Nat):Int) (dG k op ks.length j p).zL.1 (dG k op ks.length j p).zL.2.1 (dG k op ks.length j p).zL.2.2.1 (dG k op ks.length j p).zL.2.2.2.1 (dG k op ks.length j p).zL.2.2.2.2=some (kJ (sZ k op ks.length p j u)))∧(sZ k op ks.length p j u).length+2<=8 * u.size:=by
 have hkl:=lV ks;have hus:=lu (Ib hj);have hjl:j<ks.length:=(Jm.1 hj).1;have hen:(encI (ends ks b)).length=ks.length:=by rw[aZ,dP]
 have hlv:lvl k op≠0:=by have:=NT he hc;omega
 refine⟨⟨ER hj, ?_, ?_⟩,KY (oW u)⟩
 ·have h:=VP (x:=x) (r:=encI (ends ks b)) (j:=j) (p:=p) he (by rw[hen];exact hc) au au;rw[hen] at h;exact h
 ·have h:=aMe (ih u (Ib hj)) (o:=o) (f:=f) (p:=dG k op ks.length j p) hl (hat j u hj) au (rW hp hjl hlv);rw[sZ,ht,Bool.false_or];exact h
def aib{ks:List Tn}(ih:∀u,u∈ks->PS u){o:Bool}{f:Nat}{l:List Nd}{b:Nat}(hl:l.length<=1048576)(hat:At l b ks)(hf:5 * sizes ks+3<=f)(hu:sizes ks<=1048575)(t':Int)(x:aF)(c:Int)(hop:c=32∨c=34):
  M.Dl f (aN o l) false t' x 0 (encI (ends ks b)) c=some (kJ (⟨t',x,0⟩::tok c::(DW true (F5 ks)++[tok (c+1)]))):=by
 obtain⟨g,rfl⟩:∃g,f=g+1:=⟨f - 1,au⟩
 have h1:=auj ih (o:=o) (f:=g) (b:=b) hl hat au hu;have h2:=Yf ks true;have e1:=(kY c (by rcases hop with rfl|rfl<;>constructor<;>decide)).2;have e2:=(kY (c+1) (by rcases hop with rfl|rfl<;>constructor<;>decide)).2;have e3:i64.wrap (c+1)=c+1:=by rcases hop with rfl|rfl<;>rfl
 have hr:([[D.int .i64 t',D.str x,D.int .i64 0],[D.int .i64 c,D.str (spell c),D.int .i64 0]]:aA)=kJ [⟨t',x,0⟩,tok c]:=rfl;rw[M.abR];simp(disch:=omega) only[mg,M.xI,e1,e2,e3,h1,ah,hr,vO (c+1),<-lH,gu,rX,Le,oh,zM,room,KZ,cO,aU];simp
def aeT{u:Tn}(hS:PS u)(hok:zH u)(he:RY u)(hh:13<=lvl u.kind u.op){o:Bool}{f:Nat}{l:List Nd}{b:Nat}(hl:l.length<=1048576)(h:Lies l b u)(hf:5 * u.size+1<=f)(p:Ps)(hp:kX p=true):
  M.AP f (aN o l) false ((b+sizes u.kids:Nat):Int)=some (kJ (uF u p)):=by
 obtain⟨g,rfl⟩:∃g,f=g+1:=⟨f - 1,au⟩
 have h1:=hS o g ⟨14,false,false,false,false⟩ l b hl h au rfl;rw[amG u hok hh he _ p rfl hp] at h1;rw[M.aaj];simp only[M.wB,h1,ah,cO,aU]
def VQ(k:Int)(h:k=12∨k=14∨k=6∨k=11∨k=13)(j:Nat):oH k j=false:=by rcases h with rfl|rfl|rfl|rfl|rfl<;>simp[oH]
def aod{ks:List Tn}(ih:∀u,u∈ks->PS u){o:Bool}{f:Nat}{l:List Nd}{b:Nat}{k op:Int}{x y:aF}{p:Ps}(hk:k=12∨k=14)(hc:Cnt k op y ks.length)(hp:kX p=true)(hl:l.length<=1048576)(hat:At l b ks)(hf:5 * sizes ks+2<=f)(hu:sizes ks<=1048575):
  M.Dn f (aN o l) false k op x y (encI (ends ks b)) p.level p.lJ p.qK p.qL p.kT=some (kJ (EY k op ks.length x (iJ k op ks.length p ks 0))):=by
 obtain⟨g,rfl⟩:∃g,f=g+1:=⟨f - 1,au⟩
 rw[M.abS];rcases hk with rfl|rfl
 ·obtain⟨u,v,rfl⟩:=Uz (hc.two au);have hsz:=sz2 u v;obtain⟨⟨a1,a2,a3⟩,a4⟩:=Xe ih (o:=o) (f:=g) (b:=b) (k:=12) (op:=op) (x:=x) (y:=y) (p:=p) (j:=0) (u:=u) au hc hp hl hat au hu rfl (VQ 12 au 0);obtain⟨⟨b1,b2,b3⟩,b4⟩:=Xe ih (o:=o) (f:=g) (b:=b) (k:=12) (op:=op) (x:=x) (y:=y) (p:=p) (j:=1) (u:=v) au hc hp hl hat au hu rfl (VQ 12 au 1);rw[vM] at a1 a2;rw[Zk] at b1 b2;generalize (dG 12 op [u,v].length 0 p).zL=q0 at a2 a3;generalize hk0:sZ 12 op [u,v].length p 0 u=K0 at a3 a4;generalize (dG 12 op [u,v].length 1 p).zL=q1 at b2 b3;generalize hk1:sZ 12 op [u,v].length p 1 v=K1 at b3 b4;rw[VL,hk0,hk1]
  by_cases h99:op=99
  ·have e99:(op !=99)=false:=by simp[h99]
   simp(disch:=omega) only[mg,M.qR,a1,a2,a3,b1,b2,b3,Qa,ah,Int.reduceBEq,e99,bZ,<-lH,gu,rX,Le,oh,zM,room,KZ,cO,aU];simp[EY,yY,h99]
  ·have e99:(op !=99)=true:=by simpa using h99
   have e98:(op==99)=false:=by simpa using h99
   have e1:=(kY op (acJ (hc.bin rfl).1)).2;simp(disch:=omega) only[mg,M.qR,a1,a2,a3,b1,b2,b3,e1,Qa,ah,Int.reduceBEq,e99,bZ,vO,<-lH,gu,rX,Le,oh,zM,room,KZ,cO,aU];simp[EY,yY,e98]
 ·obtain⟨u,v,z,rfl⟩:=Zj (hc.three rfl);have hsz:=sz3 u v z;obtain⟨⟨a1,a2,a3⟩,a4⟩:=Xe ih (o:=o) (f:=g) (b:=b) (k:=14) (op:=op) (x:=x) (y:=y) (p:=p) (j:=0) (u:=u) au hc hp hl hat au hu rfl (VQ 14 au 0);obtain⟨⟨b1,b2,b3⟩,b4⟩:=Xe ih (o:=o) (f:=g) (b:=b) (k:=14) (op:=op) (x:=x) (y:=y) (p:=p) (j:=1) (u:=v) au hc hp hl hat au hu rfl (VQ 14 au 1);obtain⟨⟨c1,c2,c3⟩,c4⟩:=Xe ih (o:=o) (f:=g) (b:=b) (k:=14) (op:=op) (x:=x) (y:=y) (p:=p) (j:=2) (u:=z) au hc hp hl hat au hu rfl (VQ 14 au 2);rw[vM] at a1 a2;rw[Zk] at b1 b2;rw[ayE] at c1 c2;generalize (dG 14 op [u,v,z].length 0 p).zL=q0 at a2 a3;generalize hk0:sZ 14 op [u,v,z].length p 0 u=K0 at a3 a4;generalize (dG 14 op [u,v,z].length 1 p).zL=q1 at b2 b3;generalize hk1:sZ 14 op [u,v,z].length p 1 v=K1 at b3 b4;generalize (dG 14 op [u,v,z].length 2 p).zL=q2 at c2 c3;generalize hk2:sZ 14 op [u,v,z].length p 2 z=K2 at c3 c4;rw[auc,hk0,hk1,hk2];have e1:=(kY 65 (by constructor<;>decide)).2;have e2:=(kY 66 (by constructor<;>decide)).2;simp(disch:=omega) only[mg,M.qR,a1,a2,a3,b1,b2,b3,c1,c2,c3,e1,e2,Qa,ah,Int.reduceBEq,bZ,vO,<-lH,gu,rX,Le,oh,zM,room,KZ,cO,aU];simp[EY,yY]
def acK{k op:Int}{ks:List Tn}{p:Ps}(hp:kX p=true)(h:(lvl k op=15)∨(k=13∧Nat.blt 1 ks.length=true∧lvl k op≠0))(ht:∀j,oH k j=false):iJ k op ks.length p ks 0=F5 ks:=by
 refine aeS ht (λj hj=> ?_) ks 0 au;rcases h with h|⟨h1,h2,h3⟩
 ·exact FY hp hj h
 ·have hb:Nat.blt j ks.length=true:=by rw[Nat.blt_eq];exact hj
  have h4:(lvl k op==0)=false:=by simpa using h3
  subst h1;unfold dG;rw[hp,hb,h4,h2];simp
def acL(k:Int)(x:aF):([[D.int .i64 k,D.str x,D.int .i64 0]]:aA)=kJ [⟨k,x,0⟩]:=rfl
def ak5(x:aF):([[D.int .i64 24,D.str (spell 24),D.int .i64 0],[D.int .i64 6,D.str x,D.int .i64 0]]:aA)=kJ [tok 24,⟨6,x,0⟩]:=rfl
set_option maxHeartbeats 2000000 in
def apB(t:Tn):zH t->RY t->t.size<=1048576->PS t:=by
 refine Tn.ind (P:=λt=>zH t->RY t->t.size<=1048576->PS t) ?_ t;intro k op x y ks ih hok he hsz;intro o f p l b hl h hf hp;have aWi:=h;simp only[RY,Tn.kind] at he;have hc:=Ji hok;have hsz':sizes ks+1=(Tn.mk k op x y ks).size:=by rw[Tn.size]
 have ih':∀u,u∈ks->PS u:=by intro u hu;obtain⟨i,hi⟩:=List.mem_iff_getElem?.1 hu;obtain⟨h1,h2⟩:=UL hok he hi;have:=lu hu;exact ih u hu h2 h1 au
 have hat:At l b ks:=λj u hj=>Lies.Jg h hj
 obtain⟨g,rfl⟩:∃g,f=g+1:=⟨f - 1,au⟩
 have hr:idx (aN o l) ((b+sizes ks:Nat):Int)=some (JC o ⟨k,op,x,y,ends ks b⟩):=by have hr0:l[b+sizes ks]? =some ⟨k,op,x,y,ends ks b⟩:=Lies.root' h;rw[bW,iF,hr0];rfl
 have hkl:=lV ks;have tgt:∀{u:Tn},ks[0]? =some u->cls k op ks.length 0=6->zH u∧RY u∧13<=lvl u.kind u.op:=by intro u hu hcls;obtain⟨h1,h2⟩:=UL hok he hu;obtain⟨h3,_⟩:=OV hok hu;rw[hcls] at h3;exact⟨h2,h1,(ahV h3).1⟩
 rw[M.aei,Tn.kids];have hk:k=1∨k=2∨k=3∨k=4∨k=5∨k=7∨k=8∨k=6∨k=9∨k=10∨k=11∨k=13∨k=15∨k=12∨k=14:=au;rw[uF];rcases hk with rfl|rfl|rfl|rfl|rfl|rfl|rfl|rfl|rfl|rfl|rfl|rfl|rfl|rfl|rfl
 ·simp only[mg,M.fH,hr,ah,Oz,Ru,QU,Rw,Lj,M.bY,M.bM,Int.reduceBEq,Int.reduceBNe,aU,bZ,acL];rfl
 ·simp only[mg,M.fH,hr,ah,Oz,Ru,QU,Rw,Lj,M.bY,M.bM,Int.reduceBEq,Int.reduceBNe,aU,bZ,acL];rfl
 ·simp only[mg,M.fH,hr,ah,Oz,Ru,QU,Rw,Lj,M.bY,M.bM,Int.reduceBEq,Int.reduceBNe,aU,bZ,acL];rfl
 ·simp only[mg,M.fH,hr,ah,Oz,Ru,QU,Rw,Lj,M.bY,M.bM,Int.reduceBEq,Int.reduceBNe,aU,bZ,acL];rfl
 ·have a1:=aib ih' (o:=o) (f:=g) (b:=b) hl hat au au 6 x 34 (.inr rfl);rw[acK hp (.inl rfl) (λj=>by simp[oH])];simp only[mg,M.fH,hr,ah,Oz,Ru,QU,Rw,Lj,M.bY,M.bM,Int.reduceBEq,Int.reduceBNe,aU,bZ,a1,cO];rfl
 ·have a1:=aib ih' (o:=o) (f:=g) (b:=b) hl hat au au 7 x 32 (.inl rfl);rw[acK hp (.inl rfl) (λj=>by simp[oH])];simp only[mg,M.fH,hr,ah,Oz,Ru,QU,Rw,Lj,M.bY,M.bM,Int.reduceBEq,Int.reduceBNe,aU,bZ,a1,cO];rfl
 ·have a1:=aib ih' (o:=o) (f:=g) (b:=b) hl hat au au 8 x 32 (.inl rfl);rw[acK hp (.inl rfl) (λj=>by simp[oH])];simp only[mg,M.fH,hr,ah,Oz,Ru,QU,Rw,Lj,M.bY,M.bM,Int.reduceBEq,Int.reduceBNe,aU,bZ,a1,cO];rfl
 ·obtain⟨u,rfl⟩:=zlo.1 (hc.one au);have hs1:=sz1 u;have e1:=(kY 68 (by constructor<;>decide)).2;obtain⟨⟨a1,a2,a3⟩,a4⟩:=Xe ih' (o:=o) (f:=g) (b:=b) (k:=6) (op:=op) (x:=x) (y:=y) (p:=p) (j:=0) (u:=u) au hc hp hl hat au au rfl (VQ 6 au 0);rw[vM] at a1 a2;rw[OW];generalize (dG 6 op [u].length 0 p).zL=q0 at a2 a3;generalize sZ 6 op [u].length p 0 u=K0 at a3 a4⊢;simp(disch:=omega) only[mg,M.fH,hr,ah,Oz,Ru,QU,Rw,Lj,M.bY,M.bM,Int.reduceBEq,Int.reduceBNe,aU,bZ,a1,a2,a3,e1,Qa,vO,<-lH,gu,rX,Le,oh,zM,room,KZ,cO];simp[EY,yY]
 ·obtain⟨u,rfl⟩:=zlo.1 (hc.one au);have hs1:=sz1 u;have e1:=(kY op (by rcases hc.stp au with rfl|rfl<;>constructor<;>decide)).2;have a1:=ER (ks:=[u]) (b:=b) (j:=0) (u:=u) rfl;obtain⟨t1,t2,t3⟩:=tgt (u:=u) rfl (by simp[cls]);have a3:=aeT (ih' u (by simp)) t1 t2 t3 (o:=o) (f:=g) (p:=dG 9 op [u].length 0 p) hl (hat 0 u rfl) (by rw[sz1] at hsz';omega) (rW hp (by simp) (by simp[lvl]));have a4:=oW u (dG 9 op [u].length 0 p);rw[sz1] at hsz';rw[vM] at a1;rw[OW,sZ,show oH 9 0=true from rfl,Bool.true_or,aU];generalize uF u (dG 9 op [u].length 0 p)=K0 at a3 a4⊢;simp(disch:=omega) only[mg,M.fH,hr,ah,Oz,Ru,QU,Rw,Lj,M.bY,M.bM,Int.reduceBEq,Int.reduceBNe,aU,bZ,a1,a3,e1,Qa,vO,<-lH,gu,rX,Le,oh,zM,room,KZ,cO];simp[EY,yY]
 ·obtain⟨u,rfl⟩:=zlo.1 (hc.one au);have hs1:=sz1 u;have e1:=(kY op (by rcases hc.stp au with rfl|rfl<;>constructor<;>decide)).2;have a1:=ER (ks:=[u]) (b:=b) (j:=0) (u:=u) rfl;obtain⟨t1,t2,t3⟩:=tgt (u:=u) rfl (by simp[cls]);have a3:=aeT (ih' u (by simp)) t1 t2 t3 (o:=o) (f:=g) (p:=dG 10 op [u].length 0 p) hl (hat 0 u rfl) (by rw[sz1] at hsz';omega) (rW hp (by simp) (by simp[lvl]));have a4:=oW u (dG 10 op [u].length 0 p);rw[sz1] at hsz';rw[vM] at a1;rw[OW,sZ,show oH 10 0=true from rfl,Bool.true_or,aU];generalize uF u (dG 10 op [u].length 0 p)=K0 at a3 a4⊢;simp(disch:=omega) only[mg,M.fH,hr,ah,Oz,Ru,QU,Rw,Lj,M.bY,M.bM,Int.reduceBEq,Int.reduceBNe,aU,bZ,a1,a3,e1,Qa,vO,<-lH,gu,rX,Le,oh,zM,room,KZ,cO];simp[EY,yY]
 ·obtain⟨u,rfl⟩:=zlo.1 (hc.one au);have hs1:=sz1 u;have e1:=(kY op (by rcases hc.una au with rfl|rfl|rfl<;>constructor<;>decide)).2;obtain⟨⟨a1,a2,a3⟩,a4⟩:=Xe ih' (o:=o) (f:=g) (b:=b) (k:=11) (op:=op) (x:=x) (y:=y) (p:=p) (j:=0) (u:=u) au hc hp hl hat au au rfl (VQ 11 au 0);rw[vM] at a1 a2;rw[OW];generalize (dG 11 op [u].length 0 p).zL=q0 at a2 a3;generalize sZ 11 op [u].length p 0 u=K0 at a3 a4⊢;simp(disch:=omega) only[mg,M.fH,hr,ah,Oz,Ru,QU,Rw,Lj,M.bY,M.bM,Int.reduceBEq,Int.reduceBNe,aU,bZ,a1,a2,a3,e1,Qa,vO,<-lH,gu,rX,Le,oh,zM,room,KZ,cO];simp[EY,yY]
 ·have e1:=(kY 24 (by constructor<;>decide)).2;have e2:=(kY 32 (by constructor<;>decide)).2;have e3:=(kY 33 (by constructor<;>decide)).2;obtain⟨u,hu⟩:∃u,ks[0]? =some u:=by have:=hc.some_ au;exact⟨ks[0],by simp⟩
  obtain⟨⟨a1,a2,a3⟩,a4⟩:=Xe ih' (o:=o) (f:=g) (b:=b) (k:=13) (op:=op) (x:=x) (y:=y) (p:=p) (j:=0) (u:=u) au hc hp hl hat au au hu (VQ 13 au 0);have hus:=lu (Ib hu);rw[vM] at a1 a2;have hel:(encI (ends ks b)).length=ks.length:=by rw[aZ,dP]
  cases hm:Nat.blt 1 ks.length with
  |true=>have b1:=auj ih' (o:=o) (f:=g) (b:=b) hl hat au au;have b2:=Yf ks true;rw[acK hp (.inr ⟨rfl,hm,by simp[lvl]⟩) (λj=>by simp[oH])];simp(disch:=omega) only[mg,M.fH,hr,ah,Oz,Ru,QU,Rw,Lj,M.bY,M.bM,Int.reduceBEq,Int.reduceBNe,aU,bZ,a1,a2,a3,b1,e1,e2,e3,Qa,hel,many,hm,ak5,vO 32,vO 33,<-lH,gu,rX,Le,oh,zM,room,KZ,cO];simp[EY,hm]
  |false=>
   have h1:ks.length=1:=by
    have h2:=hc.some_ au;have h3:¬1<ks.length:=by rw[<-Nat.blt_eq,hm];simp
    omega
   obtain⟨u',rfl⟩:=zlo.1 h1;obtain rfl:u'=u:=by simpa using hu
   rw[OW];generalize (dG 13 op [u'].length 0 p).zL=q0 at a2 a3;generalize sZ 13 op [u'].length p 0 u'=K0 at a3 a4⊢;simp(disch:=omega) only[mg,M.fH,hr,ah,Oz,Ru,QU,Rw,Lj,M.bY,M.bM,Int.reduceBEq,Int.reduceBNe,aU,bZ,a1,a2,a3,e1,e2,e3,Qa,hel,many,hm,ak5,<-lH,gu,rX,Le,oh,zM,room,KZ,cO];simp[EY,yY,show Nat.blt 1 1=false from rfl]
 ·obtain⟨u,v,rfl⟩:=Uz (hc.two au);have hsv:=sz2 u v;have e1:=(kY op (by rcases hc.asg rfl with rfl|h<;>constructor<;>omega)).2;have a1:=ER (ks:=[u,v]) (b:=b) (j:=0) (u:=u) rfl;obtain⟨t1,t2,t3⟩:=tgt (u:=u) rfl (by simp[cls]);have a3:=aeT (ih' u (by simp)) t1 t2 t3 (o:=o) (f:=g) (p:=dG 15 op [u,v].length 0 p) hl (hat 0 u rfl) au (rW hp (by simp) (by simp[lvl]));have a4:=oW u (dG 15 op [u,v].length 0 p);obtain⟨⟨b1,b2,b3⟩,b4⟩:=Xe ih' (o:=o) (f:=g) (b:=b) (k:=15) (op:=op) (x:=x) (y:=y) (p:=p) (j:=1) (u:=v) au hc hp hl hat au au rfl rfl;rw[vM] at a1;rw[Zk] at b1 b2;have e98:(op==99)=false:=by rw[Lu];have:=hc.asg rfl;omega
  rw[VL]
  conv=>rhs;rw[sZ,show oH 15 0=true from rfl,Bool.true_or,aU]
  generalize uF u (dG 15 op [u,v].length 0 p)=K0 at a3 a4⊢;generalize (dG 15 op [u,v].length 1 p).zL=q1 at b2 b3;generalize sZ 15 op [u,v].length p 1 v=K1 at b3 b4⊢;simp(disch:=omega) only[mg,M.fH,hr,ah,Oz,Ru,QU,Rw,Lj,M.bY,M.bM,Int.reduceBEq,Int.reduceBNe,aU,bZ,a1,a3,b1,b2,b3,e1,Qa,vO,<-lH,gu,rX,Le,oh,zM,room,KZ,cO];simp[EY,yY,e98]
 ·have a1:=aod ih' (o:=o) (f:=g) (b:=b) (k:=12) (op:=op) (x:=x) (y:=y) (p:=p) (.inl rfl) hc hp hl hat au au;simp only[mg,M.fH,hr,ah,Oz,Ru,QU,Rw,Lj,M.bY,M.bM,Int.reduceBEq,Int.reduceBNe,aU,bZ,a1,cO]
 ·have a1:=aod ih' (o:=o) (f:=g) (b:=b) (k:=14) (op:=op) (x:=x) (y:=y) (p:=p) (.inr rfl) hc hp hl hat au au;simp only[mg,M.fH,hr,ah,Oz,Ru,QU,Rw,Lj,M.bY,M.bM,Int.reduceBEq,Int.reduceBNe,aU,bZ,a1,cO]
def dE(t:Tn):aA:=jV true (t.flat 0)
def apC(t:Tn):Row:=[D.sl true 4 (dE t)]
def CU(s:aF):M.dN s=some (dE (uG s)):=by simp[M.dN,M.KL,dE,uG,Tn.flat,gX,ends,jV,ab2,encI]
def amR:M.qg=some (dE Qx):=by simp[M.qg,M.KN,dE,Qx,Tn.flat,gX,ends,jV,ab2,encI]
def Jl(t:Tn):[[D.sl true 4 (dE t)]].all bG=true:=apx _
def Wj(L:List Tn):aJ (L.map apC)=Ba L:=by
 induction L with
 |nil=>rfl
 |cons t L ih=>
  have h1:vP (apC t)=[D.sl false 4 (jV false (t.flat 0))]:=by simp[apC,vP,D.fz,dE]
  rw[WH,aJ,ih,h1];rfl
section
variable (a b c d e f g h:Tn)
def fz1:aJ [[D.sl true 4 (dE a)]]=Ba [a]:=Wj [a]
def fz2:aJ [[D.sl true 4 (dE a)],[D.sl true 4 (dE b)]]=Ba [a,b]:=Wj [a,b]
def fz3:aJ [[D.sl true 4 (dE a)],[D.sl true 4 (dE b)],[D.sl true 4 (dE c)]]=Ba [a,b,c]:=Wj [a,b,c]
def fz4:aJ [[D.sl true 4 (dE a)],[D.sl true 4 (dE b)],[D.sl true 4 (dE c)],[D.sl true 4 (dE d)]]=Ba [a,b,c,d]:=Wj [a,b,c,d]
def fz5:aJ [[D.sl true 4 (dE a)],[D.sl true 4 (dE b)],[D.sl true 4 (dE c)],[D.sl true 4 (dE d)],[D.sl true 4 (dE e)]]=Ba [a,b,c,d,e]:=Wj [a,b,c,d,e]
end
def O1(ts:List Tn)(h:sizes ts<=90000000):M.dA 6 0 (Ba ts)=some (dE (sW ts)):=amL 6 0 ts h
def amS(t:Tn)(h:sizes [t]<=90000000):M.dA 4 4 (Ba [t])=some (dE (Td t)):=amL 4 4 [t] h
def auk(t:Tn)(h:sizes [t]<=90000000):M.dA 5 0 (Ba [t])=some (dE (afz t)):=amL 5 0 [t] h
def ak6(p:Ps):∀ks:List Tn,sizes (Yo p ks)+3 * ks.length<=16 * sizes ks
 |[]=>by simp[Yo,sizes]
 |t::ts=>by have h1:=zD t p;have h2:=ak6 p ts;simp only[Yo,WH,sizes,oh] at h2⊢;omega
def DS(t:Tn):Prop:=∀(o:Bool) (f:Nat) (p:Ps) (l:List Nd) (b:Nat),l.length<=1048576->Lies l b t->5 * t.size<=f->kX p=true->
 M.AX f (aN o l) false ((b+sizes t.kids:Nat):Int) p.level p.lJ p.qK p.qL p.kT=some (dE (l9 t p))
def QA{u:Tn}{o:Bool}{l:List Nd}{b:Nat}(h:Lies l b u):idx (aN o l) ((b+sizes u.kids:Nat):Int)=some (JC o ⟨u.kind,u.op,u.text,u.other,ends u.kids b⟩):=by rw[bW,iF,Lies.root' h];rfl
def aCP{u:Tn}(hS:DS u){o:Bool}{f:Nat}{p:Ps}{l:List Nd}{b:Nat}(hl:l.length<=1048576)(h:Lies l b u)(hf:5 * u.size+1<=f)(hp:kX p=true):
  M.qp f (aN o l) false ((b+sizes u.kids:Nat):Int) p.level p.lJ p.qK p.qL p.kT=some (dE (EN u p)):=by
 obtain⟨g,rfl⟩:∃g,f=g+1:=⟨f - 1,au⟩
 have hlt:=h.lt;have h1:=hS o g p l b hl h au hp;have h2:=hS o g .top l b hl h au rfl;have hb:=Jj u .top;simp only[Ps.top] at h2 hb;rw[M.ahM];simp only[mg,M.GZ,QA h,ah,Oz,Ru,QU,Rw,Lj,(acF u.kind u.op u.text u.other _ p).2,EN];cases fits u.kind u.op p with
 |true=>simp only[aU,h1,ah]
 |false=>
  have hs:sizes [uG [40],l9 u ⟨1,false,false,false,false⟩,uG [41]]<=90000000:=by simp only[sizes,jc];omega
  simp only[bZ,CU,L6.2,ah,h2,fz3,O1 _ hs,Jl,aU,Ps.top]
def aul{ks:List Tn}(ih:∀u,u∈ks->DS u){o:Bool}{f:Nat}{p:Ps}(hp:kX p=true){l:List Nd}{b:Nat}(hl:l.length<=1048576)(hat:At l b ks)(hf:5 * sizes ks+2<=f)(hu:sizes ks<=1048575):
  M.AU f (aN o l) false (encI (ends ks b)) p.level p.lJ p.qK p.qL p.kT=some (dE (Xd p ks)):=by
 obtain⟨g,rfl⟩:∃g,f=g+1:=⟨f - 1,au⟩
 have hkl:=lV ks;have hpz:=ak6 p ks;have hcz:=aar (Yo p ks) true;rw[Zn] at hcz;have hloop:=jl (b:=M.EC (M.qp g) (encI (ends ks b)) (aN o l) false p.level p.lJ p.qK p.qL p.kT) (t:=((ks.length:Int),(Ll true (Yo p ks)).map apC)) (λj=>((j:Int),(Ll true (Yo p (ks.take j))).map apC)) ks.length
  (by
   intro j hj;obtain⟨u,hu'⟩:∃u,ks[j]? =some u:=⟨ks[j],by simp[hj]⟩
   have hus:=lu (Ib hu');have ha:=aCP (ih u (Ib hu')) (o:=o) (f:=g) (p:=p) hl (hat j u hu') au hp;have hi:=ER (b:=b) hu';have hcl:=aeQ (Yo p (ks.take j)) true;rw[Zn,RZ] at hcl;have hw:i64.wrap ((j:Int)+1)=((j+1:Nat):Int):=by rw[aC au au];omega
   have e:Yo p (ks.take (j+1))=Yo p (ks.take j)++[EN u p]:=by rw[gq hu'];simp[Yo]
   rw[e,aaB];simp only[mg,M.EC,M.yR,aZ,dP,CU,amR,hi,Qa,ha,ah,rX,List.length_map,oh,zM,hw];rw[zdt au,aU]
   by_cases h0:j=0
   ·subst h0;rw[uq au,bZ,aX au,aU,aX au,aU];rfl
   ·have z:(Yo p (ks.take j)).isEmpty=false:=by
     cases hq:Yo p (ks.take j) with
     |nil=>have:=Zn p (ks.take j);rw[hq,zM,RZ] at this;omega
     |cons _ _=>rfl
    rw[zdt au,aU,aX au,aU,aX au,aU,aX au,aU,aX au,aU,z,Bool.false_and,bZ,List.map_append,BO];rfl)
  (by simp only[mg,M.EC,M.yR,aZ,dP];rw[uq au,bZ,List.take_length]) 0 (Nat.zero_le _)
 have LY:M.IX (M.qp g) (encI (ends ks b)) (aN o l) false p.level p.lJ p.qK p.qL p.kT (0,[])=some ((ks.length:Int),(Ll true (Yo p ks)).map apC):=hloop;have z1:sizes [sW (Ll true (Yo p ks))]<=90000000:=by simp only[sizes,o7];omega
 have z2:sizes [Td (sW (Ll true (Yo p ks)))]<=90000000:=by simp only[sizes,o7,Qz];omega
 rw[M.aek];simp only[M.AB,LY,ah,Wj,O1 _ (show sizes (Ll true (Yo p ks))<=90000000 by omega),Jl,aU,fz1,amS _ z1,auk _ z2];rfl
def Zo{ks:List Tn}(ih:∀u,u∈ks->DS u){o:Bool}{f:Nat}{l:List Nd}{b:Nat}{k op:Int}{x y:aF}{p:Ps}{j:Nat}{u:Tn}(he:1<=k∧k<=15)(hc:Cnt k op y ks.length)(hp:kX p=true)(hl:l.length<=1048576)(hat:At l b ks)(hf:5 * sizes ks+1<=f)(hu:sizes ks<=1048575)(hj:ks[j]? =some u)(ht:oH k j=false):
  (idx (encI (ends ks b)) (j:Int)=some [D.int .i64 ((b+sizes (ks.take j)+sizes u.kids:Nat):Int)]∧
   M.dY k op x y (encI (ends ks b)) (j:Int) p.level p.lJ p.qK p.qL p.kT=some (dG k op ks.length j p).zL∧
   M.qp f (aN o l) false ((b+sizes (ks.take j)+sizes u.kids:Nat):Int) (dG k op ks.length j p).zL.1 (dG k op ks.length j p).zL.2.1 (dG k op ks.length j p).zL.2.2.1 (dG k op ks.length j p).zL.2.2.2.1 (dG k op ks.length j p).zL.2.2.2.2=some (dE (FW k op ks.length p j u)))∧(FW k op ks.length p j u).size+3<=16 * u.size:=by
 have hkl:=lV ks;have hus:=lu (Ib hj);have hjl:j<ks.length:=(Jm.1 hj).1;have hen:(encI (ends ks b)).length=ks.length:=by rw[aZ,dP]
 have hlv:lvl k op≠0:=by have:=NT he hc;omega
 refine⟨⟨ER hj, ?_, ?_⟩,agz (Jj u)⟩
 ·have h:=VP (x:=x) (r:=encI (ends ks b)) (j:=j) (p:=p) he (by rw[hen];exact hc) au au;rw[hen] at h;exact h
 ·have h:=aCP (ih u (Ib hj)) (o:=o) (f:=f) (p:=dG k op ks.length j p) hl (hat j u hj) au (rW hp hjl hlv);rw[FW,ht,Bool.false_or];exact h
def aic{ks:List Tn}(ih:∀u,u∈ks->DS u){o:Bool}{f:Nat}{l:List Nd}{b:Nat}(hl:l.length<=1048576)(hat:At l b ks)(hf:5 * sizes ks+3<=f)(hu:sizes ks<=1048575)(k op:Int)(x y:aF)(hx:x.length<=1048576)(c d:UInt8):
  M.Dq f (aN o l) false k op x y (encI (ends ks b)) [c] [d]=some (dE (sW [uG (x++[c]),Xd .top ks,uG [d]])):=by
 obtain⟨g,rfl⟩:∃g,f=g+1:=⟨f - 1,au⟩
 have h1:=aul ih (o:=o) (f:=g) (p:=.top) rfl (b:=b) hl hat au hu;have h2:=Un .top ks;simp only[Ps.top] at h1 h2;have hs:sizes [uG (x++[c]),Xd ⟨1,false,false,false,false⟩ ks,uG [d]]<=90000000:=by simp only[sizes,jc];omega
 rw[M.abV];simp(disch:=omega) only[M.xH,oh,zM,Ls,aU,CU,L6.2,h1,ah,fz3,O1 _ hs,Jl,Ps.top]
def aeU{u:Tn}(hS:DS u)(hok:zH u)(he:RY u)(hh:13<=lvl u.kind u.op){o:Bool}{f:Nat}{l:List Nd}{b:Nat}(hl:l.length<=1048576)(h:Lies l b u)(hf:5 * u.size+1<=f)(p:Ps)(hp:kX p=true):
  M.AV f (aN o l) false ((b+sizes u.kids:Nat):Int)=some (dE (l9 u p)):=by
 obtain⟨g,rfl⟩:∃g,f=g+1:=⟨f - 1,au⟩
 have h1:=hS o g ⟨14,false,false,false,false⟩ l b hl h au rfl;rw[amH u hok hh he _ p rfl hp] at h1;rw[M.aal];simp only[M.wz,h1,ah]
def aMf{ks:List Tn}(ih:∀u,u∈ks->DS u){o:Bool}{f:Nat}{l:List Nd}{b:Nat}{op:Int}{x y:aF}{p:Ps}(hc:Cnt 12 op y ks.length)(hp:kX p=true)(hl:l.length<=1048576)(hat:At l b ks)(hf:5 * sizes ks+2<=f)(hu:sizes ks<=1048575)(gp:Bool):
  M.Ia f (aN o l) false 12 op x y (encI (ends ks b)) p.level p.lJ p.qK p.qL p.kT=some (dE (QG 12 op ks.length x gp (lS 12 op ks.length p ks 0))):=by
 obtain⟨g,rfl⟩:∃g,f=g+1:=⟨f - 1,au⟩
 rw[M.afx];obtain⟨u,v,rfl⟩:=Uz (hc.two au);have hsz:=sz2 u v;have hI:=acJ (hc.bin rfl).1;have hsl:=Jy op;obtain⟨⟨a1,a2,a3⟩,a4⟩:=Zo ih (o:=o) (f:=g) (b:=b) (k:=12) (op:=op) (x:=x) (y:=y) (p:=p) (j:=0) (u:=u) au hc hp hl hat au hu rfl (VQ 12 au 0);obtain⟨⟨b1,b2,b3⟩,b4⟩:=Zo ih (o:=o) (f:=g) (b:=b) (k:=12) (op:=op) (x:=x) (y:=y) (p:=p) (j:=1) (u:=v) au hc hp hl hat au hu rfl (VQ 12 au 1);rw[vM] at a1 a2;rw[Zk] at b1 b2;rw[ah9];generalize (dG 12 op [u,v].length 0 p).zL=q0 at a2 a3;generalize FW 12 op [u,v].length p 0 u=K0 at a3 a4⊢;generalize (dG 12 op [u,v].length 1 p).zL=q1 at b2 b3;generalize FW 12 op [u,v].length p 1 v=K1 at b3 b4⊢
 by_cases h99:op=99
 ·subst h99;have hs:sizes [K0,uG [32],K1]<=90000000:=by simp only[sizes,jc];omega
  simp only[M.sV,a1,a2,a3,b1,b2,b3,Qa,ah,Int.reduceBEq,aU,bZ,CU,fz3,O1 _ hs,Jl];rfl
 ·have e1:(op==99)=false:=by simpa using h99
  have hs:sizes [K0,uG ([32]++spell op),Qx,K1]<=90000000:=by simp only[sizes,jc,Qy];omega
  have z1:sizes [sW [K0,uG ([32]++spell op),Qx,K1]]<=90000000:=by simp only[sizes,jc,Qy,o7];omega
  have z2:sizes [Td (sW [K0,uG ([32]++spell op),Qx,K1])]<=90000000:=by simp only[sizes,jc,Qy,o7,Qz];omega
  by_cases h45:op=45
  ·subst h45;simp(disch:=omega) only[M.sV,a1,a2,a3,b1,b2,b3,Qa,ah,Int.reduceBEq,aU,bZ,(mO 45 hI).1,CU,amR,fz4,fz1,O1 _ hs,amS _ z1,auk _ z2,Jl,Ls];rfl
  ·have e2:(op==45)=false:=by simpa using h45
   by_cases h44:op=44
   ·subst h44;simp(disch:=omega) only[M.sV,a1,a2,a3,b1,b2,b3,Qa,ah,Int.reduceBEq,aU,bZ,(mO 44 hI).1,CU,amR,fz4,fz1,O1 _ hs,amS _ z1,auk _ z2,Jl,Ls];rfl
   ·have e3:(op==44)=false:=by simpa using h44
    have hs3:sizes [K0,uG ([32]++spell op++[32]),K1]<=90000000:=by simp only[sizes,jc];omega
    simp(disch:=omega) only[M.sV,a1,a2,a3,b1,b2,b3,Qa,ah,e1,e2,e3,aU,bZ,(mO op hI).1,rX,oh,zM,CU,fz3,O1 _ hs3,Jl,Ls];simp[QG,e1,e2,e3,wC]
set_option maxHeartbeats 4000000 in
def amT(t:Tn):zH t->RY t->VN t->t.size<=1048576->DS t:=by
 refine Tn.ind (P:=λt=>zH t->RY t->VN t->t.size<=1048576->DS t) ?_ t;intro k op x y ks ih hok he hsm hsz;intro o f p l b hl h hf hp;have aWi:=h;simp only[RY,Tn.kind] at he;have hc:=Ji hok;rw[VN] at hsm;obtain⟨⟨hx,hy⟩,hss⟩:=hsm;rw[Tn.size] at hsz hf;have hkE:∀u,u∈ks->zH u∧RY u∧VN u:=by intro u hu;obtain⟨i,hi⟩:=List.mem_iff_getElem?.1 hu;obtain⟨h1,h2⟩:=UL hok he hi;exact⟨h2,h1,NU hss hu⟩
 have ih':∀u,u∈ks->DS u:=by intro u hu;obtain⟨h1,h2,h3⟩:=hkE u hu;have:=lu hu;exact ih u hu h1 h2 h3 au
 have hat:At l b ks:=λj u hj=>Lies.Jg h hj
 obtain⟨g,rfl⟩:∃g,f=g+1:=⟨f - 1,au⟩
 have hr:idx (aN o l) ((b+sizes ks:Nat):Int)=some (JC o ⟨k,op,x,y,ends ks b⟩):=by have hr0:l[b+sizes ks]? =some ⟨k,op,x,y,ends ks b⟩:=Lies.root' h;rw[bW,iF,hr0];rfl
 have hkl:=lV ks;have tgt:∀{u:Tn},ks[0]? =some u->cls k op ks.length 0=6->zH u∧RY u∧13<=lvl u.kind u.op:=by intro u hu hcls;obtain⟨h1,h2⟩:=UL hok he hu;obtain⟨h3,_⟩:=OV hok hu;rw[hcls] at h3;exact⟨h2,h1,(ahV h3).1⟩
 rw[M.ael,Tn.kids];have hk:k=1∨k=2∨k=3∨k=4∨k=5∨k=7∨k=8∨k=6∨k=9∨k=10∨k=11∨k=13∨k=15∨k=12∨k=14:=au;rw[l9];rcases hk with rfl|rfl|rfl|rfl|rfl|rfl|rfl|rfl|rfl|rfl|rfl|rfl|rfl|rfl|rfl
 ·simp only[mg,M.fJ,hr,ah,Oz,Ru,QU,Rw,Lj,M.bY,M.bM,Int.reduceBEq,Int.reduceBNe,aU,bZ,CU];rfl
 ·simp only[mg,M.fJ,hr,ah,Oz,Ru,QU,Rw,Lj,M.bY,M.bM,Int.reduceBEq,Int.reduceBNe,aU,bZ,CU];rfl
 ·simp only[mg,M.fJ,hr,ah,Oz,Ru,QU,Rw,Lj,M.bY,M.bM,Int.reduceBEq,Int.reduceBNe,aU,bZ,CU];rfl
 ·simp only[mg,M.fJ,hr,ah,Oz,Ru,QU,Rw,Lj,M.bY,M.bM,Int.reduceBEq,Int.reduceBNe,aU,bZ,CU];rfl
 ·have a1:=aic ih' (o:=o) (f:=g) (b:=b) hl hat au au 5 op x y hx 91 93;rw[Ot hp (.inl rfl) (λj=>by simp[oH])];simp only[mg,M.fJ,hr,ah,Oz,Ru,QU,Rw,Lj,M.bY,M.bM,Int.reduceBEq,Int.reduceBNe,aU,bZ,a1];rfl
 ·have a1:=aic ih' (o:=o) (f:=g) (b:=b) hl hat au au 7 op x y hx 40 41;rw[Ot hp (.inl rfl) (λj=>by simp[oH])];simp only[mg,M.fJ,hr,ah,Oz,Ru,QU,Rw,Lj,M.bY,M.bM,Int.reduceBEq,Int.reduceBNe,aU,bZ,a1];rfl
 ·have a1:=aic ih' (o:=o) (f:=g) (b:=b) hl hat au au 8 op x y hx 40 41;rw[Ot hp (.inl rfl) (λj=>by simp[oH])];simp only[mg,M.fJ,hr,ah,Oz,Ru,QU,Rw,Lj,M.bY,M.bM,Int.reduceBEq,Int.reduceBNe,aU,bZ,a1];rfl
 ·obtain⟨u,rfl⟩:=zlo.1 (hc.one au);have hs1:=sz1 u;obtain⟨⟨a1,a2,a3⟩,a4⟩:=Zo ih' (o:=o) (f:=g) (b:=b) (k:=6) (op:=op) (x:=x) (y:=y) (p:=p) (j:=0) (u:=u) au hc hp hl hat au au rfl (VQ 6 au 0);rw[vM] at a1 a2;rw[RS];generalize (dG 6 op [u].length 0 p).zL=q0 at a2 a3;generalize FW 6 op [u].length p 0 u=K0 at a3 a4⊢;have hs:sizes [uG [36],K0]<=90000000:=by simp only[sizes,jc];omega
  simp only[mg,M.fJ,hr,ah,Oz,Ru,QU,Rw,Lj,M.bY,M.bM,Int.reduceBEq,Int.reduceBNe,aU,bZ,a1,a2,a3,Qa,CU,fz2,O1 _ hs,Jl];rfl
 ·obtain⟨u,rfl⟩:=zlo.1 (hc.one au);have hs1:=sz1 u;have hI:I64 op:=by rcases hc.stp au with rfl|rfl<;>constructor<;>decide
  have a1:=ER (ks:=[u]) (b:=b) (j:=0) (u:=u) rfl;obtain⟨t1,t2,t3⟩:=tgt (u:=u) rfl (by simp[cls]);have a3:=aeU (ih' u (by simp)) t1 t2 t3 (o:=o) (f:=g) (p:=dG 9 op [u].length 0 p) hl (hat 0 u rfl) au (rW hp (by simp) (by simp[lvl]));have a4:=Jj u (dG 9 op [u].length 0 p);rw[vM] at a1;rw[RS,FW,show oH 9 0=true from rfl,Bool.true_or,aU];generalize l9 u (dG 9 op [u].length 0 p)=K0 at a3 a4⊢;have hs:sizes [uG (spell op),K0]<=90000000:=by simp only[sizes,jc];omega
  simp only[mg,M.fJ,hr,ah,Oz,Ru,QU,Rw,Lj,M.bY,M.bM,Int.reduceBEq,Int.reduceBNe,aU,bZ,a1,a3,(mO op hI).1,Qa,CU,fz2,O1 _ hs,Jl];rfl
 ·obtain⟨u,rfl⟩:=zlo.1 (hc.one au);have hs1:=sz1 u;have hI:I64 op:=by rcases hc.stp au with rfl|rfl<;>constructor<;>decide
  have a1:=ER (ks:=[u]) (b:=b) (j:=0) (u:=u) rfl;obtain⟨t1,t2,t3⟩:=tgt (u:=u) rfl (by simp[cls]);have a3:=aeU (ih' u (by simp)) t1 t2 t3 (o:=o) (f:=g) (p:=dG 10 op [u].length 0 p) hl (hat 0 u rfl) au (rW hp (by simp) (by simp[lvl]));have a4:=Jj u (dG 10 op [u].length 0 p);rw[vM] at a1;rw[RS,FW,show oH 10 0=true from rfl,Bool.true_or,aU];generalize l9 u (dG 10 op [u].length 0 p)=K0 at a3 a4⊢;have hs:sizes [K0,uG (spell op)]<=90000000:=by simp only[sizes,jc];omega
  simp only[mg,M.fJ,hr,ah,Oz,Ru,QU,Rw,Lj,M.bY,M.bM,Int.reduceBEq,Int.reduceBNe,aU,bZ,a1,a3,(mO op hI).1,Qa,CU,fz2,O1 _ hs,Jl];rfl
 ·obtain⟨u,rfl⟩:=zlo.1 (hc.one au);have hs1:=sz1 u;obtain⟨u1,u2,u3⟩:=hkE u (by simp);have hI:I64 op:=by rcases hc.una au with rfl|rfl|rfl<;>constructor<;>decide
  have ihS:∀v,v∈[u]->PS v:=by intro v hv;rw[List.mem_singleton.1 hv];exact apB u u1 u2 au
  obtain⟨⟨a1,a2,a3⟩,a4⟩:=Zo ih' (o:=o) (f:=g) (b:=b) (k:=11) (op:=op) (x:=x) (y:=y) (p:=p) (j:=0) (u:=u) au hc hp hl hat au au rfl (VQ 11 au 0);obtain⟨⟨c1,c2,c3⟩,c4⟩:=Xe ihS (o:=o) (f:=5 * sizes [u]+1) (b:=b) (k:=11) (op:=op) (x:=x) (y:=y) (p:=p) (j:=0) (u:=u) au hc hp hl hat au au rfl (VQ 11 au 0);have c3':=M.afu c3;rw[vM] at a1 a2;rw[RS,OW];have hne:=aoc (k:=11) (op:=op) (n:=[u].length) (p:=p) (j:=0) u1 u2;have aMg:=aue (k:=11) (op:=op) (n:=[u].length) (p:=p) (j:=0) u3;clear c3 c2;generalize (dG 11 op [u].length 0 p).zL=q0 at a2 a3 c3';generalize FW 11 op [u].length p 0 u=K0 at a3 a4⊢;generalize sZ 11 op [u].length p 0 u=K at hne aMg c3'⊢;cases K with
  |nil=>exact absurd rfl hne
  |cons t0 K=>
   have hsl:=Jy op;have hg:M.sO op (spell op) 0 t0.kind t0.text t0.at_=some (FV (tok op) t0):=aaC (tok op) t0 (by show(spell op).length<=_;omega) (by have:=aMg t0 zmf;omega);have i0:idx (kJ (t0::K)) 0=some (adH t0):=rfl;have i1:(kJ (t0::K))[0]? =some (adH t0):=rfl;have hs:sizes [uG (spell op),K0]<=90000000:=by simp only[sizes,jc];omega
   have hs2:sizes [uG (spell op++[32]),K0]<=90000000:=by simp only[sizes,jc];omega
   have ha:QG 11 op [u].length x (aeC op [t0::K]) [K0]=sW [uG (bif FV (tok op) t0 then spell op++[32] else spell op),K0]:=rfl;rw[ha];simp(disch:=omega) only[mg,M.fJ,hr,ah,Oz,Ru,QU,Rw,Lj,M.bY,M.bM,Int.reduceBEq,Int.reduceBNe,aU,bZ,a1,a2,a3,c3',i0,i1,cT0,cT1,cT2,hg,(mO op hI).1,(kY op hI).2,Qa,CU,fz2,O1 _ hs,O1 _ hs2,Jl,Ls];cases FV (tok op) t0<;>rfl
 ·obtain⟨u,hu⟩:∃u,ks[0]? =some u:=by have:=hc.some_ au;exact⟨ks[0],by simp⟩
  obtain⟨⟨a1,a2,a3⟩,a4⟩:=Zo ih' (o:=o) (f:=g) (b:=b) (k:=13) (op:=op) (x:=x) (y:=y) (p:=p) (j:=0) (u:=u) au hc hp hl hat au au hu (VQ 13 au 0);have hus:=lu (Ib hu);rw[vM] at a1 a2;have hel:(encI (ends ks b)).length=ks.length:=by rw[aZ,dP]
  cases hm:Nat.blt 1 ks.length with
  |true=>
   have b1:=aul ih' (o:=o) (f:=g) (p:=.top) rfl (b:=b) hl hat au au;have b2:=Un .top ks;simp only[Ps.top] at b1 b2;have e1:((ks.length:Int)==1)=false:=by rw[Nat.blt_eq] at hm;rw[Lu];omega
   have hs:sizes [uG [40],Xd ⟨1,false,false,false,false⟩ ks,uG ([41,32,105,110,32]++x)]<=90000000:=by simp only[sizes,jc];omega
   rw[Ot hp (.inr ⟨rfl,hm,by simp[lvl]⟩) (λj=>by simp[oH])];simp(disch:=omega) only[mg,M.fJ,hr,ah,Oz,Ru,QU,Rw,Lj,M.bY,M.bM,Int.reduceBEq,Int.reduceBNe,aU,bZ,hel,e1,CU,L6.2,b1,fz3,O1 _ hs,Jl,Ls];simp[QG,hm,ak4,Ps.top]
  |false=>
   have h1:ks.length=1:=by
    have h2:=hc.some_ au;have h3:¬1<ks.length:=by rw[<-Nat.blt_eq,hm];simp
    omega
   obtain⟨u',rfl⟩:=zlo.1 h1;obtain rfl:u'=u:=by simpa using hu
   rw[RS];have e1:(([u'].length:Int)==1)=true:=rfl;generalize (dG 13 op [u'].length 0 p).zL=q0 at a2 a3;generalize FW 13 op [u'].length p 0 u'=K0 at a3 a4⊢;have hs:sizes [K0,uG ([32,105,110,32]++x)]<=90000000:=by simp only[sizes,jc];omega
   simp(disch:=omega) only[mg,M.fJ,hr,ah,Oz,Ru,QU,Rw,Lj,M.bY,M.bM,Int.reduceBEq,Int.reduceBNe,aU,bZ,hel,e1,a1,a2,a3,Qa,CU,fz2,O1 _ hs,Jl,Ls];rfl
 ·obtain⟨u,v,rfl⟩:=Uz (hc.two au);have hsv:=sz2 u v;have hI:I64 op:=by rcases hc.asg rfl with rfl|h<;>constructor<;>omega
  have hsl:=Jy op;have a1:=ER (ks:=[u,v]) (b:=b) (j:=0) (u:=u) rfl;obtain⟨t1,t2,t3⟩:=tgt (u:=u) rfl (by simp[cls]);have a3:=aeU (ih' u (by simp)) t1 t2 t3 (o:=o) (f:=g) (p:=dG 15 op [u,v].length 0 p) hl (hat 0 u rfl) au (rW hp (by simp) (by simp[lvl]));have a4:=Jj u (dG 15 op [u,v].length 0 p);obtain⟨⟨b1,b2,b3⟩,b4⟩:=Zo ih' (o:=o) (f:=g) (b:=b) (k:=15) (op:=op) (x:=x) (y:=y) (p:=p) (j:=1) (u:=v) au hc hp hl hat au au rfl rfl;rw[vM] at a1;rw[Zk] at b1 b2;rw[ah9]
  conv=>rhs;rw[FW,show oH 15 0=true from rfl,Bool.true_or,aU]
  generalize l9 u (dG 15 op [u,v].length 0 p)=K0 at a3 a4⊢;generalize (dG 15 op [u,v].length 1 p).zL=q1 at b2 b3;generalize FW 15 op [u,v].length p 1 v=K1 at b3 b4⊢;have hs3:sizes [K0,uG ([32]++spell op++[32]),K1]<=90000000:=by simp only[sizes,jc];omega
  simp(disch:=omega) only[mg,M.fJ,hr,ah,Oz,Ru,QU,Rw,Lj,M.bY,M.bM,Int.reduceBEq,Int.reduceBNe,aU,bZ,a1,a3,b1,b2,b3,(mO op hI).1,Qa,rX,oh,zM,CU,fz3,O1 _ hs3,Jl,Ls];simp[QG,wC]
 ·have a1:=aMf ih' (o:=o) (f:=g) (b:=b) (op:=op) (x:=x) (y:=y) (p:=p) hc hp hl hat au au (aeC op (iJ 12 op ks.length p ks 0));simp only[mg,M.fJ,hr,ah,Oz,Ru,QU,Rw,Lj,M.bY,M.bM,Int.reduceBEq,Int.reduceBNe,aU,bZ,a1]
 ·obtain⟨u,v,z,rfl⟩:=Zj (hc.three rfl);have hsz3:=sz3 u v z;obtain⟨⟨a1,a2,a3⟩,a4⟩:=Zo ih' (o:=o) (f:=g) (b:=b) (k:=14) (op:=op) (x:=x) (y:=y) (p:=p) (j:=0) (u:=u) au hc hp hl hat au au rfl (VQ 14 au 0);obtain⟨⟨b1,b2,b3⟩,b4⟩:=Zo ih' (o:=o) (f:=g) (b:=b) (k:=14) (op:=op) (x:=x) (y:=y) (p:=p) (j:=1) (u:=v) au hc hp hl hat au au rfl (VQ 14 au 1);obtain⟨⟨c1,c2,c3⟩,c4⟩:=Zo ih' (o:=o) (f:=g) (b:=b) (k:=14) (op:=op) (x:=x) (y:=y) (p:=p) (j:=2) (u:=z) au hc hp hl hat au au rfl (VQ 14 au 2);rw[vM] at a1 a2;rw[Zk] at b1 b2;rw[ayE] at c1 c2;rw[aui];generalize (dG 14 op [u,v,z].length 0 p).zL=q0 at a2 a3;generalize FW 14 op [u,v,z].length p 0 u=K0 at a3 a4⊢;generalize (dG 14 op [u,v,z].length 1 p).zL=q1 at b2 b3;generalize FW 14 op [u,v,z].length p 1 v=K1 at b3 b4⊢;generalize (dG 14 op [u,v,z].length 2 p).zL=q2 at c2 c3;generalize FW 14 op [u,v,z].length p 2 z=K2 at c3 c4⊢;have hs:sizes [K0,uG [32,63,32],K1,uG [32,58,32],K2]<=90000000:=by simp only[sizes,jc];omega
  simp only[mg,M.fJ,hr,ah,Oz,Ru,QU,Rw,Lj,M.bY,M.bM,Int.reduceBEq,Int.reduceBNe,aU,bZ,a1,a2,a3,b1,b2,b3,c1,c2,c3,Qa,CU,fz5,O1 _ hs,Jl];rfl
section
variable {o:Bool} {l:List Nd} {b:Nat} (hl:l.length<=1048576)
include hl
theorem aWj{u:Tn}(h:Ex' u)(hh:Lies l b u){p:Ps}(hp:kX p=true):M.nI (aN o l) false ((b+sizes u.kids:Nat):Int) p.level p.lJ p.qK p.qL p.kT=some (dE (EN u p)):=
 M.afy (aCP (amT u h.ok h.e h.sm h.sz) (f:=5 * u.size+1) hl hh (Nat.le_refl _) hp)
end
structure Bk(u:Tn):Prop where
 ok:zH u
 k:u.kind=33
 sm:VN u
 sz:u.size<=1048576
def Ex'.kne{u:Tn}(h:Ex' u):(u.kind==33)=false:=by have:=h.e;unfold RY at this;rw[Lu];omega
def Yg:∀(L:List (aF)) (b:Bool) (x:aF),wX (L++[x]) b=wX L b++(bif L.isEmpty && b then x else[44,32]++x)
 |[],b,x=>by simp[wX]
 |y::L,b,x=>by rw[Xg,wX,wX,Yg L false x,Bool.and_false,List.isEmpty_cons,Bool.false_and,BO]
def Rl:∀(l:List (aF)),joinL [44,32] l=wX l true∧∀x,[44,32]++joinL [44,32] (x::l)=wX (x::l) false
 |[]=>⟨rfl,λx=>by simp[joinL,wX]⟩
 |y::l=>by
  have ih:=(Rl l).2;constructor
  ·cases l with
   |nil=>simp[joinL,wX]
   |cons z l=>have h1:=(Rl l).2 z;rw[joinL,h1];rfl
  ·intro x;rw[joinL,ih y];simp[wX]
def Tz{N:Nat}:∀(l:List (aF)) (b:Bool),(∀x,x∈l->x.length<=N)->(wX l b).length<=(N+2) * l.length
 |[],b,_=>by simp[wX]
 |x::l,b,h=>by have h1:=Tz l false (λy hy=>h y (zmm _ hy));have h2:=h x zmf;rw[wX,rX,oh,Nat.mul_add,Nat.mul_one];cases b<;>simp only[aU,bZ,rX,oh,zM]<;>omega
def aaD:∀l:List (aF),amn (encS l)=some l
 |[]=>rfl
 |x::l=>by have h:=aaD l;unfold encS at *;rw[WH,amn];simp only[h]
def aie{N:Nat}:∀(l:List (aF)),(∀x,x∈l->x.length<=N)->aji l<=N * l.length
 |[],_=>Nat.le_refl _
 |x::l,h=>by have h1:=aie l (λy hy=>h y (zmm _ hy));have h2:=h x zmf;rw[aji,oh,Nat.mul_add,Nat.mul_one];omega
def aCQ{ks:List Tn}(h:∀u,u∈ks->u.text.length<=1048576)(h0:1<=ks.length)(hn:ks.length<=1000)(k op:Int)(x y:aF)(hx:x.length<=1048576)(w:Bool):M.BF k op x y (iM w ks)=some (Rj x ks)∧(Rj x ks).length<=1060000000:=by
 obtain⟨A,hA⟩:∃A,ks.take (ks.length - 1)=A:=⟨_,rfl⟩
 have hAl:A.length+1=ks.length:=by rw[<-hA,RZ];omega
 have hAm:∀u,u∈A->u.text.length<=1048576:=λu hu=>h u (List.mem_of_mem_take (hA ▸ hu))
 have hmm:∀z,z∈A.map Tn.text->z.length<=1048576:=by intro z hz;obtain⟨u,hu,rfl⟩:=List.mem_map.1 hz;exact hAm u hu
 have hloop:=jl (b:=M.Gz (iM w A) (A.length:Int) k op x y (iM w ks)) (t:=((A.length:Int),encS (A.map Tn.text))) (λj=>((j:Int),encS ((A.take j).map Tn.text))) A.length
  (by
   intro j hj;obtain⟨u,hu'⟩:∃u,A[j]? =some u:=⟨A[j],by simp[hj]⟩
   obtain⟨c0,c1,c2,c3,c4⟩:=Tt w u;have hl:(encS ((A.take j).map Tn.text)).length=j:=by simp[encS];omega
   have hw:i64.wrap ((j:Int)+1)=((j+1:Nat):Int):=by rw[aC au au];omega
   simp only[mg,M.Gz,M.Am,Tv w hu',c0,c1,c2,c3,c4,ah,hl,oh,zM,hw];rw[zdt au,aU,aX au,aU,aX au,aU,gq hu',List.map_append,encS,encS,List.map_append];rfl)
  (by simp only[mg,M.Gz,M.Am];rw[uq au,bZ,List.take_length]) 0 (Nat.zero_le _)
 have LY:M.Kt (iM w A) (A.length:Int) k op x y (iM w ks) (0,[])=some ((A.length:Int),encS (A.map Tn.text)):=hloop;have hw:i64.wrap (((iM w ks).length:Int) - 1)=((ks.length - 1:Nat):Int):=by rw[jC,aC au au];omega
 have hcut:cut (iM w ks) 0 ((ks.length - 1:Nat):Int)=some (iM w A):=by rw[ayC _ _ (by rw[jC];omega),amQ,hA]
 have hs:=aie _ hmm;rw[List.length_map] at hs;have hj:M.strings_Join (encS (A.map Tn.text)) [44,32]=some (wX (A.map Tn.text) true):=by simp only[M.strings_Join,aaD];rw[aX (by rw[List.length_map];simp only[oh,zM];omega),aU,(Rl _).1]
 have hjl:=Tz _ true hmm;rw[List.length_map] at hjl;constructor
 ·rw[jC] at hw;simp only[M.BF,M.Nj,jC,hw,hcut,ah,LY,hj];rw[aX au,aU,aX (by simp only[rX,oh,zM];omega),aU,aX (by simp only[rX,oh,zM];omega),aU,aX (by simp only[rX,oh,zM];omega),aU,Rj,hA,BO]
 ·rw[Rj,hA];simp only[rX,oh,zM];omega
mutual
def Wn:Tn->Prop
 | .mk _ _ x _ ks=>x.length<=1000000000∧L9 ks
def L9:List Tn->Prop
 |[]=>True
 |t::ts=>Wn t∧L9 ts
end
mutual
def Zp:∀(t:Tn) (b:Nat),Wn t->∀n,n∈t.flat b->n.text.length<=1000000000
 | .mk k o x y ks,b,h,n,hn=>by
  rw[Wn] at h;rw[Tn.flat] at hn;rcases List.mem_append.1 hn with hn|hn
  ·exact agN ks b h.2 n hn
  ·simp only[List.mem_singleton] at hn;subst hn;exact h.1
def agN:∀(ks:List Tn) (b:Nat),L9 ks->∀n,n∈gX ks b->n.text.length<=1000000000
 |[],b,_,n,hn=>by simp[gX] at hn
 |t::ts,b,h,n,hn=>by
  rw[L9] at h;rw[gX] at hn;rcases List.mem_append.1 hn with hn|hn
  ·exact Zp t b h.1 n hn
  ·exact agN ts _ h.2 n hn
end
def aeV(s:aF):Wn (uG s)↔s.length<=1000000000:=by simp[uG,Wn,L9]
def ak7:Wn Qx:=by simp[Qx,Wn,L9]
def ak8(d:Tn):Wn (Td d)↔Wn d:=by simp[Td,Wn,L9]
def aoe(d:Tn):Wn (afz d)↔Wn d:=by simp[afz,Wn,L9]
def aif(l:List Tn):Wn (sW l)↔L9 l:=by simp[sW,Wn]
def ak9:∀l:List Tn,L9 l↔∀t,t∈l->Wn t
 |[]=>by simp[L9]
 |t::ts=>by simp[L9,ak9 ts]
def ala(a b:List Tn):L9 (a++b)↔L9 a∧L9 b:=by simp only[ak9,List.mem_append];exact⟨λh=>⟨λt ht=>h t (.inl ht),λt ht=>h t (.inr ht)⟩,λh t ht=>ht.elim (h.1 t) (h.2 t)⟩
def ES{a b:Tn}(c:Bool)(ha:Wn a)(hb:Wn b):Wn (bif c then a else b):=by cases c<;>assumption
def aum{a b:List Tn}(c:Bool)(ha:L9 a)(hb:L9 b):L9 (bif c then a else b):=by cases c<;>assumption
def alb:∀(L:List Tn) (b:Bool),L9 L->L9 (Ll b L)
 |[],b,_=>by simp[Ll,L9]
 |x::l,b,h=>by rw[L9] at h;rw[Ll,ala];exact⟨aum _ ⟨h.1,trivial⟩ ⟨by simp[aeV],ak7,h.1,trivial⟩,alb l false h.2⟩
def apD{L:List Tn}(h:L9 L):Wn (OZ L):=by rw[OZ,aoe,ak8,aif];exact alb L true h
def Zq:∀{L:List Tn} (j:Nat),L9 L->Wn (wC L j)
 |[],j,_=>by simp[wC,aeV]
 |x::l,0,h=>h.1
 |x::l,j+1,h=>Zq (L:=l) j h.2
def aun(k op:Int)(n:Nat){x:aF}(g:Bool){L:List Tn}(hx:x.length<=1048576)(h:L9 L):Wn (QG k op n x g L):=by
 have hs:=Jy op;have h0:=Zq 0 h;have h1:=Zq 1 h;have h2:=Zq 2 h;have hl:=apD h;unfold QG;refine ES _ ?_ (ES _ ?_ (ES _ ?_ (ES _ ?_ (ES _ ?_ (ES _ ?_ (ES _ ?_ (ES _ ?_ (ES _ (ES _ ?_ ?_) (ES _ ?_ (ES _ ?_ ?_))))))))))
 all_goals simp only[aif,aoe,ak8,L9,aeV,h0,h1,h2,hl,ak7,true_and,and_true,rX,oh,zM]
 all_goals first
  |omega
  |(cases g<;>simp only[aU,bZ,rX,oh,zM]<;>omega)
def agO{a:Tn}(h:Wn a):Wn (sW [uG [40],a,uG [41]]):=by rw[aif];exact⟨by simp[aeV],h,by simp[aeV],trivial⟩
def agP(k op:Int)(n:Nat)(p:Ps):∀(ts:List Tn) (j:Nat),(∀u,u∈ts->∀q,Wn (l9 u q))->L9 (lS k op n p ts j)
 |[],j,_=>by rw[lS];trivial
 |t::ts,j,h=>by rw[lS];exact⟨ES _ (h t zmf _) (agO (h t zmf _)),agP k op n p ts (j+1) λu hu=>h u (zmm _ hu)⟩
def agQ(t:Tn):VN t->∀q,Wn (l9 t q):=by refine Tn.ind (P:=λt=>VN t->∀q,Wn (l9 t q)) ?_ t;intro k op x y ks ih hs q;rw[VN] at hs;rw[l9];exact aun _ _ _ _ hs.1.1 (agP _ _ _ _ _ _ λu hu=>ih u hu (NU hs.2 hu))
def apE{t:Tn}(h:VN t)(q:Ps):Wn (EN t q):=ES _ (agQ t h q) (agO (agQ t h _))
def amU(t:Tn):Prop:=(40<=t.kind∧t.kind<=44)∨t.kind=34
section
variable {k op:Int} {x y:aF} {ks:List Tn} (hok:zH (.mk k op x y ks)) (hss:ab4 ks) (hsz:sizes ks<=1048576)
include hok hss hsz
theorem aCR{j:Nat}{u:Tn}(hj:ks[j]? =some u)(hc:cls k op ks.length j=1):Bk u:=by obtain⟨h1,h2⟩:=OV hok hj;rw[hc] at h1;have:=lu (Ib hj);exact⟨h2,h1,NU hss (Ib hj),au⟩
theorem aWk{j:Nat}{u:Tn}(hj:ks[j]? =some u)(hc:cls k op ks.length j=0):Ex' u:=by obtain⟨h1,h2⟩:=OV hok hj;rw[hc] at h1;have:=lu (Ib hj);exact⟨h2,h1,NU hss (Ib hj),au⟩
theorem aMh(hk:k=42∨k=43):∀u,u∈ks->Bk u∨Ex' u:=by
 intro u hu;obtain⟨j,hj⟩:=List.mem_iff_getElem?.1 hu;have:cls k op ks.length j=1∨cls k op ks.length j=0:=by
  rcases hk with rfl|rfl
  ·have e:cls 42 op ks.length j=if op=2∨(op=3∧j+1=ks.length) then 1 else 0:=by simp[cls]
   rw[e];split
   ·exact .inl rfl
   ·exact .inr rfl
  ·have e:cls 43 op ks.length j=if j=2 then 1 else 0:=by simp[cls]
   rw[e];split
   ·exact .inl rfl
   ·exact .inr rfl
 rcases this with h|h
 ·exact .inl (aCR hok hss hsz hj h)
 ·exact .inr (aWk hok hss hsz hj h)
end
def Zr{t:Tn}(h:VN t):t.text.length<=1048576:=by cases t;exact h.1.1
def Bk.size{u:Tn}(h:Bk u):(aeD u).size+2<=40 * u.size:=by have hk:=h.k;exact amK u h.ok (by constructor<;>omega)
def auo{ks:List Tn}(h:1<=ks.length):∃u,ks[ks.length - 1]? =some u∧PI ks (ks.length - 1)=u:=by have:ks.length - 1<ks.length:=au;refine⟨ks[ks.length - 1],by simp[this], ?_⟩;simp[PI,this]
def UA{t:Tn}(hok:zH t)(hi:amU t)(hs:VN t)(hz:t.size<=1048576):
  (∃u,(t.kind=40∨t.kind=41)∧t.kids=[u]∧Bk u)∨((t.kind=42∨t.kind=43)∧t.kids.length<=7∧∀u,u∈t.kids->Bk u∨Ex' u)∨
  (t.kind=44∧1<=t.kids.length∧t.kids.length<=7∧∃u,t.kids[t.kids.length - 1]? =some u∧PI t.kids (t.kids.length - 1)=u∧Bk u)∨t.kind=34:=by
 have hss:=Zl hs;have hks:=t.mZ;obtain⟨k,op,x,y,ks⟩:=t;simp only[Tn.kids,Tn.kind] at *;have hc:=Ji hok;unfold amU at hi;simp only[Tn.kind] at hi;rcases hi with hi|hi
 ·have hk:(k=40∨k=41)∨(k=42∨k=43)∨k=44:=au;rcases hk with hk|hk|hk
  ·obtain⟨u,rfl⟩:=zlo.1 (hc.one au);refine .inl ⟨u,hk,rfl,aCR hok hss au (j:=0) rfl ?_⟩;rcases hk with rfl|rfl<;>simp[cls]
  ·exact .inr (.inl ⟨hk,hc.few au au,aMh hok hss au hk⟩)
  ·have h1:=hc.some_ au;obtain⟨u,h2,h3⟩:=auo h1;refine .inr (.inr (.inl ⟨hk,h1,hc.few au au,u,h2,h3,aCR hok hss au h2 ?_⟩));subst hk;simp[cls];omega
 ·exact .inr (.inr (.inr hi))
structure It(u:Tn):Prop where
 ok:zH u
 i:amU u
 sm:VN u
 sz:u.size<=1048576
def aWl{t:Tn}(hok:zH t)(hk:t.kind=45)(hs:VN t)(hz:t.size<=1048576):∀u,u∈t.kids->It u:=by
 intro u hu;have hss:=Zl hs;have hks:=t.mZ;obtain⟨k,op,x,y,ks⟩:=t;simp only[Tn.kids,Tn.kind] at *;obtain⟨j,hj⟩:=List.mem_iff_getElem?.1 hu;obtain⟨h1,h2⟩:=OV hok hj;have hc:cls k op ks.length j=5:=by subst hk;simp[cls]
 rw[hc] at h1;have:=lu hu;exact⟨h2,h1,NU hss hu,au⟩
def alc(l:List Nd)(o:Bool)(d:Int)(hl:l.length<=1048576)(hk:∀n,n∈l->n.kids.length<=1048576∧∀e,e∈n.kids-> -4000000000<=e+d∧e+d<=4000000000):
  M.oq (aN o l) d=some (aN true (l.map (Nd.up d))):=by
 simp only[M.oq,M.JV];have hloop:=jl (b:=M.D9 (aN o l) d) (t:=((l.length:Int),aN true (l.map (Nd.up d)))) (λi=>((i:Int),aN true ((l.take i).map (Nd.up d)))) l.length
  (by
   intro i hi;obtain⟨n,hn⟩:∃n,l[i]? =some n:=⟨l[i],by simp[hi]⟩
   obtain⟨hkl,hke⟩:=hk n (Ib hn);have hin:=jl (b:=M.D8 (aN o l) d (i:Int) (aN true ((l.take i).map (Nd.up d))) n.kind n.op n.text n.other) (t:=((n.kids.length:Int),encI (n.kids.map (· +d)))) (λj=>((j:Int),encI ((n.kids.take j).map (· +d)))) n.kids.length
    (by
     intro j hj;obtain⟨e,he⟩:∃e,n.kids[j]? =some e:=⟨n.kids[j],by simp[hj]⟩
     have:=hke e (Ib he);simp only[mg,M.D8,M.yu,bW,iF,hn,Ic,ah,Lj,aZ,nD,he,Qa,List.length_map,RZ,Le];rw[zdt au,aU,aX au,aU,aX au,aU,aC au au,aC au au,gq he];simp[encI])
    (by simp only[mg,M.D8,M.yu,bW,iF,hn,Ic,ah,Lj,aZ];rw[uq au,bZ,List.take_length]) 0 (Nat.zero_le _)
   simp only[vM,List.take_zero,List.map_nil] at hin;have hin':M.Ih (aN o l) d (i:Int) (aN true ((l.take i).map (Nd.up d))) n.kind n.op n.text n.other (0,[])=some ((n.kids.length:Int),encI (n.kids.map (· +d))):=hin;simp only[mg,M.D9,M.yw,cZ,bW,iF,hn,Ic,ah,Oz,Ru,QU,Rw,Lj,hin',wu,aU,List.length_map,RZ,Le];rw[zdt au,aU,aX au,aU,aX au,aU,aC au au,gq hn,List.map_append,He];rfl)
  (by simp only[mg,M.D9,M.yw,cZ];rw[uq au,bZ,List.take_length]) 0 (Nat.zero_le _)
 simp only[vM,List.take_zero,List.map_nil] at hloop;have LY:M.Ii (aN o l) d (0,[])=some ((l.length:Int),aN true (l.map (Nd.up d))):=hloop;rw[LY,ah]
def apF{l:List Nd}{o:Bool}(hl:l.length<=1048576)(t:Tn):∀(f b:Nat),Lies l b t->t.size<=f->
  M.jk f (aN o l) ((b+sizes t.kids:Nat):Int)=some (t.kind,t.op,t.text,t.other,iM true t.kids):=by
 refine Tn.ind (P:=λt=>∀(f b:Nat),Lies l b t->t.size<=f->M.jk f (aN o l) ((b+sizes t.kids:Nat):Int)=some (t.kind,t.op,t.text,t.other,iM true t.kids)) ?_ t;intro k op x y ks ih f b h hf;cases f with
 |zero=>rw[Tn.size] at hf;omega
 |succ f=>
  have hroot:l[b+sizes ks]? =some ⟨k,op,x,y,ends ks b⟩:=h.root;have hlt:=h.lt;rw[Tn.size] at hf hlt;have hkl:=lV ks;simp only[mg,M.jk,M.DC,bW,iF,Tn.kids,Tn.kind,Tn.op,Tn.text,Tn.other,hroot,Ic,ah,Oz,Ru,QU,Rw,Lj,aZ,dP];have hrec:∀j t,ks[j]? =some t->M.jk f (aN o l) ((b+sizes (ks.take j)+sizes t.kids:Nat):Int)=some (t.kind,t.op,t.text,t.other,iM true t.kids):=λj t hj=>ih t (Ib hj) f _ (Lies.Jg h hj) (by have:=Jf hj;omega)
  have hloop:=jl (b:=M.kM (M.jk f))
   (t:=if ks=[] then .inl (aN o l,encI (ends ks b),(ks.length:Int),0,0,0,[],[],k,op,x,y) else .inr (aN o l,encI (ends ks b),(ks.length:Int),(ks.length:Int),0,0,[],[],k,op,x,y,iM true ks))
   (λj=>if j=0 then .inl (aN o l,encI (ends ks b),(ks.length:Int),0,0,0,[],[],k,op,x,y) else .inr (aN o l,encI (ends ks b),(ks.length:Int),(j:Int),0,0,[],[],k,op,x,y,iM true (ks.take j))) ks.length
   (by
    intro j hj;obtain⟨t,ht⟩:∃t,ks[j]? =some t:=⟨ks[j],by simp⟩
    have hr:=hrec j t ht;have he:=Uj (b:=b) ht;rw[if_neg (show¬j+1=0 by omega),amD ht,aCk]
    by_cases h0:j=0
    ·subst h0;rw[if_pos rfl];have hi:idx (encI (ends ks b)) 0=some [D.int .i64 ((b+sizes (ks.take 0)+sizes t.kids:Nat):Int)]:=by have:=bW (encI (ends ks b)) 0;rw[vM] at this;rw[this,nD,he];rfl
     simp only[mg,M.kM,M.kL,hi,ah,Qa,hr];rw[zdt au,aU];rfl
    ·rw[if_neg h0];simp only[mg,M.kM,M.kL,bW,nD,he,Ic,ah,Qa,hr,jC,RZ,Le];rw[zdt au,aU,aX au,aU,aX au,aU,aC au au];rfl)
   (by
    by_cases h0:ks.length=0
    ·have he:ks=[]:=List.length_eq_zero_iff.1 h0;rw[if_pos h0,if_pos he];simp only[mg,M.kM,M.kL];rw[uq au,bZ]
    ·have he:¬ks=[]:=λe=>h0 (by rw[e];rfl)
     rw[if_neg h0,if_neg he,List.take_length];simp only[mg,M.kM,M.kL];rw[uq au,bZ]) 0 (Nat.zero_le _)
  rw[if_pos rfl] at hloop;rw[M.FD,hloop,ah]
  by_cases he:ks=[]
  ·rw[if_pos he,he];rfl
  ·rw[if_neg he];rfl
def abv{l:List Nd}{o:Bool}(hl:l.length<=1048576){t:Tn}{b:Nat}(h:Lies l b t):M.kZ (aN o l) ((b+sizes t.kids:Nat):Int)=some (t.kind,t.op,t.text,t.other,iM true t.kids):=
 M.Vq (apF hl t t.size b h (Nat.le_refl _))
def aeW{T:Tn}{o:Bool}(hT:T.size<=1048576):M.nX (aN o (T.flat 0))=some (encI (T.sts 0),true):=by have h:=RP (T.flat 0) o (by rw[T.flat_length];omega) (λn hn=>by have:=(Hf T 0 n hn).1;omega) (T.flat 0) 0 [] rfl rfl (Nat.zero_le _) Qd;rw[vM,Oh] at h;have e:encI ([]:List Int)=[]:=rfl;rw[e] at h;simp only[M.nX,M.Dj];rw[h,ah];simp only[uw,letE,wu,aU]
def ayG{T t:Tn}{o:Bool}{b:Nat}(hT:T.size<=1048576)(h:Lies (T.flat 0) b t):M.BM (aN o (T.flat 0)) ((b+sizes t.kids:Nat):Int)=some (aN true (t.flat 0)):=by
 have hlt:=h.lt;rw[T.flat_length] at hlt;have hs:=t.mZ;have hst:=h.sts rfl;rw[show b+t.size - 1=b+sizes t.kids by omega] at hst;have hg:idx (encI (T.sts 0)) ((b+sizes t.kids:Nat):Int)=some [D.int .i64 (b:Int)]:=by rw[bW,nD,hst];rfl
 have hg2:(encI (T.sts 0))[(((b+sizes t.kids:Nat):Int)).toNat]? =some [D.int .i64 (b:Int)]:=by rw[RX,nD,hst];rfl
 have hw:i64.wrap (((b+sizes t.kids:Nat):Int)+1)=((b+t.size:Nat):Int):=by rw[aC au au];omega
 have hcut:cut (aN o (T.flat 0)) (b:Int) ((b+t.size:Nat):Int)=some (aN o (t.flat b)):=by
  unfold cut;have hc:(decide (0<=(b:Int)) && decide ((b:Int)<=((b+t.size:Nat):Int)) && decide (((b+t.size:Nat):Int)<=((aN o (T.flat 0)).length:Int)))=true:=by rw[cZ,T.flat_length];simp only[vF,decide_eq_true_eq];omega
  rw[hc,aU,RX,RX,show b+t.size - b=t.size by omega];have:=h.part;congr 1;rw[<-this];simp[aN,List.map_drop,List.map_take]
 have hw2:i64.wrap (0 - (b:Int))=0 - (b:Int):=aC au au;have hsh:M.oq (aN o (t.flat b)) (0 - (b:Int))=some (aN true (t.flat 0)):=by
  rw[alc (t.flat b) o _ (by rw[t.flat_length];omega) (λn hn=> ?_)]
  ·rw[t.acv b 0];rfl
  ·obtain⟨h1,h2⟩:=Hf t b n hn;refine⟨au,λe he=> ?_⟩;have:=h2 e he;omega
 simp only[M.BM,M.NM,aeW hT,ah,hg,hg2,Qa,hw,hcut,hw2,hsh]
section
variable (l:List Nd) (o:Bool) (hl:l.length<=1048576) (hk:∀n,n∈l->n.kids.length<=1048576) (hsm:∀n,n∈l->Small n)
include hl hk hsm
end
def Yh(l:List (aF)):ay (encS l)=true:=by simp[ay,encS,D.flat]
def aeX{β:Type}(k:Int)(a b:β):(bif WC k then(bif k !=33 then(bif k !=34 then a else b) else b) else b)=bif aeM k then a else b:=by unfold aeM WC;simp only[bne];cases(decide (k>=20) && decide (k<=34))<;>cases(k==33)<;>cases(k==34)<;>rfl
def Yi(l:List Nd)(o:Bool)(hl:l.length<=1048576):M.qP (aN o l)=some (UW l:Int):=by
 have hloop:=jl (b:=M.yU (aN o l)) (t:=((UW l:Int),(l.length:Int))) (λj=>((UW (l.take j):Int),(j:Int))) l.length
  (by
   intro j hj;obtain⟨n,hn⟩:∃n,l[j]? =some n:=⟨l[j],by simp[hj]⟩
   have h1:=aax (l.take j);rw[RZ] at h1;have hw1:i64.wrap ((UW (l.take j):Int)+1)=(UW (l.take j):Int)+1:=aC au au;have hw:i64.wrap ((j:Int)+1)=((j+1:Nat):Int):=by rw[aC au au];omega
   simp only[M.yU,M.uo,cZ,bW,iF,hn,Ic,ah,Oz,(bD n.kind).1,hw,hw1];rw[zdt au,aU,aeX,akY hn];cases aeM n.kind<;>rfl)
  (by simp only[M.yU,M.uo,cZ];rw[uq au,bZ,List.take_length]) 0 (Nat.zero_le _)
 have h:M.CQ (aN o l) (0,0)=some ((UW l:Int),(l.length:Int)):=hloop;simp only[M.qP,M.EH,h,ah]
def Yj(l:List Nd)(o:Bool)(hl:l.length<=1048576):M.qN (aN o l)=some (UW l:Int):=by
 have hloop:=jl (b:=M.yG (aN o l) (l.length:Int)) (t:=((UW l:Int),(l.length:Int))) (λj=>((UW (l.take j):Int),(j:Int))) l.length
  (by
   intro j hj;obtain⟨n,hn⟩:∃n,l[j]? =some n:=⟨l[j],by simp[hj]⟩
   have h1:=aax (l.take j);rw[RZ] at h1;have hw1:i64.wrap ((UW (l.take j):Int)+1)=(UW (l.take j):Int)+1:=aC au au;have hw:i64.wrap ((j:Int)+1)=((j+1:Nat):Int):=by rw[aC au au];omega
   simp only[mg,M.yG,M.um,bW,iF,hn,Ic,ah,Oz,Ru,QU,Rw,Lj,(bD n.kind).2,hw,hw1];rw[zdt au,aU,aeX,akY hn];cases aeM n.kind<;>rfl)
  (by simp only[mg,M.yG,M.um];rw[uq au,bZ,List.take_length]) 0 (Nat.zero_le _)
 have h:M.Cb (aN o l) (l.length:Int) (0,0)=some ((UW l:Int),(l.length:Int)):=hloop;simp only[M.qN,M.Ei,cZ,h,ah]
def ald(neg:Bool):∀(N n:Nat) (out:aF),n<=N->0<n->out.length+n<=2000000->M.Ju neg ((n:Int),out)=some (0,Lib.decDigits n++out)
 |0,n,out,h1,h2,_=>absurd h2 au
 |N+1,n,out,h1,h2,h3=>by
  have hm:(n:Int).tmod 10=((n % 10:Nat):Int):=rfl;have hd:(n:Int).tdiv 10=((n / 10:Nat):Int):=rfl;have hlt:n % 10<10:=Nat.mod_lt _ au;have hle:n / 10<=n:=Nat.div_le_self _ _;have hw1:i64.wrap (48+((n % 10:Nat):Int))=((48+n % 10:Nat):Int):=by rw[aC au au];omega
  have hw2:IntKind.u8.wrap ((48+n % 10:Nat):Int)=((48+n % 10:Nat):Int):=by
   have:IntKind.u8.wrap ((48+n % 10:Nat):Int)=((48+n % 10:Nat):Int) % 256:=by simp[IntKind.wrap,IntKind.bits,IntKind.signed]
   rw[this];omega
  have hw3:i64.wrap ((n / 10:Nat):Int)=((n / 10:Nat):Int):=aC au au;have hne:((n:Int) !=0)=true:=by simp;omega
  have hbody:M.RJ neg ((n:Int),out)=some (.inl (((n / 10:Nat):Int),[UInt8.ofNat (48+n % 10)]++out)):=by simp only[M.RJ,M.NP,hne,aU,hm,hd,hw1,hw2,hw3,RX,oh,zM];rw[uq au,bZ,aX au,aU]
  rw[M.Ju,iC hbody,Lib.decDigits]
  by_cases h10:n<10
  ·rw[dif_pos h10];have e0:n / 10=0:=Nat.div_eq_of_lt h10;have em:n % 10=n:=Nat.mod_eq_of_lt h10;rw[e0,em];exact dZ rfl
  ·rw[dif_neg h10];have h4:0<n / 10:=Nat.div_pos au au;have h5:n / 10<n:=Nat.div_lt_self h2 au;have:=ald neg N (n / 10) ([UInt8.ofNat (48+n % 10)]++out) au h4 (by simp only[rX,oh,zM];omega);rw[M.Ju] at this;rw[this,BO]
def ale(n:Nat)(h:n<=1048576):M.Oj (n:Int)=some (Lib.decDigits n):=by
 simp only[M.Oj,M.Ug]
 by_cases h0:n=0
 ·subst h0;rw[Lib.decDigits];rfl
 ·have hne:((n:Int)==0)=false:=by simp;omega
  rw[hne,bZ,uq au,ald false n n [] (Nat.le_refl _) au (by simp;omega),ah,bZ,List.append_nil]
def alf(n:Nat)(h:n<=1048576):M.Oi (n:Int)=some (Lib.decDigits n):=by simp only[M.Oi,M.Ue,M.strconv_Itoa,Lib.itoa];rw[zdt au,zdt au,if_neg au,RX];rfl
def tL:List Nd->Nat
 |[]=>0
 |n::l=>n.text.length+1+tL l
def aAa:∀l:List Nd,(∀n,n∈l->n.text.length<=1000000000)->tL l<=1000000001 * l.length
 |[],_=>by simp[tL]
 |n::l,h=>by
  have h1:=h n zmf;have h2:=aAa l λm hm=>h m (zmm _ hm)
  rw[tL,oh,Nat.mul_add];omega
def agR{L:List Nd}{o:Bool}(hL:L.length<=1000000):∀(l:List Nd) (i:Nat) (acc:aF),L.drop i=l->i+l.length=L.length->acc.length+tL l<=20000000000000->
  M.kR (jV o L) ((i:Int),acc.map byteRow)=(match flL l with
   |none=>some (.inl ())
   |some s=>some (.inr ((L.length:Int),(acc++s).map byteRow)))
 |[],i,acc,hd,hi,_=>by rw[M.kR];refine dZ ?_;simp only[M.oN,M.mM,lG];rw[zM] at hi;rw[uq au,bZ,List.append_nil,show i=L.length by omega]
 |n::l,i,acc,hd,hi,hb=>by
  rw[oh] at hi;rw[tL] at hb;have hn:L[i]? =some n:=by have:=congrArg (λx=>x[0]?) hd;simpa using this
  have hd':L.drop (i+1)=l:=by have:=congrArg (λx=>x.drop 1) hd;simpa using this
  have hw:i64.wrap ((i:Int)+1)=((i+1:Nat):Int):=by rw[aC au au];omega
  have hin:((i:Int)<(L.length:Int)):=au;have step:∀(s:aF),s.length<=n.text.length+1->M.oN (jV o L) ((i:Int),acc.map byteRow)=some (.inl (((i+1:Nat):Int),(acc++s).map byteRow))->
    M.kR (jV o L) ((i:Int),acc.map byteRow)=(match(flL l).map (s++ ·) with
     |none=>some (.inl ())
     |some s=>some (.inr ((L.length:Int),(acc++s).map byteRow))):=by
   intro s hs hb';have:=agR (o:=o) hL l (i+1) (acc++s) hd' au (by rw[rX];omega);rw[M.kR] at this;rw[M.kR,iC hb',this];cases flL l with
   |none=>rfl
   |some x=>simp only[Ic,BO]
  rw[flL];cases h1:n.kind==1 with
  |true=>rw[aU];refine step n.text au ?_;simp only[M.oN,M.mM,lG,bW,DK,hn,Ic,ah,cD0,cD2,h1,aU,List.length_map,hw];rw[zdt hin,aU,aX au,aU,aX au,aU,List.map_append]
  |false=>
  rw[bZ];cases h2:n.kind==2 with
  |true=>rw[aU];refine step [32] (by simp) ?_;simp only[M.oN,M.mM,lG,bW,DK,hn,Ic,ah,cD0,cD2,h1,h2,aU,bZ,List.length_map,hw];rw[zdt hin,aU,aX au,aU,aX au,aU,List.map_append];rfl
  |false=>
  rw[bZ];cases h3:n.kind==3 with
  |true=>rw[aU,M.kR];refine dZ ?_;simp only[M.oN,M.mM,lG,bW,DK,hn,Ic,ah,cD0,h1,h2,h3,aU,bZ];rw[zdt hin,aU]
  |false=>rw[bZ];have h:=step [] (by simp) (by simp only[M.oN,M.mM,lG,bW,DK,hn,Ic,ah,cD0,h1,h2,h3,bZ,hw,List.append_nil];rw[zdt hin,aU]);rw[h];cases flL l<;>rfl
def alg{t:Tn}{o:Bool}(hd:Yn t=true)(hz:t.size<=4000)(hx:Wn t):M.sQ (jV o (t.flat 0))=some (flR (Om t)):=by
 have hxx:=Zp t 0 hx;have hf:=akX t 0 hd;have ht:=aAa _ hxx;rw[t.flat_length] at ht;have h:=agR (o:=o) (L:=t.flat 0) (by rw[t.flat_length];omega) (t.flat 0) 0 [] rfl au (by simp only[zM];omega);rw[hf] at h;have h0:M.kR (jV o (t.flat 0)) (0,[])=M.kR (jV o (t.flat 0)) (((0:Nat):Int),([]:aF).map byteRow):=rfl;simp only[M.sQ,M.I5,afA (t:=t) au hxx,ah,hd,Bool.true_and];rw[zdt hz,h0,h];cases Om t with
 |none=>rfl
 |some s=>simp only[Bool.not_true,bZ,ah,uw,letE,List.nil_append,bytesOf_map];rfl
def ayH{o:Option (aF)}{N:Nat}(h:∀s,o=some s->s.length<=N):(flR o).1.length<=N:=by
 cases o with
 |none=>simp[flR]
 |some s=>exact h s rfl
structure Ey(u:Tn):Prop where
 x:Ex' u
 p:pln u
 z:u.size<=400
def Ey.Wn{u:Tn}(h:Ey u):Go.Proofs.YtbkndkcpmnjaeaaGreatDoor.Wn (Jh u):=apE h.x.sm .top
def Ey.dok{u:Tn}(h:Ey u):Yn (Jh u)=true:=apu h.x.ok h.x.e h.p .top
def Ey.size{u:Tn}(h:Ey u):(Jh u).size<=4000:=by have:=akR h.x.ok h.x.e;have:=h.z;omega
def agS{u:Tn}(h:Ey u):(az7 u).length<=5000000000000:=by
 refine ayH λs hs=> ?_
 have h1:=aeL _ _ hs;have h2:=amI 1000000000 (Jh u) 0 (Zp _ 0 h.Wn);have h3:=h.size;omega
def apG{u:Tn}(h:Ey u)(o:Bool):M.sQ (jV o ((Jh u).flat 0))=some (flR (Om (Jh u))):=alg h.dok h.size h.Wn
def aaE:∀{ks:List Tn} {x:aF},(∀u,u∈ks->u.kind=33∨Ey u)->x∈kU ks->x.length<=5000000000000
 |[],_,_,h=>by simp[kU] at h
 |u::l,x,hk,h=>by
  rw[kU,List.mem_append] at h;rcases h with h|h
  ·rcases hk u zmf with h3|h3
   ·rw[show(u.kind==33)=true by rw[h3];rfl,aU] at h;cases h
   ·cases hq:u.kind==33 with
    |true=>rw[hq,aU] at h;cases h
    |false=>rw[hq,bZ,List.mem_singleton] at h;rw[h];exact agS h3
  ·exact aaE (λv hv=>hk v (zmm _ hv)) h
def UC:∀ks:List Tn,(kU ks).length<=ks.length
 |[]=>Nat.le_refl _
 |u::l=>by have:=UC l;rw[kU,rX,oh];cases u.kind==33<;>simp only[aU,bZ,oh,zM]<;>omega
def agT{ks:List Tn}(h:∀u,u∈ks->u.kind=33∨Ey u)(hn:ks.length<=7):(wX (kU ks) true).length<=36000000000000:=by have h1:=Tz (kU ks) true (λx hx=>aaE h hx);have h2:=UC ks;have h3:(5000000000000+2) * (kU ks).length<=(5000000000000+2) * 7:=Nat.mul_le_mul_left _ au;omega
structure Iy(t:Tn):Prop where
 i:It t
 p:pln t
 z:t.size<=400
structure Ry(ks:List Tn):Prop where
 n:ks.length<=7
 k:∀u,u∈ks->u.kind=33∨Ey u
 f:∀u,ks[0]? =some u->2<=ks.length->u.kind≠33
def Iy.rule{t:Tn}(h:Iy t)(hk:t.kind=42∨t.kind=43):Ry t.kids:=by
 have hc:=UA h.i.ok h.i.i h.i.sm h.i.sz;have hp:=h.p;have hz:=h.z;have hks:=t.mZ;have hok:=h.i.ok;have hall:t.kids.length<=7∧∀u,u∈t.kids->Bk u∨Ex' u:=by
  rcases hc with⟨u,h1,_⟩|⟨_,h1,h2⟩|⟨h1,_⟩|h1
  ·omega
  ·exact⟨h1,h2⟩
  ·omega
  ·omega
 obtain⟨k,op,x,y,ks⟩:=t;simp only[Tn.kids,Tn.kind] at *;rw[pln] at hp;refine⟨hall.1,λu hu=> ?_,λu hu h2=> ?_⟩
 ·have hs:=lu hu;rcases hall.2 u hu with h3|h3
  ·exact .inl h3.k
  ·exact .inr ⟨h3,VH.1 hp.2 u hu,au⟩
 ·have hkd:=(OV hok hu).1;have hcn:=Ji hok;have hcls:cls k op ks.length 0=0:=by
   rcases hk with rfl|rfl
   ·have:=hcn.rule rfl;have e:cls 42 op ks.length 0=if op=2∨(op=3∧0+1=ks.length) then 1 else 0:=by simp[cls]
    rw[e,if_neg au]
   ·simp[cls]
  rw[hcls] at hkd;have h3:1<=u.kind∧u.kind<=15:=hkd;omega
def Ry.empty{ks:List Tn}(h:Ry ks){j:Nat}{u:Tn}(hu:ks[j]? =some u)(hk:u.kind≠33):(kU (ks.take j)).isEmpty=decide (j=0):=by
 cases j with
 |zero=>rfl
 |succ j=>
  have hl:=(Jm.1 hu).1;cases ks with
  |nil=>simp at hu
  |cons v l=>have:=h.f v rfl au;rw[List.take_succ_cons,kU,Lu.2 this];rfl
section
variable {l:List Nd} {o:Bool} {b:Nat} (hl:l.length<=1048576)
include hl
omit hl in
theorem apH{t:Tn}(h:Lies l b t)(h1:1<=t.kids.length)(hn:t.kids.length<=7):M.uf (aN o l) ((b+sizes t.kids:Nat):Int)=some (encS ((t.kids.take (t.kids.length - 1)).map Tn.text)):=by
 have hr:=QA (o:=o) h;have hat:At l b t.kids:=by obtain⟨k,op,x,y,ks⟩:=t;exact λj u hj=>Lies.Jg h hj
 obtain⟨ks,hk⟩:∃ks,t.kids=ks:=⟨_,rfl⟩
 rw[hk] at h1 hn hr hat⊢;have hel:(encI (ends ks b)).length=ks.length:=by rw[aZ,dP]
 have hloop:=jl (b:=M.zU (aN o l) ((b+sizes ks:Nat):Int)) (t:=(((ks.length - 1:Nat):Int),encS ((ks.take (ks.length - 1)).map Tn.text))) (λj=>((j:Int),encS ((ks.take j).map Tn.text))) (ks.length - 1)
  (by
   intro j hj;obtain⟨u,hu⟩:∃u,ks[j]? =some u:=⟨ks[j],by simp[show j<ks.length by omega]⟩
   have hi:=ER (b:=b) hu;have hru:=QA (o:=o) (hat j u hu);have hle:(encS ((ks.take j).map Tn.text)).length=j:=by simp[encS];omega
   have hw:i64.wrap ((j:Int)+1)=((j+1:Nat):Int):=by rw[aC au au];omega
   simp only[mg,M.zU,M.uZ,hr,Lj,ah,hel,hw,hi,Qa,hru,QU,hle,oh,zM];rw[zdt au,aU,aX au,aU,aX au,aU,gq hu,List.map_append,encS,encS,List.map_append];rfl)
  (by
   have hw:i64.wrap (((ks.length - 1:Nat):Int)+1)=((ks.length:Nat):Int):=by rw[aC au au];omega
   simp only[mg,M.zU,M.uZ,hr,Lj,ah,hel,hw];rw[uq au,bZ]) 0 (Nat.zero_le _)
 have hh:M.Ez (aN o l) ((b+sizes ks:Nat):Int) (0,[])=some (((ks.length - 1:Nat):Int),encS ((ks.take (ks.length - 1)).map Tn.text)):=hloop;simp only[M.uf,M.GU,hh,ah,Yh,aU]
omit hl in
theorem amV(A:List (aF))(s0:aF)(hs:s0.length<=2000000)(hA:∀x,x∈A->x.length<=1048576)(hn:A.length<=7):M.G8 (encS A) (s0,0)=some (s0++wX A true,(A.length:Int)):=by
 have hjl:∀m:Nat,(wX (A.take m) true).length<=8000000:=by intro m;have h2:=Tz (A.take m) true (λx hx=>hA x (List.mem_of_mem_take hx));rw[RZ] at h2;have h3:(1048576+2) * min m A.length<=(1048576+2) * 7:=Nat.mul_le_mul_left _ au;omega
 have hloop:=jl (b:=M.CO (encS A)) (t:=(s0++wX A true,(A.length:Int))) (λj=>(s0++wX (A.take j) true,(j:Int))) A.length
  (by
   intro j hj;obtain⟨x,hx⟩:∃x,A[j]? =some x:=⟨A[j],by simp[hj]⟩
   have hxl:=hA x (Ib hx);have hq:=hjl j;have hw:i64.wrap ((j:Int)+1)=((j+1:Nat):Int):=by rw[aC au au];omega
   have he:(A.take j).isEmpty=decide (j=0):=by
    cases j with
    |zero=>rfl
    |succ j=>cases A with
     |nil=>simp at hj
     |cons a l=>rfl
   simp only[M.CO,M.wU,oV,bW,Ol,RX,hx,Ic,ah,cS0,hw];rw[zdt au,aU,gq hx,Yg,he,Bool.and_true]
   by_cases h0:j=0
   ·subst h0;rw[uq au,bZ,aX (by simp only[rX];omega),aU,zdt rfl,aU,BO]
   ·rw[zdt au,aU,aX (by simp only[rX];omega),aU,aX (by simp only[rX,oh,zM];omega),aU,uq h0,bZ];simp only[BO])
  (by simp only[M.CO,M.wU,oV];rw[uq au,bZ,List.take_length]) 0 (Nat.zero_le _)
 have e:s0++wX (A.take 0) true=s0:=by rw[List.take_zero,wX,List.append_nil]
 rw[e] at hloop;exact hloop
theorem amW{ks:List Tn}(h:Ry ks)(hat:At l b ks)(k op:Int)(x y:aF):M.AY (aN o l) k op x y (encI (ends ks b)) (aN o l) false ([],0)=some (wX (kU ks) true,(ks.length:Int)):=by
 have hel:(encI (ends ks b)).length=ks.length:=by rw[aZ,dP]
 have hn:=h.n;have hjl:∀m:Nat,(wX (kU (ks.take m)) true).length<=36000000000000:=λm=>agT (λu hu=>h.k u (List.mem_of_mem_take hu)) (by rw[RZ];omega)
 exact jl (b:=M.CP (aN o l) k op x y (encI (ends ks b)) (aN o l) false) (t:=(wX (kU ks) true,(ks.length:Int))) (λj=>(wX (kU (ks.take j)) true,(j:Int))) ks.length
  (by
   intro j hj;obtain⟨u,hu⟩:∃u,ks[j]? =some u:=⟨ks[j],by simp[hj]⟩
   have hi:=ER (b:=b) hu;have hlu:=hat j u hu;have hr:=QA (o:=o) hlu;have hq:=hjl j;have hw:i64.wrap ((j:Int)+1)=((j+1:Nat):Int):=by rw[aC au au];omega
   simp only[M.CP,M.wV,hel,hi,Qa,hr,Oz,ah,hw];rw[zdt au,aU,gq hu,Yd,kU,kU,List.append_nil]
   by_cases h33:u.kind=33
   ·rw[show(u.kind==33)=true by rw[h33];rfl,aU,aU,List.append_nil]
   ·have hy:Ey u:=(h.k u (Ib hu)).resolve_left h33;have aWm:M.nI (aN o l) false ((b+sizes (ks.take j)+sizes u.kids:Nat):Int) 1 false false false false=some (dE (Jh u)):=aWj hl hy.x hlu (p:=.top) rfl;have hwl:=agS hy;have hft:=apG hy false;rw[Lu.2 h33,bZ,bZ,Yg,h.empty hu h33,Bool.and_true];simp only[L6.2,ah,aWm,dE,at6,hft];have aW0:(flR (Om (Jh u))).fst.length<=5000000000000:=hwl
    by_cases h0:j=0
    ·subst h0;rw[uq au,bZ,aX au,aU,zdt rfl,aU];rfl
    ·rw[zdt au,aU,aX au,aU,aX (by simp only[rX,oh,zM];omega),aU,uq h0,bZ,BO];rfl)
  (by simp only[M.CP,M.wV,hel];rw[uq au,bZ,List.take_length]) 0 (Nat.zero_le _)
theorem amX{t:Tn}(hi:Iy t)(hh:Lies l b t):M.yt (aN o l) ((b+sizes t.kids:Nat):Int)=some (Rk t)∧(Rk t).length<=40000000000000:=by
 have hr:=QA (o:=o) hh;have hat:At l b t.kids:=by obtain⟨k,op,x,y,ks⟩:=t;exact λj u hj=>Lies.Jg hh hj
 have hss:=Zl hi.i.sm;have htx:=Zr hi.i.sm;simp only[mg,M.yt,M.KT,hr,Oz,Ru,QU,Rw,Lj,ah];unfold Rk;rcases UA hi.i.ok hi.i.i hi.i.sm hi.i.sz with⟨u,hk,_⟩|⟨hk,hn,_⟩|⟨hk,h1,h7,u,hu,_⟩|hk
 ·rcases hk with hk|hk
  ·rw[hk];exact⟨rfl,(by omega:(5:Nat)<=40000000000000)⟩
  ·rw[hk];exact⟨rfl,(by omega:(3:Nat)<=40000000000000)⟩
 ·have hR:=hi.rule hk;have hlp:=amW (o:=o) hl hR hat t.kind t.op t.text t.other;have hjl:=agT hR.k hR.n;rw[hlp];rcases hk with hk|hk
  ·rw[hk];exact⟨rfl,Nat.le_trans hjl au⟩
  ·rw[hk];exact⟨rfl,Nat.le_trans hjl au⟩
 ·have hp:=apH (o:=o) hh h1 h7;have hA:∀x,x∈(t.kids.take (t.kids.length - 1)).map Tn.text->x.length<=1048576:=by intro x hx;obtain⟨v,hv,rfl⟩:=List.mem_map.1 hx;exact Zr (NU hss (List.mem_of_mem_take hv))
  have hAn:((t.kids.take (t.kids.length - 1)).map Tn.text).length<=7:=by rw[List.length_map,RZ];omega
  have hlp:=amV _ ([102,117,110,99,116,105,111,110,32]++t.text++[40]) (by simp only[rX,oh,zM];omega) hA hAn;have hjl:=Tz ((t.kids.take (t.kids.length - 1)).map Tn.text) true hA;have h3:(1048576+2) * ((t.kids.take (t.kids.length - 1)).map Tn.text).length<=(1048576+2) * 7:=Nat.mul_le_mul_left _ hAn;rw[hp,ah,hlp,hk];simp only[ah];rw[aX au,aX (by simp only[rX,oh,zM];omega),aX (by simp only[rX,oh,zM];omega)];refine⟨?_, ?_⟩
  ·show some _=some _;rw[show(bif(44:Int)==40 then([66,69,71,73,78]:aF) else bif(44:Int)==41 then[69,78,68] else bif(44:Int)==44 then Rj t.text t.kids else bif(44:Int)==42||(44:Int)==43 then wX (kU t.kids) true else[])=Rj t.text t.kids from rfl,Rj,BO]
  ·rw[show(bif(44:Int)==40 then([66,69,71,73,78]:aF) else bif(44:Int)==41 then[69,78,68] else bif(44:Int)==44 then Rj t.text t.kids else bif(44:Int)==42||(44:Int)==43 then wX (kU t.kids) true else[])=Rj t.text t.kids from rfl,Rj];simp only[rX,oh,zM];omega
 ·rw[hk];exact⟨rfl,(by omega:(0:Nat)<=40000000000000)⟩
end
def aCS(t:Tn):∀(f:Nat) (w:Bool) (p:List Nd),t.size<=f->p.length+t.size<=1048576->
  M.jA f t.kind t.op t.text t.other (iM w t.kids) (aN true p)=some (aN true (p++t.flat p.length)):=by
 refine Tn.ind (P:=λt=>∀(f:Nat) (w:Bool) (p:List Nd),t.size<=f->p.length+t.size<=1048576->M.jA f t.kind t.op t.text t.other (iM w t.kids) (aN true p)=some (aN true (p++t.flat p.length))) ?_ t;intro k op x y ks ih f w p hf hp;cases f with
 |zero=>rw[Tn.size] at hf;omega
 |succ f=>
  rw[Tn.size] at hf hp;have hkl:=lV ks;simp only[mg,M.jA,M.Dc,Tn.kids,Tn.kind,Tn.op,Tn.text,Tn.other,jC];have hrec:∀j t,ks[j]? =some t->M.jA f t.kind t.op t.text t.other (iM w t.kids) (aN true (p++gX (ks.take j) p.length))=some (aN true (p++gX (ks.take (j+1)) p.length)):=by
   intro j t hj;have hst:=Jf hj;have hfl:(p++gX (ks.take j) p.length).length=p.length+sizes (ks.take j):=by rw[rX,lW]
   have:=ih t (Ib hj) f w (p++gX (ks.take j) p.length) au (by rw[hfl];omega);rw[this,hfl,X9 hj,BO]
  have hloop:=jl (b:=M.rM (M.jA f))
   (t:=if ks=[] then .inl (iM w ks,(ks.length:Int),0,aN true p,k,op,x,y) else .inr (iM w ks,(ks.length:Int),(ks.length:Int),aN true (p++gX ks p.length),k,op,x,y,encI (ends ks p.length)))
   (λj=>if j=0 then .inl (iM w ks,(ks.length:Int),0,aN true p,k,op,x,y) else .inr (iM w ks,(ks.length:Int),(j:Int),aN true (p++gX (ks.take j) p.length),k,op,x,y,encI (ends (ks.take j) p.length))) ks.length
   (by
    intro j hj;obtain⟨t,ht⟩:∃t,ks[j]? =some t:=⟨ks[j],by simp⟩
    have hr:=hrec j t ht;have hst:=Jf ht;have hp1:=t.size_pos;have hg:(iM w ks)[j]? =some (t.row w):=by rw[PO];simp[ht]
    have hc0:fZ .i64 (t.row w) 0=some t.kind:=by cases t;rfl
    have hc1:fZ .i64 (t.row w) 1=some t.op:=by cases t;rfl
    have hc2:cStr (t.row w) 2=some t.text:=by cases t;rfl
    have hc3:cStr (t.row w) 3=some t.other:=by cases t;rfl
    have hc4:TD 5 (t.row w) 4=some (iM w t.kids):=by cases t;rfl
    have hfl:(aN true (p++gX (ks.take (j+1)) p.length)).length=p.length+sizes (ks.take j)+t.size:=by rw[cZ,rX,lW,gq ht,lU,sizes,sizes];omega
    rw[if_neg (show¬j+1=0 by omega),aap ht]
    by_cases h0:j=0
    ·subst h0;rw[if_pos rfl];have hi:idx (iM w ks) 0=some (t.row w):=by have:=bW (iM w ks) 0;rw[vM] at this;rw[this,hg]
     have hr0:M.jA f t.kind t.op t.text t.other (iM w t.kids) (aN true p)=some (aN true (p++gX (ks.take (0+1)) p.length)):=by rw[<-hr];simp[gX]
     simp only[mg,M.rM,M.oK,hi,ah,hc0,hc1,hc2,hc3,hc4,hr0,hfl];rw[zdt au,aU,aC au au,aC au au];rfl
    ·rw[if_neg h0];simp only[mg,M.rM,M.oK,bW,hg,ah,hc0,hc1,hc2,hc3,hc4,hr,hfl,aZ,dP,RZ,Le];rw[zdt au,aU,aX au,aU,aX au,aU,aC au au,aC au au];simp[encI])
   (by
    by_cases h0:ks.length=0
    ·have he:ks=[]:=List.length_eq_zero_iff.1 h0;rw[if_pos h0,if_pos he];simp only[mg,M.rM,M.oK];rw[uq au,bZ]
    ·have he:¬ks=[]:=λe=>h0 (by rw[e];rfl)
     rw[if_neg h0,if_neg he,List.take_length];simp only[mg,M.rM,M.oK];rw[uq au,bZ]) 0 (Nat.zero_le _)
  rw[if_pos rfl] at hloop;rw[M.Gx,hloop,ah]
  by_cases he:ks=[]
  ·rw[if_pos he];subst he;simp only[uw,cZ,Le];rw[aX au,aU,aX au,aU,He];rfl
  ·rw[if_neg he];simp only[uw,letE,cZ,rX,lW,Le,wu,aU];rw[aX au,aU,aX au,aU,Tn.flat,<-BO];simp only[He];rfl
def ayI{t:Tn}{w:Bool}(h:t.size<=1048576):M.tX t.kind t.op t.text t.other (iM w t.kids)=some (aN true (t.flat 0)):=by have:=M.Z9 (aCS t t.size w [] (Nat.le_refl _) (by simpa using h));simp only[M.tX,M.Gy];have e:aN true ([]:List Nd)=[]:=rfl;rw[e] at this;rw[this,ah];simp
def amY{T:Tn}{o:Bool}(hT:T.size<=1048576):UK (aN o (T.flat 0))=some ((T.flat 0).map nk):=aan o _ λn hn=>by have:=(Hf T 0 n hn).1;omega
def aeY{T:Tn}{o:Bool}(hT:T.size<=400):M.gY (aN o (T.flat 0))=some (encI (T.sts 0),true):=by have hp:=T.size_pos;simp only[M.gY,amY (T:=T) (o:=o) au,ah,az4,List.length_map];rw[if_pos (by rw[T.flat_length];omega),nG,if_pos (by rw[Gi,T.flat_length];omega),Oh];obtain⟨u,hu,hl⟩:=T.Vk 0;simp only[T.flat_length];rw[hu,<-hl];simp[QW,encI]
def aii{T t:Tn}{o:Bool}{b:Nat}(hT:T.size<=400)(h:Lies (T.flat 0) b t):M.Js (aN o (T.flat 0)) ((b+sizes t.kids:Nat):Int)=some (aN true (t.flat 0)):=by
 have hlt:=h.lt;rw[T.flat_length] at hlt;have hs:=t.mZ;have hst:=h.sts rfl;rw[show b+t.size - 1=b+sizes t.kids by omega] at hst;have hg2:(encI (T.sts 0))[(((b+sizes t.kids:Nat):Int)).toNat]? =some [D.int .i64 (b:Int)]:=by rw[RX,nD,hst];rfl
 have hso:M.xX (aN o (T.flat 0)) ((b+sizes t.kids:Nat):Int)=some (b:Int):=by simp only[M.xX,M.Kr,aeY hT,ah,Bool.not_true,bZ,dn,cZ,T.flat_length];rw[aC au au,zdt au,zdt au];simp only[Bool.and_self,Bool.not_true,bZ,bW,nD,hst,hg2,Ic,ah,Qa]
 have ht:=abv (o:=o) (l:=T.flat 0) (by rw[T.flat_length];omega) h;have hl:=ayI (t:=t) (w:=false) au;simp only[M.Js,M.QY,hso,ah,ht,YX,hl,Tj,aU];rw[uq au,bZ]
structure Py(T:Tn):Prop where
 ok:zH T
 k:T.kind=45
 sm:VN T
 p:pln T
 z:T.size<=400
def Py.its{T:Tn}(h:Py T):∀u,u∈T.kids->Iy u:=by intro u hu;have hz:=h.z;have hks:=T.mZ;have hs:=lu hu;have hp:=h.p;have hi:=aWl h.ok h.k h.sm au u hu;obtain⟨k,op,x,y,ks⟩:=T;rw[pln] at hp;simp only[Tn.kids] at *;exact⟨hi,VH.1 hp.2 u hu,au⟩
def alh{t:Tn}(hz:t.size<=400)(h:(Rk t).length<=40000000000000):(Zf t).length<=50000000000000∧(Lib.decDigits (UW (t.flat 0))).length<=1000:=by have h1:=aax (t.flat 0);rw[t.flat_length] at h1;have h2:=an2 _ _ (Nat.le_refl (UW (t.flat 0)));refine⟨?_,au⟩;rw[Zf];simp only[rX,oh,zM];omega
variable {α:Type}
mutual
def aup:∀t:Tn,dcR t (QH false t)
 | .mk k n x y ks=>⟨xg false ks,0,rfl,Yk ks⟩
def Yk:∀ts:List Tn,ahY ts (xg false ts)
 |[]=>rfl
 |t::ts=>⟨QH false t,xg false ts,rfl,aup t,Yk ts⟩
end
def aCT{u:Tn}(h:Ey u):M.lN (Jh u).kind (Jh u).op (Jh u).text (xg false (Jh u).kids) 0=some (flR (Om (Jh u))):=by have h2:=amI 1000000000 (Jh u) 0 (Zp _ 0 h.Wn);have h3:=h.size;exact M.aae (ayw (Jh u) (Jh u).size _ 0 (Nat.le_refl _) (Yk _) au)
def ayJ{ks:List Tn}(h:Ry ks):M.Di (iM false ks) (ks.length:Int) (0,[])=some ((ks.length:Int),encS (kU ks)):=by
 have hn:=h.n;exact jl (b:=M.En (iM false ks) (ks.length:Int)) (t:=((ks.length:Int),encS (kU ks))) (λj=>((j:Int),encS (kU (ks.take j)))) ks.length
  (by
   intro j hj;obtain⟨u,hu⟩:∃u,ks[j]? =some u:=⟨ks[j],by simp[hj]⟩
   obtain⟨c0,c1,c2,c3,c4⟩:=Tt false u;have hix:=Tv false hu;have hix2:(iM false ks)[((j:Nat):Int).toNat]? =some (u.row false):=by rw[RX,<-bW];exact hix
   have hw:i64.wrap ((j:Int)+1)=((j+1:Nat):Int):=by rw[aC au au];omega
   have hsl:(encS (kU (ks.take j))).length<=1000000:=by have:=UC (ks.take j);rw[RZ] at this;rw[oV];omega
   simp only[mg,M.En,M.yJ,hix,hix2,c0,c1,c2,c3,c4,ah,hw,bne];rw[zdt au,aU,gq hu,Yd,kU,kU,List.append_nil];cases h33:u.kind==33 with
   |true=>simp only[Bool.not_true,bZ,aU,List.append_nil]
   |false=>have hy:Ey u:=(h.k u (Ib hu)).resolve_left (Lu.1 h33);have ht:=aMd hy.x false;have hf:=aCT hy;simp only[Bool.not_false,aU,bZ,ht,ah,PK,Zh,hf,oh,zM];rw[aX au,aU,aX au,aU];simp only[encS,List.map_append];rfl)
  (by simp only[mg,M.En,M.yJ];rw[uq au,bZ,List.take_length]) 0 (Nat.zero_le _)
def aCU{ks:List Tn}(h:Ry ks):M.strings_Join (encS (kU ks)) [44,32]=some (wX (kU ks) true):=by have hn:=h.n;have h1:=aie (kU ks) (λx hx=>aaE h.k hx);have h2:=UC ks;have h3:5000000000000 * (kU ks).length<=5000000000000 * 7:=Nat.mul_le_mul_left _ au;simp only[M.strings_Join,aaD];rw[aX (by simp only[oh,zM];omega),aU,(Rl _).1]
def ali{T t:Tn}{o:Bool}{b:Nat}(hOk:zC (T.flat 0)=true)(ol:Ok (T.flat 0))(hT:T.size<=400)(hi:Iy t)(h:Lies (T.flat 0) b t):M.vX (aN o (T.flat 0)) ((b+sizes t.kids:Nat):Int)=some (Rk t):=by
 have hlt:=h.lt;rw[T.flat_length] at hlt;have hs:=t.mZ;have a2:=Qw (T.flat 0) o (by have:=ol.len;omega) ol.k ol.sm;have ht:=abv (o:=o) (l:=T.flat 0) (by rw[T.flat_length];omega) h;have hss:=Zl hi.i.sm;have htx:=Zr hi.i.sm;simp only[M.vX,M.Nq,a2,hOk,ah,Bool.not_true,bZ,dn,cZ,T.flat_length];rw[aC au au,zdt au,zdt au];simp only[Bool.and_self,Bool.not_true,bZ,ah,ht,YX,jC];unfold Rk;rcases UA hi.i.ok hi.i.i hi.i.sm hi.i.sz with⟨u,hk,_⟩|⟨hk,hn,_⟩|⟨hk,h1,h7,u,hu,_⟩|hk
 ·rcases hk with hk|hk
  ·rw[hk];rfl
  ·rw[hk];rfl
 ·have hR:=hi.rule hk;have hlp:=ayJ hR;have hj:=aCU hR;rw[hlp];simp only[ah,hj];rcases hk with hk|hk
  ·rw[hk];rfl
  ·rw[hk];rfl
 ·have hd:=(aCQ (ks:=t.kids) (λu hu=>Zr (NU hss hu)) h1 au t.kind t.op t.text t.other htx false).1;rw[hd];simp only[ah];rw[hk];rfl
 ·rw[hk];rfl
def agU{T:Tn}(hOk:zC (T.flat 0)=true)(ol:Ok (T.flat 0))(h:Py T)(o:Bool):M.IG (aN o (T.flat 0)) (encI (ends T.kids 0)) (T.kids.length:Int) (0,[])=some ((T.kids.length:Int),encS (lK T.kids)):=by
 have hT:=h.z;have hTk:=T.mZ;have hl:(T.flat 0).length<=1048576:=by rw[T.flat_length];omega
 have its:=h.its;have hat:At (T.flat 0) 0 T.kids:=by have hw:=Lies.whole T;obtain⟨k,op,x,y,ks⟩:=T;exact λj u hj=>Lies.Jg hw hj
 obtain⟨ks,hk⟩:∃ks,T.kids=ks:=⟨_,rfl⟩
 rw[hk] at its hat hTk⊢;have hkl:=lV ks;exact jl (b:=M.Eo (aN o (T.flat 0)) (encI (ends ks 0)) (ks.length:Int)) (t:=((ks.length:Int),encS (lK ks))) (λj=>((j:Int),encS (lK (ks.take j)))) ks.length
  (by
   intro j hj;obtain⟨u,hu⟩:∃u,ks[j]? =some u:=⟨ks[j],by simp[hj]⟩
   have hi:=ER (b:=0) hu;have hlu:=hat j u hu;have hr:=QA (o:=o) hlu;have hy:=its u (Ib hu);have hw:i64.wrap ((j:Int)+1)=((j+1:Nat):Int):=by rw[aC au au];omega
   simp only[mg,M.Eo,M.yK,hi,Qa,hr,Oz,ah,hw,bne];rw[zdt au,aU,gq hu,Uu,lK,lK,List.append_nil];cases h34:u.kind==34 with
   |true=>simp only[Bool.not_true,bZ,aU,List.append_nil]
   |false=>
    have hpt:=aii (o:=o) hT hlu;have hst:=Yj (u.flat 0) false (by rw[u.flat_length];have:=hy.z;omega);have h1:=aax (u.flat 0);rw[u.flat_length] at h1;have hd:=alf (UW (u.flat 0)) (by have:=hy.z;omega);have hh:=amX (o:=o) hl hy hlu;have hh2:=hh.2;have hi2:=ali (o:=o) hOk ol hT hy hlu;have hll:=alh hy.z hh.2;have hsl:(encS (lK (ks.take j))).length<=1000000:=by have:=Uw (ks.take j);rw[RZ] at this;rw[oV];omega
    simp only[Bool.not_false,aU,bZ,hpt,JR,hst,hd,hi2,ah,oh,zM];rw[aX au,aU,aX (by simp only[rX,oh,zM];omega),aU,aX au,aU,aX au,aU];simp only[encS,List.map_append];rfl)
  (by simp only[mg,M.Eo,M.yK];rw[uq au,bZ,List.take_length]) 0 (Nat.zero_le _)
def parts(ts:List Tn):aA:=ts.map λt=>[.sl false 5 (aN false (t.flat 0))]
def aij(k op:Int)(x y:aF)(kr:aA)(ts:List Tn)(hs:sizes ts<=900000):M.aW k op x y kr (parts ts)=some (aN true ((Tn.mk k op x y ts).flat 0)):=by
 have htl:=lV ts;simp only[mg,M.aW,M.ML];have hpl:(parts ts).length=ts.length:=by simp[parts]
 have hloop:=jl (b:=M.Gl (parts ts) k op x y) (t:=((ts.length:Int),aN true (gX ts 0),encI (ends ts 0))) (λj=>((j:Int),aN true (gX (ts.take j) 0),encI (ends (ts.take j) 0))) ts.length
  (by
   intro j hj;obtain⟨t,ht⟩:∃t,ts[j]? =some t:=⟨ts[j],by simp[hj]⟩
   have hst:=Jf ht;have hp:=t.size_pos;have hr:(parts ts)[j]? =some [.sl false 5 (aN false (t.flat 0))]:=by simp[parts,ht]
   have c0:TD 5 [D.sl false 5 (aN false (t.flat 0))] 0=some (aN false (t.flat 0)):=rfl;have hfl:(aN true (gX (ts.take j) 0)).length=sizes (ts.take j):=by rw[cZ,lW]
   have hsh:M.oq (aN false (t.flat 0)) ((sizes (ts.take j):Nat):Int)=some (aN true (t.flat (sizes (ts.take j)))):=by
    rw[alc (t.flat 0) false _ (by rw[t.flat_length];omega) (λn hn=> ?_)]
    ·rw[t.acv 0 (sizes (ts.take j))];congr 4<;>omega
    ·obtain⟨h1,h2⟩:=Hf t 0 n hn;refine⟨au,λe he=> ?_⟩;have:=h2 e he;omega
   have hrl:(aN true (t.flat (sizes (ts.take j)))).length=t.size:=by rw[cZ,t.flat_length]
   have hel:(encI (ends (ts.take j) 0)).length=j:=by rw[aZ,dP,RZ];omega
   simp only[mg,M.Gl,M.Ad,hpl,bW,hr,ah,c0,hfl,hsh,hrl,hel,rX,Le];rw[zdt au,aU,aX au,aU,aX au,aU,aX au,aU,aX au,aU,aC au au,aC au au,X9 ht,aap ht,He,Nat.zero_add];simp[encI])
  (by simp only[mg,M.Gl,M.Ad,hpl];rw[uq au,bZ,List.take_length]) 0 (Nat.zero_le _)
 have e0:aN true (gX (ts.take 0) 0)=[]:=rfl;have e1:encI (ends (ts.take 0) 0)=[]:=rfl;rw[vM,e0,e1] at hloop;have LY:M.JW (parts ts) k op x y (0,[],[])=some ((ts.length:Int),aN true (gX ts 0),encI (ends ts 0)):=hloop;rw[LY,ah];simp only[wu,aU,cZ,lW,Le];rw[aX au,aU,aX au,aU,Tn.flat,He];rfl
def alj(o w:Bool)(ts:List Tn):aJ (ts.map λt=>[D.sl w 5 (aN o (t.flat 0))])=parts ts:=by rw[Ui,List.map_map];unfold parts;congr 1;funext t;simp[vP,D.fz,JR]
mutual
def aof:∀(t:Tn) (b:Nat),wK (t.flat b)+1=5 * t.size
 | .mk k o x y ks,b=>by
  have:=alk ks b;have e:wK [(⟨k,o,x,y,ends ks b⟩:Nd)]=4+ks.length:=by simp[wK,dP]
  rw[Tn.flat,aaw,e,Tn.size];omega
def alk:∀(ks:List Tn) (b:Nat),wK (gX ks b)+ks.length=5 * sizes ks
 |[],_=>rfl
 |t::ts,b=>by have h1:=aof t b;have h2:=alk ts (b+t.size);rw[gX,aaw,sizes,oh];omega
end
mutual
def OA:Tn->Tn
 | .mk k op x y ks=> .mk k op x y (xk ks)
def xk:List Tn->List Tn
 |[]=>[]
 |t::ts=>(bif t.kind==34 then[] else[OA t])++xk ts
end
def alm:∀a b:List Tn,xk (a++b)=xk a++xk b
 |[],b=>rfl
 |t::a,b=>by rw[Xg,xk,xk,alm a b,BO]
def auq(t:Tn):xk [t]=bif t.kind==34 then[] else[OA t]:=by rw[xk,xk,List.append_nil]
def aln:∀ks:List Tn,(xk ks).length<=ks.length
 |[]=>Nat.le_refl _
 |t::ts=>by have:=aln ts;rw[xk,rX,oh];cases t.kind==34<;>simp only[aU,bZ,oh,zM]<;>omega
def Ou(t:Tn):(OA t).kind=t.kind∧(OA t).op=t.op∧(OA t).text=t.text∧(OA t).other=t.other∧(OA t).kids=xk t.kids:=by cases t;exact⟨rfl,rfl,rfl,rfl,rfl⟩
mutual
def Zt:∀t:Tn,(OA t).size<=t.size
 | .mk k op x y ks=>by have:=aaF ks;rw[OA,Tn.size,Tn.size];omega
def aaF:∀ks:List Tn,sizes (xk ks)<=sizes ks
 |[]=>Nat.le_refl _
 |t::ts=>by have h1:=Zt t;have h2:=aaF ts;rw[xk,lU,sizes];cases t.kind==34<;>simp only[aU,bZ,sizes]<;>omega
end
mutual
def aik:∀t:Tn,VN t->VN (OA t)
 | .mk k op x y ks,h=>by rw[VN] at h;rw[OA,VN];exact⟨h.1,alo ks h.2⟩
def alo:∀ks:List Tn,ab4 ks->ab4 (xk ks)
 |[],_=>trivial
 |t::ts,h=>by
  rw[ab4] at h;have h1:=aik t h.1;have h2:=alo ts h.2;rw[xk];cases t.kind==34 with
  |true=>rw[aU,List.nil_append];exact h2
  |false=>rw[bZ];exact⟨h1,h2⟩
end
def aCV{t:Tn}(h:t.size<=400)(hs:VN t):Ok ((OA t).flat 0):=by have h1:=Zt t;have h2:=aik t hs;have hw:=aof (OA t) 0;refine⟨by rw[Tn.flat_length];omega,λn hn=> ?_,(ah7 _ 0).1 h2,au⟩;obtain⟨h3,h4⟩:=Hf (OA t) 0 n hn;refine⟨au,λe he=> ?_⟩;have:=h4 e he;exact⟨au,au⟩
def ayK{l:List Nd}{o:Bool}(hl:l.length<=1048576)(t:Tn):∀(f b:Nat),Lies l b t->t.size<=f->t.size<=400->
  M.kS f (aN o l) ((b+sizes t.kids:Nat):Int)=some (aN true ((OA t).flat 0)):=by
 refine Tn.ind (P:=λt=>∀(f b:Nat),Lies l b t->t.size<=f->t.size<=400->M.kS f (aN o l) ((b+sizes t.kids:Nat):Int)=some (aN true ((OA t).flat 0))) ?_ t;intro k op x y ks ih f b h hf hz;cases f with
 |zero=>rw[Tn.size] at hf;omega
 |succ f=>
  have hroot:l[b+sizes ks]? =some ⟨k,op,x,y,ends ks b⟩:=h.root;have hlt:=h.lt;rw[Tn.size] at hf hlt hz;have hkl:=lV ks;have hloop:=jl (b:=M.EI (M.kS f) (aN o l) ((b+sizes ks:Nat):Int))
   (t:=((ks.length:Int),(xk ks).map λt=>[D.sl true 5 (aN true (t.flat 0))])) (λj=>((j:Int),(xk (ks.take j)).map λt=>[D.sl true 5 (aN true (t.flat 0))])) ks.length
   (by
    intro j hj;obtain⟨u,hu⟩:∃u,ks[j]? =some u:=⟨ks[j],by simp[hj]⟩
    have hus:=Jf hu;have hlu:=Lies.Jg h hu;have hr:=ih u (Ib hu) f _ hlu au au;have he:=Uj (b:=b) hu;have hru:=Lies.root' hlu;have hw:i64.wrap ((j:Int)+1)=((j+1:Nat):Int):=by rw[aC au au];omega
    have hln:=aln (ks.take j);rw[RZ] at hln;simp only[mg,M.EI,M.yV,bW,iF,hroot,hru,Ic,ah,Lj,Oz,aZ,dP,nD,he,Qa,hr,List.length_map,oh,zM,hw,bne];rw[zdt au,aU,gq hu,alm,auq];cases h34:u.kind==34 with
    |true=>simp only[Bool.not_true,bZ,aU,List.append_nil]
    |false=>simp only[Bool.not_false,aU,bZ];rw[aX au,aU,aX au,aU,List.map_append];rfl)
   (by simp only[mg,M.EI,M.yV,bW,iF,hroot,Ic,ah,Lj,aZ,dP];rw[uq au,bZ,List.take_length]) 0 (Nat.zero_le _)
  have hh:M.I7 (M.kS f) (aN o l) ((b+sizes ks:Nat):Int) (0,[])=some ((ks.length:Int),(xk ks).map λt=>[D.sl true 5 (aN true (t.flat 0))]):=hloop;have hmk:∀kr,M.aW k op x y kr (aJ ((xk ks).map λt=>[D.sl true 5 (aN true (t.flat 0))]))=some (aN true ((Tn.mk k op x y (xk ks)).flat 0)):=by intro kr;rw[alj];refine aij _ _ _ _ _ _ ?_;have h1:=aaF ks;omega
  simp only[mg,M.kS,M.FU,Tn.kids,hh,bW,iF,hroot,Ic,ah,Oz,Ru,QU,Rw,Lj,hmk,Tj,aU];rw[OA]
end Go.Proofs.YtbkndkcpmnjaeaaGreatDoor
