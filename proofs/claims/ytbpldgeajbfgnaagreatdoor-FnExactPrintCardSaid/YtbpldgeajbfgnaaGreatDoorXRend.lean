import Derived.Test.YtbpldgeajbfgnaaGreatDoorXSpec
import Derived.Test.YtbpldgeajbfgnaaGreatDoorXLev
set_option linter.defProp false
namespace Go.Proofs.YtbpldgeajbfgnaaGreatDoor
set_option linter.unusedVariables false
set_option linter.unusedSimpArgs false
open Go Go.Vm
open Go.IntKind (i64)
def aiY:∀(L:List (List Tk)) (b:Bool) (x:List Tk),F6 b (L++[x])=F6 b L++(bif L.isEmpty && b then x else tok 36::x)
 |[],b,x=>by cases b<;>simp[F6]
 |y::L,b,x=>by rw[TV,F6,F6,aiY L false x];simp
def Ir(ks:List Tn):List (List Tk):=ks.map λu=>YF u .top
def aiZ:∀ks:List Tn,Ug (Ir ks)+2 * ks.length<=8 * sizes ks
 |[]=>by simp[Ir,Ug,sizes]
 |t::ts=>by have h1:=aiK t .top;have h2:=aiZ ts;simp only[Ir,OQ,Ug,sizes,mV] at h2⊢;omega
def ZH(ks:List Tn)(b:Bool):(F6 b (Ir ks)).length<=9 * sizes ks:=by
 have h1:=Xu (Ir ks) b;have h2:=aiZ ks;have h3:(Ir ks).length=ks.length:=by simp[Ir]
 omega
def agJ{k op:Int}{n:Nat}{p:Ps}(ht:∀j,qh k j=false)(hq:∀j,j<n->dP k op n j p=.top):∀(ts:List Tn) (j:Nat),j+ts.length=n->jA k op n p ts j=Ir ts
 |[],j,_=>by rw[jA];rfl
 |t::ts,j,hj=>by rw[mV] at hj;rw[jA,hq j au,ht j,agJ ht hq ts (j+1) au,Bool.false_or];rfl
def At(l:List Nd)(b:Nat)(ks:List Tn):Prop:=∀j u,ks[j]? =some u->Lies l (b+sizes (ks.take j)) u
def lH{ks:List Tn}{b j:Nat}{u:Tn}(hj:ks[j]? =some u):idx (encI (ends ks b)) (j:Int)=some [D.int .i64 ((b+sizes (ks.take j)+sizes u.kids:Nat):Int)]:=by rw[bJ,lK,VF hj];rfl
def av4{ks:List Tn}(ih:∀u,u∈ks->PS u){o:Bool}{f:Nat}{l:List Nd}{b:Nat}(hl:l.length<=1048576)(hat:At l b ks)(hf:5 * sizes ks+2<=f)(hu:sizes ks<=1048575):
  M.Df f (bV o l) false (encI (ends ks b))=some (lJ (F6 true (Ir ks))):=by
 obtain⟨g,rfl⟩:∃g,f=g+1:=⟨f - 1,au⟩
 have hkl:=jq ks;have e1:=(lZ 36 (by constructor<;>decide)).2;have hloop:=jh (b:=M.Gs (M.uZ g) (encI (ends ks b)) (bV o l) false) (t:=((ks.length:Int),lJ (F6 true (Ir ks)))) (λj=>((j:Int),lJ (F6 true (Ir (ks.take j))))) ks.length
  (by
   intro j hj;obtain⟨u,hu'⟩:∃u,ks[j]? =some u:=⟨ks[j],by simp[hj]⟩
   have hus:=iE (BX hu');have hst:=LV hu';have ha:=aUh (ih u (BX hu')) (o:=o) (f:=g) (p:=.top) hl (hat j u hu') au rfl;have hi:=lH (b:=b) hu';have hel:=aiK u .top;have hcl:=ZH (ks.take j) true;have hsn:F6 true (Ir (ks.take (j+1)))=F6 true (Ir (ks.take j))++(bif(Ir (ks.take j)).isEmpty && true then YF u .top else tok 36::YF u .top):=by rw[gW hu',Ir,List.map_append];exact aiY _ _ _
   have hw:i64.wrap ((j:Int)+1)=((j+1:Nat):Int):=by rw[aG au au];omega
   simp only[Ps.top] at ha hel;rw[hsn];simp only[jm,M.Gs,M.Ae,aZ,eu];rw[zdt au,aS]
   by_cases h0:j=0
   ·subst h0;rw[qw au,bG];have z:(Ir (ks.take 0)).isEmpty=true:=rfl;simp(disch:=omega) only[hi,ah,JW,BN.2,ha,<-mJ,iF,qx,room,OH,aS,hw,z,Bool.and_true,Ps.top]
   ·rw[zdt au,aS];have z:(Ir (ks.take j)).isEmpty=false:=by
     have hl2:(Ir (ks.take j)).length=j:=by rw[Ir,List.length_map,Ui];omega
     cases hq:Ir (ks.take j) with
     |nil=>rw[hq,um] at hl2;omega
     |cons _ _=>rfl
    simp(disch:=omega) only[hi,ah,JW,BN.2,ha,e1,xO,<-mJ,iF,qx,J9,mV,um,room,OH,aS,bG,hw,z,Bool.false_and,Ps.top];simp)
  (by simp only[jm,M.Gs,M.Ae,aZ,eu];rw[qw au,bG,List.take_length]) 0 (Nat.zero_le _)
 have e0:lJ (F6 true (Ir (ks.take 0)))=[]:=rfl;rw[pY,e0] at hloop;rw[M.afq];simp only[M.Dc,M.KH,hloop,ah,dn,aS]
def YH{ks:List Tn}(ih:∀u,u∈ks->PS u){o:Bool}{f:Nat}{l:List Nd}{b:Nat}{k op:Int}{x y:aC}{p:Ps}{j:Nat}{u:Tn}(he:1<=k∧k<=15)(hc:Cnt k op y ks.length)(hp:mY p=true)(hl:l.length<=1048576)(hat:At l b ks)(hf:5 * sizes ks+1<=f)(hu:sizes ks<=1048575)(hj:ks[j]? =some u)(ht:qh k j=false):
  (idx (encI (ends ks b)) (j:Int)=some [D.int .i64 ((b+sizes (ks.take j)+sizes u.kids:Nat):Int)]∧
   M.fB k op x y (encI (ends ks b)) (j:Int) p.level p.mG p.sF p.sG p.lD=some (dP k op ks.length j p).BU∧
   M.uZ f (bV o l) false ((b+sizes (ks.take j)+sizes u.kids:Nat):Int) (dP k op ks.length j p).BU.1 (dP k op ks.length j p).BU.2.1 (dP k op ks.length j p).BU.2.2.1 (dP k op ks.length j p).BU.2.2.2.1 (dP k op ks.length j p).BU.2.2.2.2=some (lJ (vC k op ks.length p j u)))∧(vC k op ks.length p j u).length+2<=8 * u.size:=by
 have hkl:=jq ks;have hus:=iE (BX hj);have hjl:j<ks.length:=(MG.1 hj).1;have hen:(encI (ends ks b)).length=ks.length:=by rw[aZ,eu]
 have hlv:lvl k op≠0:=by have:=TR he hc;omega
 refine⟨⟨lH hj, ?_, ?_⟩,OG (qM u)⟩
 ·have h:=XC (x:=x) (r:=encI (ends ks b)) (j:=j) (p:=p) he (by rw[hen];exact hc) au au;rw[hen] at h;exact h
 ·have h:=aUh (ih u (BX hj)) (o:=o) (f:=f) (p:=dP k op ks.length j p) hl (hat j u hj) au (wI hp hjl hlv);rw[vC,ht,Bool.false_or];exact h
def akl{ks:List Tn}(ih:∀u,u∈ks->PS u){o:Bool}{f:Nat}{l:List Nd}{b:Nat}(hl:l.length<=1048576)(hat:At l b ks)(hf:5 * sizes ks+3<=f)(hu:sizes ks<=1048575)(t':Int)(x:aC)(c:Int)(hop:c=32∨c=34):
  M.Fj f (bV o l) false t' x 0 (encI (ends ks b)) c=some (lJ (⟨t',x,0⟩::tok c::(F6 true (Ir ks)++[tok (c+1)]))):=by
 obtain⟨g,rfl⟩:∃g,f=g+1:=⟨f - 1,au⟩
 have h1:=av4 ih (o:=o) (f:=g) (b:=b) hl hat au hu;have h2:=ZH ks true;have e1:=(lZ c (by rcases hop with rfl|rfl<;>constructor<;>decide)).2;have e2:=(lZ (c+1) (by rcases hop with rfl|rfl<;>constructor<;>decide)).2;have e3:i64.wrap (c+1)=c+1:=by rcases hop with rfl|rfl<;>rfl
 have hr:([[D.int .i64 t',D.str x,D.int .i64 0],[D.int .i64 c,D.str (spell c),D.int .i64 0]]:aA)=lJ [⟨t',x,0⟩,tok c]:=rfl;rw[M.adi];simp(disch:=omega) only[jm,M.zA,e1,e2,e3,h1,ah,hr,xO (c+1),<-mJ,iF,qx,J9,mV,um,room,OH,dn,aS];simp
def agK{u:Tn}(hS:PS u)(hok:Fb u)(he:Wh u)(hh:13<=lvl u.kind u.op){o:Bool}{f:Nat}{l:List Nd}{b:Nat}(hl:l.length<=1048576)(h:Lies l b u)(hf:5 * u.size+1<=f)(p:Ps)(hp:mY p=true):
  M.Dh f (bV o l) false ((b+sizes u.kids:Nat):Int)=some (lJ (wH u p)):=by
 obtain⟨g,rfl⟩:∃g,f=g+1:=⟨f - 1,au⟩
 have h1:=hS o g ⟨14,false,false,false,false⟩ l b hl h au rfl;rw[aoX u hok hh he _ p rfl hp] at h1;rw[M.abA];simp only[M.yw,h1,ah,dn,aS]
def XD(k:Int)(h:k=12∨k=14∨k=6∨k=11∨k=13)(j:Nat):qh k j=false:=by rcases h with rfl|rfl|rfl|rfl|rfl<;>simp[qh]
def aqh{ks:List Tn}(ih:∀u,u∈ks->PS u){o:Bool}{f:Nat}{l:List Nd}{b:Nat}{k op:Int}{x y:aC}{p:Ps}(hk:k=12∨k=14)(hc:Cnt k op y ks.length)(hp:mY p=true)(hl:l.length<=1048576)(hat:At l b ks)(hf:5 * sizes ks+2<=f)(hu:sizes ks<=1048575):
  M.Fp f (bV o l) false k op x y (encI (ends ks b)) p.level p.mG p.sF p.sG p.lD=some (lJ (Hg k op ks.length x (jA k op ks.length p ks 0))):=by
 obtain⟨g,rfl⟩:∃g,f=g+1:=⟨f - 1,au⟩
 rw[M.adk];rcases hk with rfl|rfl
 ·obtain⟨u,v,rfl⟩:=LZ (hc.two au);have hsz:=sz2 u v;obtain⟨⟨a1,a2,a3⟩,a4⟩:=YH ih (o:=o) (f:=g) (b:=b) (k:=12) (op:=op) (x:=x) (y:=y) (p:=p) (j:=0) (u:=u) au hc hp hl hat au hu rfl (XD 12 au 0);obtain⟨⟨b1,b2,b3⟩,b4⟩:=YH ih (o:=o) (f:=g) (b:=b) (k:=12) (op:=op) (x:=x) (y:=y) (p:=p) (j:=1) (u:=v) au hc hp hl hat au hu rfl (XD 12 au 1);rw[pY] at a1 a2;rw[VN] at b1 b2;generalize (dP 12 op [u,v].length 0 p).BU=q0 at a2 a3;generalize hk0:vC 12 op [u,v].length p 0 u=K0 at a3 a4;generalize (dP 12 op [u,v].length 1 p).BU=q1 at b2 b3;generalize hk1:vC 12 op [u,v].length p 1 v=K1 at b3 b4;rw[Xv,hk0,hk1]
  by_cases h99:op=99
  ·have e99:(op !=99)=false:=by simp[h99]
   simp(disch:=omega) only[jm,M.tJ,a1,a2,a3,b1,b2,b3,JW,ah,Int.reduceBEq,e99,bG,<-mJ,iF,qx,J9,mV,um,room,OH,dn,aS];simp[Hg,A8,h99]
  ·have e99:(op !=99)=true:=by simpa using h99
   have e98:(op==99)=false:=by simpa using h99
   have e1:=(lZ op (ael (hc.bin rfl).1)).2;simp(disch:=omega) only[jm,M.tJ,a1,a2,a3,b1,b2,b3,e1,JW,ah,Int.reduceBEq,e99,bG,xO,<-mJ,iF,qx,J9,mV,um,room,OH,dn,aS];simp[Hg,A8,e98]
 ·obtain⟨u,v,z,rfl⟩:=U4 (hc.three rfl);have hsz:=sz3 u v z;obtain⟨⟨a1,a2,a3⟩,a4⟩:=YH ih (o:=o) (f:=g) (b:=b) (k:=14) (op:=op) (x:=x) (y:=y) (p:=p) (j:=0) (u:=u) au hc hp hl hat au hu rfl (XD 14 au 0);obtain⟨⟨b1,b2,b3⟩,b4⟩:=YH ih (o:=o) (f:=g) (b:=b) (k:=14) (op:=op) (x:=x) (y:=y) (p:=p) (j:=1) (u:=v) au hc hp hl hat au hu rfl (XD 14 au 1);obtain⟨⟨c1,c2,c3⟩,c4⟩:=YH ih (o:=o) (f:=g) (b:=b) (k:=14) (op:=op) (x:=x) (y:=y) (p:=p) (j:=2) (u:=z) au hc hp hl hat au hu rfl (XD 14 au 2);rw[pY] at a1 a2;rw[VN] at b1 b2;rw[arv] at c1 c2;generalize (dP 14 op [u,v,z].length 0 p).BU=q0 at a2 a3;generalize hk0:vC 14 op [u,v,z].length p 0 u=K0 at a3 a4;generalize (dP 14 op [u,v,z].length 1 p).BU=q1 at b2 b3;generalize hk1:vC 14 op [u,v,z].length p 1 v=K1 at b3 b4;generalize (dP 14 op [u,v,z].length 2 p).BU=q2 at c2 c3;generalize hk2:vC 14 op [u,v,z].length p 2 z=K2 at c3 c4;rw[avN,hk0,hk1,hk2];have e1:=(lZ 65 (by constructor<;>decide)).2;have e2:=(lZ 66 (by constructor<;>decide)).2;simp(disch:=omega) only[jm,M.tJ,a1,a2,a3,b1,b2,b3,c1,c2,c3,e1,e2,JW,ah,Int.reduceBEq,bG,xO,<-mJ,iF,qx,J9,mV,um,room,OH,dn,aS];simp[Hg,A8]
def aen{k op:Int}{ks:List Tn}{p:Ps}(hp:mY p=true)(h:(lvl k op=15)∨(k=13∧Nat.blt 1 ks.length=true∧lvl k op≠0))(ht:∀j,qh k j=false):jA k op ks.length p ks 0=Ir ks:=by
 refine agJ ht (λj hj=> ?_) ks 0 au;rcases h with h|⟨h1,h2,h3⟩
 ·exact Ip hp hj h
 ·have hb:Nat.blt j ks.length=true:=by rw[Nat.blt_eq];exact hj
  have h4:(lvl k op==0)=false:=by simpa using h3
  subst h1;unfold dP;rw[hp,hb,h4,h2];simp
def aeo(k:Int)(x:aC):([[D.int .i64 k,D.str x,D.int .i64 0]]:aA)=lJ [⟨k,x,0⟩]:=rfl
def anO(x:aC):([[D.int .i64 24,D.str (spell 24),D.int .i64 0],[D.int .i64 6,D.str x,D.int .i64 0]]:aA)=lJ [tok 24,⟨6,x,0⟩]:=rfl
set_option maxHeartbeats 2000000 in
def arz(t:Tn):Fb t->Wh t->t.size<=1048576->PS t:=by
 refine Tn.ind (P:=λt=>Fb t->Wh t->t.size<=1048576->PS t) ?_ t;intro k op x y ks ih hok he hsz;intro o f p l b hl h hf hp;have a5y:=h;simp only[Wh,Tn.kind] at he;have hc:=Px hok;have hsz':sizes ks+1=(Tn.mk k op x y ks).size:=by rw[Tn.size]
 have ih':∀u,u∈ks->PS u:=by intro u hu;obtain⟨i,hi⟩:=List.mem_iff_getElem?.1 hu;obtain⟨h1,h2⟩:=aaP hok he hi;have:=iE hu;exact ih u hu h2 h1 au
 have hat:At l b ks:=λj u hj=>Lies.Pv h hj
 obtain⟨g,rfl⟩:∃g,f=g+1:=⟨f - 1,au⟩
 have hr:idx (bV o l) ((b+sizes ks:Nat):Int)=some (Si o ⟨k,op,x,y,ends ks b⟩):=by have hr0:l[b+sizes ks]? =some ⟨k,op,x,y,ends ks b⟩:=Lies.root' h;rw[bJ,oM,hr0];rfl
 have hkl:=jq ks;have tgt:∀{u:Tn},ks[0]? =some u->cls k op ks.length 0=6->Fb u∧Wh u∧13<=lvl u.kind u.op:=by intro u hu hcls;obtain⟨h1,h2⟩:=aaP hok he hu;obtain⟨h3,_⟩:=LW hok hu;rw[hcls] at h3;exact⟨h2,h1,(akd h3).1⟩
 rw[M.afr,Tn.kids];have hk:k=1∨k=2∨k=3∨k=4∨k=5∨k=7∨k=8∨k=6∨k=9∨k=10∨k=11∨k=13∨k=15∨k=12∨k=14:=au;rw[wH];rcases hk with rfl|rfl|rfl|rfl|rfl|rfl|rfl|rfl|rfl|rfl|rfl|rfl|rfl|rfl|rfl
 ·simp only[jm,M.gG,hr,ah,JB,Kq,J3,Kr,Hl,M.cZ,M.bQ,Int.reduceBEq,Int.reduceBNe,aS,bG,aeo];rfl
 ·simp only[jm,M.gG,hr,ah,JB,Kq,J3,Kr,Hl,M.cZ,M.bQ,Int.reduceBEq,Int.reduceBNe,aS,bG,aeo];rfl
 ·simp only[jm,M.gG,hr,ah,JB,Kq,J3,Kr,Hl,M.cZ,M.bQ,Int.reduceBEq,Int.reduceBNe,aS,bG,aeo];rfl
 ·simp only[jm,M.gG,hr,ah,JB,Kq,J3,Kr,Hl,M.cZ,M.bQ,Int.reduceBEq,Int.reduceBNe,aS,bG,aeo];rfl
 ·have a1:=akl ih' (o:=o) (f:=g) (b:=b) hl hat au au 6 x 34 (.inr rfl);rw[aen hp (.inl rfl) (λj=>by simp[qh])];simp only[jm,M.gG,hr,ah,JB,Kq,J3,Kr,Hl,M.cZ,M.bQ,Int.reduceBEq,Int.reduceBNe,aS,bG,a1,dn];rfl
 ·have a1:=akl ih' (o:=o) (f:=g) (b:=b) hl hat au au 7 x 32 (.inl rfl);rw[aen hp (.inl rfl) (λj=>by simp[qh])];simp only[jm,M.gG,hr,ah,JB,Kq,J3,Kr,Hl,M.cZ,M.bQ,Int.reduceBEq,Int.reduceBNe,aS,bG,a1,dn];rfl
 ·have a1:=akl ih' (o:=o) (f:=g) (b:=b) hl hat au au 8 x 32 (.inl rfl);rw[aen hp (.inl rfl) (λj=>by simp[qh])];simp only[jm,M.gG,hr,ah,JB,Kq,J3,Kr,Hl,M.cZ,M.bQ,Int.reduceBEq,Int.reduceBNe,aS,bG,a1,dn];rfl
 ·obtain⟨u,rfl⟩:=zlo.1 (hc.one au);have hs1:=sz1 u;have e1:=(lZ 68 (by constructor<;>decide)).2;obtain⟨⟨a1,a2,a3⟩,a4⟩:=YH ih' (o:=o) (f:=g) (b:=b) (k:=6) (op:=op) (x:=x) (y:=y) (p:=p) (j:=0) (u:=u) au hc hp hl hat au au rfl (XD 6 au 0);rw[pY] at a1 a2;rw[QV];generalize (dP 6 op [u].length 0 p).BU=q0 at a2 a3;generalize vC 6 op [u].length p 0 u=K0 at a3 a4⊢;simp(disch:=omega) only[jm,M.gG,hr,ah,JB,Kq,J3,Kr,Hl,M.cZ,M.bQ,Int.reduceBEq,Int.reduceBNe,aS,bG,a1,a2,a3,e1,JW,xO,<-mJ,iF,qx,J9,mV,um,room,OH,dn];simp[Hg,A8]
 ·obtain⟨u,rfl⟩:=zlo.1 (hc.one au);have hs1:=sz1 u;have e1:=(lZ op (by rcases hc.stp au with rfl|rfl<;>constructor<;>decide)).2;have a1:=lH (ks:=[u]) (b:=b) (j:=0) (u:=u) rfl;obtain⟨t1,t2,t3⟩:=tgt (u:=u) rfl (by simp[cls]);have a3:=agK (ih' u (by simp)) t1 t2 t3 (o:=o) (f:=g) (p:=dP 9 op [u].length 0 p) hl (hat 0 u rfl) (by rw[sz1] at hsz';omega) (wI hp (by simp) (by simp[lvl]));have a4:=qM u (dP 9 op [u].length 0 p);rw[sz1] at hsz';rw[pY] at a1;rw[QV,vC,show qh 9 0=true from rfl,Bool.true_or,aS];generalize wH u (dP 9 op [u].length 0 p)=K0 at a3 a4⊢;simp(disch:=omega) only[jm,M.gG,hr,ah,JB,Kq,J3,Kr,Hl,M.cZ,M.bQ,Int.reduceBEq,Int.reduceBNe,aS,bG,a1,a3,e1,JW,xO,<-mJ,iF,qx,J9,mV,um,room,OH,dn];simp[Hg,A8]
 ·obtain⟨u,rfl⟩:=zlo.1 (hc.one au);have hs1:=sz1 u;have e1:=(lZ op (by rcases hc.stp au with rfl|rfl<;>constructor<;>decide)).2;have a1:=lH (ks:=[u]) (b:=b) (j:=0) (u:=u) rfl;obtain⟨t1,t2,t3⟩:=tgt (u:=u) rfl (by simp[cls]);have a3:=agK (ih' u (by simp)) t1 t2 t3 (o:=o) (f:=g) (p:=dP 10 op [u].length 0 p) hl (hat 0 u rfl) (by rw[sz1] at hsz';omega) (wI hp (by simp) (by simp[lvl]));have a4:=qM u (dP 10 op [u].length 0 p);rw[sz1] at hsz';rw[pY] at a1;rw[QV,vC,show qh 10 0=true from rfl,Bool.true_or,aS];generalize wH u (dP 10 op [u].length 0 p)=K0 at a3 a4⊢;simp(disch:=omega) only[jm,M.gG,hr,ah,JB,Kq,J3,Kr,Hl,M.cZ,M.bQ,Int.reduceBEq,Int.reduceBNe,aS,bG,a1,a3,e1,JW,xO,<-mJ,iF,qx,J9,mV,um,room,OH,dn];simp[Hg,A8]
 ·obtain⟨u,rfl⟩:=zlo.1 (hc.one au);have hs1:=sz1 u;have e1:=(lZ op (by rcases hc.una au with rfl|rfl|rfl<;>constructor<;>decide)).2;obtain⟨⟨a1,a2,a3⟩,a4⟩:=YH ih' (o:=o) (f:=g) (b:=b) (k:=11) (op:=op) (x:=x) (y:=y) (p:=p) (j:=0) (u:=u) au hc hp hl hat au au rfl (XD 11 au 0);rw[pY] at a1 a2;rw[QV];generalize (dP 11 op [u].length 0 p).BU=q0 at a2 a3;generalize vC 11 op [u].length p 0 u=K0 at a3 a4⊢;simp(disch:=omega) only[jm,M.gG,hr,ah,JB,Kq,J3,Kr,Hl,M.cZ,M.bQ,Int.reduceBEq,Int.reduceBNe,aS,bG,a1,a2,a3,e1,JW,xO,<-mJ,iF,qx,J9,mV,um,room,OH,dn];simp[Hg,A8]
 ·have e1:=(lZ 24 (by constructor<;>decide)).2;have e2:=(lZ 32 (by constructor<;>decide)).2;have e3:=(lZ 33 (by constructor<;>decide)).2;obtain⟨u,hu⟩:∃u,ks[0]? =some u:=by have:=hc.some_ au;exact⟨ks[0],by simp⟩
  obtain⟨⟨a1,a2,a3⟩,a4⟩:=YH ih' (o:=o) (f:=g) (b:=b) (k:=13) (op:=op) (x:=x) (y:=y) (p:=p) (j:=0) (u:=u) au hc hp hl hat au au hu (XD 13 au 0);have hus:=iE (BX hu);rw[pY] at a1 a2;have hel:(encI (ends ks b)).length=ks.length:=by rw[aZ,eu]
  cases hm:Nat.blt 1 ks.length with
  |true=>have b1:=av4 ih' (o:=o) (f:=g) (b:=b) hl hat au au;have b2:=ZH ks true;rw[aen hp (.inr ⟨rfl,hm,by simp[lvl]⟩) (λj=>by simp[qh])];simp(disch:=omega) only[jm,M.gG,hr,ah,JB,Kq,J3,Kr,Hl,M.cZ,M.bQ,Int.reduceBEq,Int.reduceBNe,aS,bG,a1,a2,a3,b1,e1,e2,e3,JW,hel,many,hm,anO,xO 32,xO 33,<-mJ,iF,qx,J9,mV,um,room,OH,dn];simp[Hg,hm]
  |false=>
   have h1:ks.length=1:=by
    have h2:=hc.some_ au;have h3:¬1<ks.length:=by rw[<-Nat.blt_eq,hm];simp
    omega
   obtain⟨u',rfl⟩:=zlo.1 h1;obtain rfl:u'=u:=by simpa using hu
   rw[QV];generalize (dP 13 op [u'].length 0 p).BU=q0 at a2 a3;generalize vC 13 op [u'].length p 0 u'=K0 at a3 a4⊢;simp(disch:=omega) only[jm,M.gG,hr,ah,JB,Kq,J3,Kr,Hl,M.cZ,M.bQ,Int.reduceBEq,Int.reduceBNe,aS,bG,a1,a2,a3,e1,e2,e3,JW,hel,many,hm,anO,<-mJ,iF,qx,J9,mV,um,room,OH,dn];simp[Hg,A8,show Nat.blt 1 1=false from rfl]
 ·obtain⟨u,v,rfl⟩:=LZ (hc.two au);have hsv:=sz2 u v;have e1:=(lZ op (by rcases hc.asg rfl with rfl|h<;>constructor<;>omega)).2;have a1:=lH (ks:=[u,v]) (b:=b) (j:=0) (u:=u) rfl;obtain⟨t1,t2,t3⟩:=tgt (u:=u) rfl (by simp[cls]);have a3:=agK (ih' u (by simp)) t1 t2 t3 (o:=o) (f:=g) (p:=dP 15 op [u,v].length 0 p) hl (hat 0 u rfl) au (wI hp (by simp) (by simp[lvl]));have a4:=qM u (dP 15 op [u,v].length 0 p);obtain⟨⟨b1,b2,b3⟩,b4⟩:=YH ih' (o:=o) (f:=g) (b:=b) (k:=15) (op:=op) (x:=x) (y:=y) (p:=p) (j:=1) (u:=v) au hc hp hl hat au au rfl rfl;rw[pY] at a1;rw[VN] at b1 b2;have e98:(op==99)=false:=by rw[MJ];have:=hc.asg rfl;omega
  rw[Xv]
  conv=>rhs;rw[vC,show qh 15 0=true from rfl,Bool.true_or,aS]
  generalize wH u (dP 15 op [u,v].length 0 p)=K0 at a3 a4⊢;generalize (dP 15 op [u,v].length 1 p).BU=q1 at b2 b3;generalize vC 15 op [u,v].length p 1 v=K1 at b3 b4⊢;simp(disch:=omega) only[jm,M.gG,hr,ah,JB,Kq,J3,Kr,Hl,M.cZ,M.bQ,Int.reduceBEq,Int.reduceBNe,aS,bG,a1,a3,b1,b2,b3,e1,JW,xO,<-mJ,iF,qx,J9,mV,um,room,OH,dn];simp[Hg,A8,e98]
 ·have a1:=aqh ih' (o:=o) (f:=g) (b:=b) (k:=12) (op:=op) (x:=x) (y:=y) (p:=p) (.inl rfl) hc hp hl hat au au;simp only[jm,M.gG,hr,ah,JB,Kq,J3,Kr,Hl,M.cZ,M.bQ,Int.reduceBEq,Int.reduceBNe,aS,bG,a1,dn]
 ·have a1:=aqh ih' (o:=o) (f:=g) (b:=b) (k:=14) (op:=op) (x:=x) (y:=y) (p:=p) (.inr rfl) hc hp hl hat au au;simp only[jm,M.gG,hr,ah,JB,Kq,J3,Kr,Hl,M.cZ,M.bQ,Int.reduceBEq,Int.reduceBNe,aS,bG,a1,dn]
def dE(t:Tn):aA:=dh true (t.flat 0)
def XE(t:Tn):Row:=[D.sl true 4 (dE t)]
def jQ(s:aC):M.aB s=some (dE (lV s)):=by simp[M.aB,M.ND,dE,lV,Tn.flat,kD,ends,dh,abU,encI]
def ao2:M.rD=some (dE TQ):=by simp[M.rD,M.NG,dE,TQ,Tn.flat,kD,ends,dh,abU,encI]
def ao3:M.pz=some (dE QC):=by simp[M.pz,M.NM,dE,QC,Tn.flat,kD,ends,dh,abU,encI]
def nD(t:Tn):[[D.sl true 4 (dE t)]].all dF=true:=arq _
def Qs(L:List Tn):aQ (L.map XE)=sJ L:=by
 induction L with
 |nil=>rfl
 |cons t L ih=>
  have h1:qg (XE t)=[D.sl false 4 (dh false (t.flat 0))]:=by simp[XE,qg,D.fz,dE]
  rw[OQ,aQ,ih,h1];rfl
section
variable (a b c d e f g h:Tn)
def fz1:aQ [[D.sl true 4 (dE a)]]=sJ [a]:=Qs [a]
def fz2:aQ [[D.sl true 4 (dE a)],[D.sl true 4 (dE b)]]=sJ [a,b]:=Qs [a,b]
def fz3:aQ [[D.sl true 4 (dE a)],[D.sl true 4 (dE b)],[D.sl true 4 (dE c)]]=sJ [a,b,c]:=Qs [a,b,c]
def fz4:aQ [[D.sl true 4 (dE a)],[D.sl true 4 (dE b)],[D.sl true 4 (dE c)],[D.sl true 4 (dE d)]]=sJ [a,b,c,d]:=Qs [a,b,c,d]
def fz5:aQ [[D.sl true 4 (dE a)],[D.sl true 4 (dE b)],[D.sl true 4 (dE c)],[D.sl true 4 (dE d)],[D.sl true 4 (dE e)]]=sJ [a,b,c,d,e]:=Qs [a,b,c,d,e]
def fz8:aQ [[D.sl true 4 (dE a)],[D.sl true 4 (dE b)],[D.sl true 4 (dE c)],[D.sl true 4 (dE d)],[D.sl true 4 (dE e)],[D.sl true 4 (dE f)],[D.sl true 4 (dE g)],[D.sl true 4 (dE h)]]=sJ [a,b,c,d,e,f,g,h]:=Qs [a,b,c,d,e,f,g,h]
end
def uh(ts:List Tn)(h:sizes ts<=90000000):M.aH 6 0 (sJ ts)=some (dE (oz ts)):=aoW 6 0 ts h
def akm(t:Tn)(h:sizes [t]<=90000000):M.aH 4 4 (sJ [t])=some (dE (VY t)):=aoW 4 4 [t] h
def av5(t:Tn)(h:sizes [t]<=90000000):M.aH 5 0 (sJ [t])=some (dE (anC t)):=aoW 5 0 [t] h
def anP(p:Ps):∀ks:List Tn,sizes (ZL p ks)+3 * ks.length<=16 * sizes ks
 |[]=>by simp[ZL,sizes]
 |t::ts=>by have h1:=nC t p;have h2:=anP p ts;simp only[ZL,OQ,sizes,mV] at h2⊢;omega
def DS(t:Tn):Prop:=∀(o:Bool) (f:Nat) (p:Ps) (l:List Nd) (b:Nat),l.length<=1048576->Lies l b t->5 * t.size<=f->mY p=true->
 M.Dk f (bV o l) false ((b+sizes t.kids:Nat):Int) p.level p.mG p.sF p.sG p.lD=some (dE (qj t p))
def SY{u:Tn}{o:Bool}{l:List Nd}{b:Nat}(h:Lies l b u):idx (bV o l) ((b+sizes u.kids:Nat):Int)=some (Si o ⟨u.kind,u.op,u.text,u.other,ends u.kids b⟩):=by rw[bJ,oM,Lies.root' h];rfl
def aDH{u:Tn}(hS:DS u){o:Bool}{f:Nat}{p:Ps}{l:List Nd}{b:Nat}(hl:l.length<=1048576)(h:Lies l b u)(hf:5 * u.size+1<=f)(hp:mY p=true):
  M.rO f (bV o l) false ((b+sizes u.kids:Nat):Int) p.level p.mG p.sF p.sG p.lD=some (dE (Ba u p)):=by
 obtain⟨g,rfl⟩:∃g,f=g+1:=⟨f - 1,au⟩
 have hlt:=h.lt;have h1:=hS o g p l b hl h au hp;have h2:=hS o g .top l b hl h au rfl;have hb:=LX u .top;simp only[Ps.top] at h2 hb;rw[M.ajP];simp only[jm,M.IY,SY h,ah,JB,Kq,J3,Kr,Hl,(aei u.kind u.op u.text u.other _ p).2,Ba];cases fits u.kind u.op p with
 |true=>simp only[aS,h1,ah]
 |false=>
  have hs:sizes [lV [40],qj u ⟨1,false,false,false,false⟩,lV [41]]<=90000000:=by simp only[sizes,gJ];omega
  simp only[bG,jQ,BN.2,ah,h2,fz3,uh _ hs,nD,aS,Ps.top]
def ao4{ks:List Tn}(ih:∀u,u∈ks->DS u){o:Bool}{f:Nat}{p:Ps}(hp:mY p=true){l:List Nd}{b:Nat}(hl:l.length<=1048576)(hat:At l b ks)(hf:5 * sizes ks+2<=f)(hu:sizes ks<=1048575):
  M.yN f (bV o l) false (encI (ends ks b)) p.level p.mG p.sF p.sG p.lD=some (dE (OX p ks)):=by
 obtain⟨g,rfl⟩:∃g,f=g+1:=⟨f - 1,au⟩
 have hkl:=jq ks;have hpz:=anP p ks;have hcz:=abR (ZL p ks) true;rw[aaT] at hcz;have hloop:=jh (b:=M.Gq (M.rO g) (encI (ends ks b)) (bV o l) false p.level p.mG p.sF p.sG p.lD) (t:=((ks.length:Int),(QU true (ZL p ks)).map XE)) (λj=>((j:Int),(QU true (ZL p (ks.take j))).map XE)) ks.length
  (by
   intro j hj;obtain⟨u,hu'⟩:∃u,ks[j]? =some u:=⟨ks[j],by simp[hj]⟩
   have hus:=iE (BX hu');have ha:=aDH (ih u (BX hu')) (o:=o) (f:=g) (p:=p) hl (hat j u hu') au hp;have hi:=lH (b:=b) hu';have hcl:=agq (ZL p (ks.take j)) true;rw[aaT,Ui] at hcl;have hw:i64.wrap ((j:Int)+1)=((j+1:Nat):Int):=by rw[aG au au];omega
   have e:ZL p (ks.take (j+1))=ZL p (ks.take j)++[Ba u p]:=by rw[gW hu'];simp[ZL]
   rw[e,abY];simp only[jm,M.Gq,M.Ad,aZ,eu,jQ,ao2,hi,JW,ha,ah,qx,List.length_map,mV,um,hw];rw[zdt au,aS]
   by_cases h0:j=0
   ·subst h0;rw[qw au,bG,aX au,aS,aX au,aS];rfl
   ·have z:(ZL p (ks.take j)).isEmpty=false:=by
     cases hq:ZL p (ks.take j) with
     |nil=>have:=aaT p (ks.take j);rw[hq,um,Ui] at this;omega
     |cons _ _=>rfl
    rw[zdt au,aS,aX au,aS,aX au,aS,aX au,aS,aX au,aS,z,Bool.false_and,bG,List.map_append,BO];rfl)
  (by simp only[jm,M.Gq,M.Ad,aZ,eu];rw[qw au,bG,List.take_length]) 0 (Nat.zero_le _)
 have BM:M.KG (M.rO g) (encI (ends ks b)) (bV o l) false p.level p.mG p.sF p.sG p.lD (0,[])=some ((ks.length:Int),(QU true (ZL p ks)).map XE):=hloop;have z1:sizes [oz (QU true (ZL p ks))]<=90000000:=by simp only[sizes,oL];omega
 have z2:sizes [VY (oz (QU true (ZL p ks)))]<=90000000:=by simp only[sizes,oL,U2];omega
 rw[M.aft];simp only[M.C9,BM,ah,Qs,uh _ (show sizes (QU true (ZL p ks))<=90000000 by omega),nD,aS,fz1,akm _ z1,av5 _ z2];rfl
def aaV{ks:List Tn}(ih:∀u,u∈ks->DS u){o:Bool}{f:Nat}{l:List Nd}{b:Nat}{k op:Int}{x y:aC}{p:Ps}{j:Nat}{u:Tn}(he:1<=k∧k<=15)(hc:Cnt k op y ks.length)(hp:mY p=true)(hl:l.length<=1048576)(hat:At l b ks)(hf:5 * sizes ks+1<=f)(hu:sizes ks<=1048575)(hj:ks[j]? =some u)(ht:qh k j=false):
  (idx (encI (ends ks b)) (j:Int)=some [D.int .i64 ((b+sizes (ks.take j)+sizes u.kids:Nat):Int)]∧
   M.fB k op x y (encI (ends ks b)) (j:Int) p.level p.mG p.sF p.sG p.lD=some (dP k op ks.length j p).BU∧
   M.rO f (bV o l) false ((b+sizes (ks.take j)+sizes u.kids:Nat):Int) (dP k op ks.length j p).BU.1 (dP k op ks.length j p).BU.2.1 (dP k op ks.length j p).BU.2.2.1 (dP k op ks.length j p).BU.2.2.2.1 (dP k op ks.length j p).BU.2.2.2.2=some (dE (OC k op ks.length p j u)))∧(OC k op ks.length p j u).size+3<=16 * u.size:=by
 have hkl:=jq ks;have hus:=iE (BX hj);have hjl:j<ks.length:=(MG.1 hj).1;have hen:(encI (ends ks b)).length=ks.length:=by rw[aZ,eu]
 have hlv:lvl k op≠0:=by have:=TR he hc;omega
 refine⟨⟨lH hj, ?_, ?_⟩,aiH (LX u)⟩
 ·have h:=XC (x:=x) (r:=encI (ends ks b)) (j:=j) (p:=p) he (by rw[hen];exact hc) au au;rw[hen] at h;exact h
 ·have h:=aDH (ih u (BX hj)) (o:=o) (f:=f) (p:=dP k op ks.length j p) hl (hat j u hj) au (wI hp hjl hlv);rw[OC,ht,Bool.false_or];exact h
def akn{ks:List Tn}(ih:∀u,u∈ks->DS u){o:Bool}{f:Nat}{l:List Nd}{b:Nat}(hl:l.length<=1048576)(hat:At l b ks)(hf:5 * sizes ks+3<=f)(hu:sizes ks<=1048575)(k op:Int)(x y:aC)(hx:x.length<=1048576)(c d:UInt8):
  M.Fv f (bV o l) false k op x y (encI (ends ks b)) [c] [d]=some (dE (oz [lV (x++[c]),OX .top ks,lV [d]])):=by
 obtain⟨g,rfl⟩:∃g,f=g+1:=⟨f - 1,au⟩
 have h1:=ao4 ih (o:=o) (f:=g) (p:=.top) rfl (b:=b) hl hat au hu;have h2:=LY .top ks;simp only[Ps.top] at h1 h2;have hs:sizes [lV (x++[c]),OX ⟨1,false,false,false,false⟩ ks,lV [d]]<=90000000:=by simp only[sizes,gJ];omega
 rw[M.ado];simp(disch:=omega) only[M.zy,mV,um,Bf,aS,jQ,BN.2,h1,ah,fz3,uh _ hs,nD,Ps.top]
def agL{u:Tn}(hS:DS u)(hok:Fb u)(he:Wh u)(hh:13<=lvl u.kind u.op){o:Bool}{f:Nat}{l:List Nd}{b:Nat}(hl:l.length<=1048576)(h:Lies l b u)(hf:5 * u.size+1<=f)(p:Ps)(hp:mY p=true):
  M.Dj f (bV o l) false ((b+sizes u.kids:Nat):Int)=some (dE (qj u p)):=by
 obtain⟨g,rfl⟩:∃g,f=g+1:=⟨f - 1,au⟩
 have h1:=hS o g ⟨14,false,false,false,false⟩ l b hl h au rfl;rw[aoY u hok hh he _ p rfl hp] at h1;rw[M.abC];simp only[M.yu,h1,ah]
def aUi{ks:List Tn}(ih:∀u,u∈ks->DS u){o:Bool}{f:Nat}{l:List Nd}{b:Nat}{op:Int}{x y:aC}{p:Ps}(hc:Cnt 12 op y ks.length)(hp:mY p=true)(hl:l.length<=1048576)(hat:At l b ks)(hf:5 * sizes ks+2<=f)(hu:sizes ks<=1048575)(gp:Bool):
  M.J5 f (bV o l) false 12 op x y (encI (ends ks b)) p.level p.mG p.sF p.sG p.lD=some (dE (Xo 12 op ks.length x gp (sH 12 op ks.length p ks 0))):=by
 obtain⟨g,rfl⟩:∃g,f=g+1:=⟨f - 1,au⟩
 rw[M.ahl];obtain⟨u,v,rfl⟩:=LZ (hc.two au);have hsz:=sz2 u v;have hI:=ael (hc.bin rfl).1;have hsl:=MC op;obtain⟨⟨a1,a2,a3⟩,a4⟩:=aaV ih (o:=o) (f:=g) (b:=b) (k:=12) (op:=op) (x:=x) (y:=y) (p:=p) (j:=0) (u:=u) au hc hp hl hat au hu rfl (XD 12 au 0);obtain⟨⟨b1,b2,b3⟩,b4⟩:=aaV ih (o:=o) (f:=g) (b:=b) (k:=12) (op:=op) (x:=x) (y:=y) (p:=p) (j:=1) (u:=v) au hc hp hl hat au hu rfl (XD 12 au 1);rw[pY] at a1 a2;rw[VN] at b1 b2;rw[aki];generalize (dP 12 op [u,v].length 0 p).BU=q0 at a2 a3;generalize OC 12 op [u,v].length p 0 u=K0 at a3 a4⊢;generalize (dP 12 op [u,v].length 1 p).BU=q1 at b2 b3;generalize OC 12 op [u,v].length p 1 v=K1 at b3 b4⊢
 by_cases h99:op=99
 ·subst h99;have hs:sizes [K0,lV [32],K1]<=90000000:=by simp only[sizes,gJ];omega
  simp only[M.vg,a1,a2,a3,b1,b2,b3,JW,ah,Int.reduceBEq,aS,bG,jQ,fz3,uh _ hs,nD];rfl
 ·have e1:(op==99)=false:=by simpa using h99
  have hs:sizes [K0,lV ([32]++spell op),TQ,K1]<=90000000:=by simp only[sizes,gJ,Xp];omega
  have z1:sizes [oz [K0,lV ([32]++spell op),TQ,K1]]<=90000000:=by simp only[sizes,gJ,Xp,oL];omega
  have z2:sizes [VY (oz [K0,lV ([32]++spell op),TQ,K1])]<=90000000:=by simp only[sizes,gJ,Xp,oL,U2];omega
  by_cases h45:op=45
  ·subst h45;simp(disch:=omega) only[M.vg,a1,a2,a3,b1,b2,b3,JW,ah,Int.reduceBEq,aS,bG,(nP 45 hI).1,jQ,ao2,fz4,fz1,uh _ hs,akm _ z1,av5 _ z2,nD,Bf];rfl
  ·have e2:(op==45)=false:=by simpa using h45
   by_cases h44:op=44
   ·subst h44;simp(disch:=omega) only[M.vg,a1,a2,a3,b1,b2,b3,JW,ah,Int.reduceBEq,aS,bG,(nP 44 hI).1,jQ,ao2,fz4,fz1,uh _ hs,akm _ z1,av5 _ z2,nD,Bf];rfl
   ·have e3:(op==44)=false:=by simpa using h44
    have hs3:sizes [K0,lV ([32]++spell op++[32]),K1]<=90000000:=by simp only[sizes,gJ];omega
    simp(disch:=omega) only[M.vg,a1,a2,a3,b1,b2,b3,JW,ah,e1,e2,e3,aS,bG,(nP op hI).1,qx,mV,um,jQ,fz3,uh _ hs3,nD,Bf];simp[Xo,e1,e2,e3,yA]
set_option maxHeartbeats 4000000 in
def agM(t:Tn):Fb t->Wh t->Tf t->t.size<=1048576->DS t:=by
 refine Tn.ind (P:=λt=>Fb t->Wh t->Tf t->t.size<=1048576->DS t) ?_ t;intro k op x y ks ih hok he hsm hsz;intro o f p l b hl h hf hp;have a5y:=h;simp only[Wh,Tn.kind] at he;have hc:=Px hok;rw[Tf] at hsm;obtain⟨⟨hx,hy⟩,hss⟩:=hsm;rw[Tn.size] at hsz hf;have hkE:∀u,u∈ks->Fb u∧Wh u∧Tf u:=by intro u hu;obtain⟨i,hi⟩:=List.mem_iff_getElem?.1 hu;obtain⟨h1,h2⟩:=aaP hok he hi;exact⟨h2,h1,xP hss hu⟩
 have ih':∀u,u∈ks->DS u:=by intro u hu;obtain⟨h1,h2,h3⟩:=hkE u hu;have:=iE hu;exact ih u hu h1 h2 h3 au
 have hat:At l b ks:=λj u hj=>Lies.Pv h hj
 obtain⟨g,rfl⟩:∃g,f=g+1:=⟨f - 1,au⟩
 have hr:idx (bV o l) ((b+sizes ks:Nat):Int)=some (Si o ⟨k,op,x,y,ends ks b⟩):=by have hr0:l[b+sizes ks]? =some ⟨k,op,x,y,ends ks b⟩:=Lies.root' h;rw[bJ,oM,hr0];rfl
 have hkl:=jq ks;have tgt:∀{u:Tn},ks[0]? =some u->cls k op ks.length 0=6->Fb u∧Wh u∧13<=lvl u.kind u.op:=by intro u hu hcls;obtain⟨h1,h2⟩:=aaP hok he hu;obtain⟨h3,_⟩:=LW hok hu;rw[hcls] at h3;exact⟨h2,h1,(akd h3).1⟩
 rw[M.afu,Tn.kids];have hk:k=1∨k=2∨k=3∨k=4∨k=5∨k=7∨k=8∨k=6∨k=9∨k=10∨k=11∨k=13∨k=15∨k=12∨k=14:=au;rw[qj];rcases hk with rfl|rfl|rfl|rfl|rfl|rfl|rfl|rfl|rfl|rfl|rfl|rfl|rfl|rfl|rfl
 ·simp only[jm,M.gI,hr,ah,JB,Kq,J3,Kr,Hl,M.cZ,M.bQ,Int.reduceBEq,Int.reduceBNe,aS,bG,jQ];rfl
 ·simp only[jm,M.gI,hr,ah,JB,Kq,J3,Kr,Hl,M.cZ,M.bQ,Int.reduceBEq,Int.reduceBNe,aS,bG,jQ];rfl
 ·simp only[jm,M.gI,hr,ah,JB,Kq,J3,Kr,Hl,M.cZ,M.bQ,Int.reduceBEq,Int.reduceBNe,aS,bG,jQ];rfl
 ·simp only[jm,M.gI,hr,ah,JB,Kq,J3,Kr,Hl,M.cZ,M.bQ,Int.reduceBEq,Int.reduceBNe,aS,bG,jQ];rfl
 ·have a1:=akn ih' (o:=o) (f:=g) (b:=b) hl hat au au 5 op x y hx 91 93;rw[QF hp (.inl rfl) (λj=>by simp[qh])];simp only[jm,M.gI,hr,ah,JB,Kq,J3,Kr,Hl,M.cZ,M.bQ,Int.reduceBEq,Int.reduceBNe,aS,bG,a1];rfl
 ·have a1:=akn ih' (o:=o) (f:=g) (b:=b) hl hat au au 7 op x y hx 40 41;rw[QF hp (.inl rfl) (λj=>by simp[qh])];simp only[jm,M.gI,hr,ah,JB,Kq,J3,Kr,Hl,M.cZ,M.bQ,Int.reduceBEq,Int.reduceBNe,aS,bG,a1];rfl
 ·have a1:=akn ih' (o:=o) (f:=g) (b:=b) hl hat au au 8 op x y hx 40 41;rw[QF hp (.inl rfl) (λj=>by simp[qh])];simp only[jm,M.gI,hr,ah,JB,Kq,J3,Kr,Hl,M.cZ,M.bQ,Int.reduceBEq,Int.reduceBNe,aS,bG,a1];rfl
 ·obtain⟨u,rfl⟩:=zlo.1 (hc.one au);have hs1:=sz1 u;obtain⟨⟨a1,a2,a3⟩,a4⟩:=aaV ih' (o:=o) (f:=g) (b:=b) (k:=6) (op:=op) (x:=x) (y:=y) (p:=p) (j:=0) (u:=u) au hc hp hl hat au au rfl (XD 6 au 0);rw[pY] at a1 a2;rw[Uh];generalize (dP 6 op [u].length 0 p).BU=q0 at a2 a3;generalize OC 6 op [u].length p 0 u=K0 at a3 a4⊢;have hs:sizes [lV [36],K0]<=90000000:=by simp only[sizes,gJ];omega
  simp only[jm,M.gI,hr,ah,JB,Kq,J3,Kr,Hl,M.cZ,M.bQ,Int.reduceBEq,Int.reduceBNe,aS,bG,a1,a2,a3,JW,jQ,fz2,uh _ hs,nD];rfl
 ·obtain⟨u,rfl⟩:=zlo.1 (hc.one au);have hs1:=sz1 u;have hI:I64 op:=by rcases hc.stp au with rfl|rfl<;>constructor<;>decide
  have a1:=lH (ks:=[u]) (b:=b) (j:=0) (u:=u) rfl;obtain⟨t1,t2,t3⟩:=tgt (u:=u) rfl (by simp[cls]);have a3:=agL (ih' u (by simp)) t1 t2 t3 (o:=o) (f:=g) (p:=dP 9 op [u].length 0 p) hl (hat 0 u rfl) au (wI hp (by simp) (by simp[lvl]));have a4:=LX u (dP 9 op [u].length 0 p);rw[pY] at a1;rw[Uh,OC,show qh 9 0=true from rfl,Bool.true_or,aS];generalize qj u (dP 9 op [u].length 0 p)=K0 at a3 a4⊢;have hs:sizes [lV (spell op),K0]<=90000000:=by simp only[sizes,gJ];omega
  simp only[jm,M.gI,hr,ah,JB,Kq,J3,Kr,Hl,M.cZ,M.bQ,Int.reduceBEq,Int.reduceBNe,aS,bG,a1,a3,(nP op hI).1,JW,jQ,fz2,uh _ hs,nD];rfl
 ·obtain⟨u,rfl⟩:=zlo.1 (hc.one au);have hs1:=sz1 u;have hI:I64 op:=by rcases hc.stp au with rfl|rfl<;>constructor<;>decide
  have a1:=lH (ks:=[u]) (b:=b) (j:=0) (u:=u) rfl;obtain⟨t1,t2,t3⟩:=tgt (u:=u) rfl (by simp[cls]);have a3:=agL (ih' u (by simp)) t1 t2 t3 (o:=o) (f:=g) (p:=dP 10 op [u].length 0 p) hl (hat 0 u rfl) au (wI hp (by simp) (by simp[lvl]));have a4:=LX u (dP 10 op [u].length 0 p);rw[pY] at a1;rw[Uh,OC,show qh 10 0=true from rfl,Bool.true_or,aS];generalize qj u (dP 10 op [u].length 0 p)=K0 at a3 a4⊢;have hs:sizes [K0,lV (spell op)]<=90000000:=by simp only[sizes,gJ];omega
  simp only[jm,M.gI,hr,ah,JB,Kq,J3,Kr,Hl,M.cZ,M.bQ,Int.reduceBEq,Int.reduceBNe,aS,bG,a1,a3,(nP op hI).1,JW,jQ,fz2,uh _ hs,nD];rfl
 ·obtain⟨u,rfl⟩:=zlo.1 (hc.one au);have hs1:=sz1 u;obtain⟨u1,u2,u3⟩:=hkE u (by simp);have hI:I64 op:=by rcases hc.una au with rfl|rfl|rfl<;>constructor<;>decide
  have ihS:∀v,v∈[u]->PS v:=by intro v hv;rw[List.mem_singleton.1 hv];exact arz u u1 u2 au
  obtain⟨⟨a1,a2,a3⟩,a4⟩:=aaV ih' (o:=o) (f:=g) (b:=b) (k:=11) (op:=op) (x:=x) (y:=y) (p:=p) (j:=0) (u:=u) au hc hp hl hat au au rfl (XD 11 au 0);obtain⟨⟨c1,c2,c3⟩,c4⟩:=YH ihS (o:=o) (f:=5 * sizes [u]+1) (b:=b) (k:=11) (op:=op) (x:=x) (y:=y) (p:=p) (j:=0) (u:=u) au hc hp hl hat au au rfl (XD 11 au 0);have c3':=M.ahi c3;rw[pY] at a1 a2;rw[Uh,QV];have hne:=aqd (k:=11) (op:=op) (n:=[u].length) (p:=p) (j:=0) u1 u2;have aUj:=avP (k:=11) (op:=op) (n:=[u].length) (p:=p) (j:=0) u3;clear c3 c2;generalize (dP 11 op [u].length 0 p).BU=q0 at a2 a3 c3';generalize OC 11 op [u].length p 0 u=K0 at a3 a4⊢;generalize vC 11 op [u].length p 0 u=K at hne aUj c3'⊢;cases K with
  |nil=>exact absurd rfl hne
  |cons t0 K=>
   have hsl:=MC op;have hg:M.uT op (spell op) 0 t0.kind t0.text t0.at_=some (Ik (tok op) t0):=ab2 (tok op) t0 (by show(spell op).length<=_;omega) (by have:=aUj t0 Yh;omega);have i0:idx (lJ (t0::K)) 0=some (afb t0):=rfl;have i1:(lJ (t0::K))[0]? =some (afb t0):=rfl;have hs:sizes [lV (spell op),K0]<=90000000:=by simp only[sizes,gJ];omega
   have hs2:sizes [lV (spell op++[32]),K0]<=90000000:=by simp only[sizes,gJ];omega
   have ha:Xo 11 op [u].length x (aiF op [t0::K]) [K0]=oz [lV (bif Ik (tok op) t0 then spell op++[32] else spell op),K0]:=rfl;rw[ha];simp(disch:=omega) only[jm,M.gI,hr,ah,JB,Kq,J3,Kr,Hl,M.cZ,M.bQ,Int.reduceBEq,Int.reduceBNe,aS,bG,a1,a2,a3,c3',i0,i1,cT0,cT1,cT2,hg,(nP op hI).1,(lZ op hI).2,JW,jQ,fz2,uh _ hs,uh _ hs2,nD,Bf];cases Ik (tok op) t0<;>rfl
 ·obtain⟨u,hu⟩:∃u,ks[0]? =some u:=by have:=hc.some_ au;exact⟨ks[0],by simp⟩
  obtain⟨⟨a1,a2,a3⟩,a4⟩:=aaV ih' (o:=o) (f:=g) (b:=b) (k:=13) (op:=op) (x:=x) (y:=y) (p:=p) (j:=0) (u:=u) au hc hp hl hat au au hu (XD 13 au 0);have hus:=iE (BX hu);rw[pY] at a1 a2;have hel:(encI (ends ks b)).length=ks.length:=by rw[aZ,eu]
  cases hm:Nat.blt 1 ks.length with
  |true=>
   have b1:=ao4 ih' (o:=o) (f:=g) (p:=.top) rfl (b:=b) hl hat au au;have b2:=LY .top ks;simp only[Ps.top] at b1 b2;have e1:((ks.length:Int)==1)=false:=by rw[Nat.blt_eq] at hm;rw[MJ];omega
   have hs:sizes [lV [40],OX ⟨1,false,false,false,false⟩ ks,lV ([41,32,105,110,32]++x)]<=90000000:=by simp only[sizes,gJ];omega
   rw[QF hp (.inr ⟨rfl,hm,by simp[lvl]⟩) (λj=>by simp[qh])];simp(disch:=omega) only[jm,M.gI,hr,ah,JB,Kq,J3,Kr,Hl,M.cZ,M.bQ,Int.reduceBEq,Int.reduceBNe,aS,bG,hel,e1,jQ,BN.2,b1,fz3,uh _ hs,nD,Bf];simp[Xo,hm,anL,Ps.top]
  |false=>
   have h1:ks.length=1:=by
    have h2:=hc.some_ au;have h3:¬1<ks.length:=by rw[<-Nat.blt_eq,hm];simp
    omega
   obtain⟨u',rfl⟩:=zlo.1 h1;obtain rfl:u'=u:=by simpa using hu
   rw[Uh];have e1:(([u'].length:Int)==1)=true:=rfl;generalize (dP 13 op [u'].length 0 p).BU=q0 at a2 a3;generalize OC 13 op [u'].length p 0 u'=K0 at a3 a4⊢;have hs:sizes [K0,lV ([32,105,110,32]++x)]<=90000000:=by simp only[sizes,gJ];omega
   simp(disch:=omega) only[jm,M.gI,hr,ah,JB,Kq,J3,Kr,Hl,M.cZ,M.bQ,Int.reduceBEq,Int.reduceBNe,aS,bG,hel,e1,a1,a2,a3,JW,jQ,fz2,uh _ hs,nD,Bf];rfl
 ·obtain⟨u,v,rfl⟩:=LZ (hc.two au);have hsv:=sz2 u v;have hI:I64 op:=by rcases hc.asg rfl with rfl|h<;>constructor<;>omega
  have hsl:=MC op;have a1:=lH (ks:=[u,v]) (b:=b) (j:=0) (u:=u) rfl;obtain⟨t1,t2,t3⟩:=tgt (u:=u) rfl (by simp[cls]);have a3:=agL (ih' u (by simp)) t1 t2 t3 (o:=o) (f:=g) (p:=dP 15 op [u,v].length 0 p) hl (hat 0 u rfl) au (wI hp (by simp) (by simp[lvl]));have a4:=LX u (dP 15 op [u,v].length 0 p);obtain⟨⟨b1,b2,b3⟩,b4⟩:=aaV ih' (o:=o) (f:=g) (b:=b) (k:=15) (op:=op) (x:=x) (y:=y) (p:=p) (j:=1) (u:=v) au hc hp hl hat au au rfl rfl;rw[pY] at a1;rw[VN] at b1 b2;rw[aki]
  conv=>rhs;rw[OC,show qh 15 0=true from rfl,Bool.true_or,aS]
  generalize qj u (dP 15 op [u,v].length 0 p)=K0 at a3 a4⊢;generalize (dP 15 op [u,v].length 1 p).BU=q1 at b2 b3;generalize OC 15 op [u,v].length p 1 v=K1 at b3 b4⊢;have hs3:sizes [K0,lV ([32]++spell op++[32]),K1]<=90000000:=by simp only[sizes,gJ];omega
  simp(disch:=omega) only[jm,M.gI,hr,ah,JB,Kq,J3,Kr,Hl,M.cZ,M.bQ,Int.reduceBEq,Int.reduceBNe,aS,bG,a1,a3,b1,b2,b3,(nP op hI).1,JW,qx,mV,um,jQ,fz3,uh _ hs3,nD,Bf];simp[Xo,yA]
 ·have a1:=aUi ih' (o:=o) (f:=g) (b:=b) (op:=op) (x:=x) (y:=y) (p:=p) hc hp hl hat au au (aiF op (jA 12 op ks.length p ks 0));simp only[jm,M.gI,hr,ah,JB,Kq,J3,Kr,Hl,M.cZ,M.bQ,Int.reduceBEq,Int.reduceBNe,aS,bG,a1]
 ·obtain⟨u,v,z,rfl⟩:=U4 (hc.three rfl);have hsz3:=sz3 u v z;obtain⟨⟨a1,a2,a3⟩,a4⟩:=aaV ih' (o:=o) (f:=g) (b:=b) (k:=14) (op:=op) (x:=x) (y:=y) (p:=p) (j:=0) (u:=u) au hc hp hl hat au au rfl (XD 14 au 0);obtain⟨⟨b1,b2,b3⟩,b4⟩:=aaV ih' (o:=o) (f:=g) (b:=b) (k:=14) (op:=op) (x:=x) (y:=y) (p:=p) (j:=1) (u:=v) au hc hp hl hat au au rfl (XD 14 au 1);obtain⟨⟨c1,c2,c3⟩,c4⟩:=aaV ih' (o:=o) (f:=g) (b:=b) (k:=14) (op:=op) (x:=x) (y:=y) (p:=p) (j:=2) (u:=z) au hc hp hl hat au au rfl (XD 14 au 2);rw[pY] at a1 a2;rw[VN] at b1 b2;rw[arv] at c1 c2;rw[avT];generalize (dP 14 op [u,v,z].length 0 p).BU=q0 at a2 a3;generalize OC 14 op [u,v,z].length p 0 u=K0 at a3 a4⊢;generalize (dP 14 op [u,v,z].length 1 p).BU=q1 at b2 b3;generalize OC 14 op [u,v,z].length p 1 v=K1 at b3 b4⊢;generalize (dP 14 op [u,v,z].length 2 p).BU=q2 at c2 c3;generalize OC 14 op [u,v,z].length p 2 z=K2 at c3 c4⊢;have hs:sizes [K0,lV [32,63,32],K1,lV [32,58,32],K2]<=90000000:=by simp only[sizes,gJ];omega
  simp only[jm,M.gI,hr,ah,JB,Kq,J3,Kr,Hl,M.cZ,M.bQ,Int.reduceBEq,Int.reduceBNe,aS,bG,a1,a2,a3,b1,b2,b3,c1,c2,c3,JW,jQ,fz5,uh _ hs,nD];rfl
def ai0:∀(ks:List Tn) (b m:Nat),(ends ks b).take m=ends (ks.take m) b
 |[],b,m=>by simp[ends]
 |t::ts,b,0=>by simp[ends]
 |t::ts,b,m+1=>by rw[ends,List.take_succ_cons,List.take_succ_cons,ends,ai0 ts]
def ayI{l:List Nd}{b:Nat}{ks:List Tn}(hat:At l b ks)(m:Nat):At l b (ks.take m):=by
 intro j u hj;have hjm:j<m:=by have:=(MG.1 hj).1;rw[Ui] at this;omega
 rw[List.getElem?_take,if_pos hjm] at hj;have:=hat j u hj
 rwa [List.take_take,Nat.min_eq_left au]
section
variable {o:Bool} {l:List Nd} {b:Nat} (hl:l.length<=1048576)
include hl
theorem aDI{u:Tn}(h:Ex' u)(hh:Lies l b u){p:Ps}(hp:mY p=true):M.dV (bV o l) false ((b+sizes u.kids:Nat):Int) p.level p.mG p.sF p.sG p.lD=some (dE (Ba u p)):=
 M.ahm (aDH (agM u h.ok h.e h.sm h.sz) (f:=5 * u.size+1) hl hh (Nat.le_refl _) hp)
theorem VP{u:Tn}(h:Ex' u)(hh:Lies l b u):M.dV (bV o l) false ((b+sizes u.kids:Nat):Int) 1 false false false false=some (dE (Jz u)):=aDI (o:=o) hl h hh (p:=.top) rfl
theorem av6{ks:List Tn}(h:∀u,u∈ks->Ex' u)(hat:At l b ks)(hs:sizes ks<=1048575){p:Ps}(hp:mY p=true):M.jr (bV o l) false (encI (ends ks b)) p.level p.mG p.sF p.sG p.lD=some (dE (OX p ks)):=
 M.adp (ao4 (λu hu=>agM u (h u hu).ok (h u hu).e (h u hu).sm (h u hu).sz) (f:=5 * sizes ks+2) hp hl hat (Nat.le_refl _) hs)
theorem ao5{u:Tn}(h:u.kind=16∨Ex' u)(hh:Lies l b u):M.nZ (bV o l) false ((b+sizes u.kids:Nat):Int)=some (dE (SX u)):=by
 simp only[M.nZ,M.NJ,SY hh,ah,JB,SX];rcases h with h|h
 ·rw[h];simp only[beq_self_eq_true,aS,jQ,ah]
 ·have h1:(u.kind==16)=false:=by have:=h.e;unfold Wh at this;rw[MJ];omega
  have h2:=VP (o:=o) hl h hh;have h3:=nC u .top;have h4:=h.sz;have hs:sizes [lV [32],Jz u]<=90000000:=by simp only[sizes,gJ,Jz];omega
  simp only[h1,bG,jQ,BN.2,ah,h2,fz2,uh _ hs,nD,aS]
theorem az4{ks:List Tn}(h:∀u,u∈ks->Ex' u)(hat:At l b ks)(wd:aC):M.xG (bV o l) false wd (encI (ends ks b))=some (dE (YG wd ks)):=by
 simp only[M.xG,M.NK,aZ,eu];cases ks with
 |nil=>rw[show(((([]:List Tn).length:Nat):Int)==0)=true from rfl];simp only[aS,jQ,ah];rfl
 |cons u t=>
  have hu:=h u Yh;have hi:=lH (ks:=u::t) (b:=b) (j:=0) (u:=u) rfl;have h1:=ao5 (o:=o) hl (.inr hu) (hat 0 u rfl);have h3:=RH u;have h4:=hu.sz;have e0:((((u::t).length:Nat):Int)==0)=false:=by rw[MJ,mV];omega
  have hs:sizes [lV wd,SX u]<=90000000:=by simp only[sizes,gJ];omega
  rw[pY] at hi;simp only[e0,bG,jQ,ah,hi,JW,h1,fz2,uh _ hs,nD,aS];rfl
theorem aUk{ks:List Tn}(h:∀u,u∈ks->Ex' u)(hat:At l b ks)(hs:sizes ks<=1048575)(op:Int)(x y:aC)(hop:op=0∨op=1)(hy:y≠[]->1<=ks.length)(hyl:y.length<=1048576):
  M.xW (bV o l) false 21 op x y (encI (ends ks b))=some (dE (aj6 op y ks)):=by
 have hkl:=jq ks;have key:∀wd:aC,(bif !(y==[]) then
   ((cut (encI (ends ks b)) 0 (i64.wrap (((encI (ends ks b)).length:Int) - 1))).bind λrows=>(bif decide ((rows.length:Int)>0) then
    ((M.aB [32]).bind λr2=>((M.jr (bV o l) false rows 1 false false true false).bind λr3=>(bif(1+y.length).ble 9223372036854775807 then(bif(([32]++y).length+1).ble 9223372036854775807 then((M.aB ([32]++y++[32])).bind λr4=>((idx (encI (ends ks b)) (i64.wrap (((encI (ends ks b)).length:Int) - 1))).bind λrow=>((bI IntKind.i64 row 0).bind λn=>((M.dV (bV o l) false n 9 false false false false).bind λr5=>((M.aH 6 0 (aQ ([[D.sl true 4 (dE (lV wd))]]++[[D.sl true 4 r2],[D.sl true 4 r3]]++[[D.sl true 4 r4],[D.sl true 4 r5]]))).bind λr6=>(bif[[D.sl true 4 r6]].all dF then some r6 else none)))))) else none) else none))) else
    (bif(1+y.length).ble 9223372036854775807 then(bif(([32]++y).length+1).ble 9223372036854775807 then((M.aB ([32]++y++[32])).bind λr4=>((idx (encI (ends ks b)) (i64.wrap (((encI (ends ks b)).length:Int) - 1))).bind λrow=>((bI IntKind.i64 row 0).bind λn=>((M.dV (bV o l) false n 9 false false false false).bind λr5=>((M.aH 6 0 (aQ ([[D.sl true 4 (dE (lV wd))]]++[[D.sl true 4 r4],[D.sl true 4 r5]]))).bind λr6=>(bif[[D.sl true 4 r6]].all dF then some r6 else none)))))) else none) else none))) else
   (bif decide (((encI (ends ks b)).length:Int)>0) then
    ((M.aB [32]).bind λr2=>((M.jr (bV o l) false (encI (ends ks b)) 1 false false true false).bind λr3=>((M.aH 6 0 (aQ ([[D.sl true 4 (dE (lV wd))]]++[[D.sl true 4 r2],[D.sl true 4 r3]]))).bind λr6=>(bif[[D.sl true 4 r6]].all dF then some r6 else none)))) else
    ((M.aH 6 0 (aQ [[D.sl true 4 (dE (lV wd))]])).bind λr6=>(bif[[D.sl true 4 r6]].all dF then some r6 else none))))=
   some (dE (oz ([lV wd]++((bif Nat.blt 0 (bif y==[] then ks else ks.take (ks.length - 1)).length then[lV [32],OX ⟨1,false,false,true,false⟩ (bif y==[] then ks else ks.take (ks.length - 1))] else[])++
    (bif y==[] then[] else[lV (([32]++y)++[32]),Ba (zf ks (ks.length - 1)) ⟨9,false,false,false,false⟩]))))):=by
  intro wd;have gt:∀L:List Tn,decide (((encI (ends L b)).length:Int)>0)=Nat.blt 0 L.length:=by intro L;rw[aZ,eu];exact X3 0 L.length
  by_cases hy0:y=[]
  ·have e0:(y==[])=true:=by simpa using hy0
   have l1:=av6 (o:=o) hl h hat hs (p:=⟨1,false,false,true,false⟩) rfl;have l2:=LY ⟨1,false,false,true,false⟩ ks;have z1:sizes [lV wd,lV [32],OX ⟨1,false,false,true,false⟩ ks]<=90000000:=by simp only[sizes,gJ];omega
   have z2:sizes [lV wd]<=90000000:=by simp only[sizes,gJ];omega
   simp only[e0,Bool.not_true,aS,bG,gt];cases Nat.blt 0 ks.length with
   |true=>simp only[aS,ah,jQ,l1,TV,List.nil_append,fz3,uh _ z1,nD]
   |false=>simp only[bG,ah,fz1,uh _ z2,nD,aS];rfl
  ·have e0:(y==[])=false:=by simpa using hy0
   have hn:=hy hy0;have hw:i64.wrap (((encI (ends ks b)).length:Int) - 1)=((ks.length - 1:Nat):Int):=by rw[aZ,eu,aG au au];omega
   have hcut:cut (encI (ends ks b)) 0 ((ks.length - 1:Nat):Int)=some (encI (ends (ks.take (ks.length - 1)) b)):=by rw[ars _ _ (by rw[aZ,eu];omega),<-ai0 ks b,encI,encI,List.map_take]
   obtain⟨u,hu⟩:∃u,ks[ks.length - 1]? =some u:=⟨ks[ks.length - 1],by simp⟩
   have hnt:zf ks (ks.length - 1)=u:=by rw[zf,hu];rfl
   have hue:=h u (BX hu);have he:=aDI (o:=o) hl hue (hat _ u hu) (p:=⟨9,false,false,false,false⟩) rfl;have hi:=lH (b:=b) hu;have s1:=nC u ⟨9,false,false,false,false⟩;have s2:=hue.sz;have s3:=take_size ks (ks.length - 1);have l1:=av6 (o:=o) hl (ks:=ks.take (ks.length - 1)) (λv hv=>h v (List.mem_of_mem_take hv)) (ayI hat _) au (p:=⟨1,false,false,true,false⟩) rfl;have l2:=LY ⟨1,false,false,true,false⟩ (ks.take (ks.length - 1));have z1:sizes [lV wd,lV [32],OX ⟨1,false,false,true,false⟩ (ks.take (ks.length - 1)),lV ([32]++y++[32]),Ba u ⟨9,false,false,false,false⟩]<=90000000:=by simp only[sizes,gJ];omega
   have z2:sizes [lV wd,lV ([32]++y++[32]),Ba u ⟨9,false,false,false,false⟩]<=90000000:=by simp only[sizes,gJ];omega
   have r1:(1+y.length).ble 9223372036854775807=true:=Bf au;have r2:(([32]++y).length+1).ble 9223372036854775807=true:=Bf (by simp only[qx,mV,um];omega);simp only[e0,Bool.not_false,aS,bG,hw,hcut,ah,gt,hnt,r1,r2];cases Nat.blt 0 (ks.take (ks.length - 1)).length with
   |true=>rw[TV,List.nil_append] at z1 z2⊢;simp only[aS,ah,jQ,l1,hi,JW,he,TV,List.nil_append,fz5,nD] at z1⊢;rw[uh _ z1,ah,nD,aS]
   |false=>simp only[aS,bG,ah,jQ,hi,JW,he,TV,List.nil_append,fz3,nD] at z2⊢;rw[uh _ z2,ah,nD,aS]
 have hyy:∀{R:Type} (a c:R),(bif !(y==[]) then(bif !(y==[]) then a else c) else c)=bif !(y==[]) then a else c:=by intro R a c;cases(y==[])<;>rfl
 simp only[M.xW,M.KJ,aj6];rcases hop with rfl|rfl
 ·have k1:=key [112,114,105,110,116];rw[show((0:Int)==1)=false from rfl,bG,jQ,ah];rw[show((0:Int)==0)=true from rfl,aS,<-k1];cases(y==[])<;>rfl
 ·have k1:=key [112,114,105,110,116,102];rw[show((1:Int)==1)=true from rfl,aS,jQ,ah];rw[show((1:Int)==0)=false from rfl,bG,<-k1];cases(y==[])<;>rfl
end
def SS(u:Tn):Prop:=∀(o:Bool) (f:Nat) (l:List Nd) (b:Nat),l.length<=1048576->Lies l b u->6 * u.size<=f->M.Ia f (bV o l) false ((b+sizes u.kids:Nat):Int)=some (dE (iK u))
def BS(u:Tn):Prop:=∀(o:Bool) (f:Nat) (l:List Nd) (b:Nat),l.length<=1048576->Lies l b u->6 * u.size<=f+3->M.gU f (bV o l) false ((b+sizes u.kids:Nat):Int)=some (dE (iK u))
def V3:List Tn->aA
 |[]=>[]
 |d::l=>[D.sl true 4 (dE QC)]::[D.sl false 4 (dh false (d.flat 0))]::V3 l
def agN:∀(L:List Tn) (x:Tn),V3 (L++[x])=V3 L++[[D.sl true 4 (dE QC)],[D.sl false 4 (dh false (x.flat 0))]]
 |[],x=>rfl
 |y::L,x=>by rw[TV,V3,V3,agN L x];rfl
def ai1:∀L:List Tn,(V3 L).length=2 * L.length
 |[]=>rfl
 |y::L=>by have:=ai1 L;rw[V3,mV,mV,this,mV];omega
def anQ:∀L:List Tn,aQ (V3 L)=sJ (E5 L)
 |[]=>rfl
 |d::l=>by
  have h1:qg [D.sl true 4 (dE QC)]=[D.sl false 4 (dh false (QC.flat 0))]:=by simp[qg,D.fz,dE]
  have h2:qg [D.sl false 4 (dh false (d.flat 0))]=[D.sl false 4 (dh false (d.flat 0))]:=by simp[qg,D.fz]
  rw[V3,aQ,aQ,h1,h2,anQ l];rfl
def ayJ(L:List Tn)(hn:L.length<=1048576)(hs:sizes (E5 L)<=90000000):M.xX (sJ L)=some (dE (oz (E5 L))):=by
 have hpl:(sJ L).length=L.length:=by simp[sJ]
 have hloop:=jh (b:=M.EK (sJ L)) (t:=((L.length:Int),V3 L)) (λj=>((j:Int),V3 (L.take j))) L.length
  (by
   intro j hj;obtain⟨d,hd⟩:∃d,L[j]? =some d:=⟨L[j],by simp[hj]⟩
   have hr:idx (sJ L) (j:Int)=some [.sl false 4 (dh false (d.flat 0))]:=by rw[bJ];simp[sJ,hd]
   have c0:PE 4 [D.sl false 4 (dh false (d.flat 0))] 0=some (dh false (d.flat 0)):=rfl;have hll:=ai1 (L.take j);rw[Ui] at hll;have hw:i64.wrap ((j:Int)+1)=((j+1:Nat):Int):=by rw[aG au au];omega
   simp only[jm,M.EK,M.yQ,hpl,ao3,hr,ah,c0,mV,um,hw];rw[zdt au,aS,aX au,aS,aX au,aS,gW hd,agN])
  (by simp only[jm,M.EK,M.yQ,hpl];rw[qw au,bG,List.take_length]) 0 (Nat.zero_le _)
 have BM:M.I4 (sJ L) (0,[])=some ((L.length:Int),V3 L):=hloop;simp only[M.xX,M.KO,BM,ah,anQ,uh _ hs,nD,aS]
def av7{u:Tn}(hS:SS u)(hk:20<=u.kind∧u.kind<=34){o:Bool}{f:Nat}{l:List Nd}{b:Nat}(hl:l.length<=1048576)(h:Lies l b u)(hf:6 * u.size+1<=f):
  M.oV f (bV o l) false ((b+sizes u.kids:Nat):Int)=some (dE (iK u)):=by
 obtain⟨g,rfl⟩:∃g,f=g+1:=⟨f - 1,au⟩
 have h1:=hS o g l b hl h au;have n0:(u.kind==40)=false:=by rw[MJ];omega
 have n1:(u.kind==41)=false:=by rw[MJ];omega
 have n2:(u.kind==42)=false:=by rw[MJ];omega
 have n3:(u.kind==43)=false:=by rw[MJ];omega
 have n4:(u.kind==44)=false:=by rw[MJ];omega
 rw[M.NQ];simp only[jm,M.rP,SY h,ah,JB,Kq,J3,Kr,Hl,n0,n1,n2,n3,n4,bG,h1]
def aDJ{ks:List Tn}{o:Bool}{f:Nat}{l:List Nd}{b:Nat}{D':Tn->Tn}(ih:∀j u,ks[j]? =some u->M.oV f (bV o l) false ((b+sizes (ks.take j)+sizes u.kids:Nat):Int)=some (dE (D' u)))(hn:ks.length<=1048576):
  M.Dt (f+1) (bV o l) false (encI (ends ks b))=some ((ks.map D').map XE):=by
 have hloop:=jh (b:=M.Gu (M.oV f) (encI (ends ks b)) (bV o l) false) (t:=((ks.length:Int),(ks.map D').map XE)) (λj=>((j:Int),((ks.take j).map D').map XE)) ks.length
  (by
   intro j hj;obtain⟨u,hu⟩:∃u,ks[j]? =some u:=⟨ks[j],by simp[hj]⟩
   have hi:=lH (b:=b) hu;have h1:=ih j u hu;have hw:i64.wrap ((j:Int)+1)=((j+1:Nat):Int):=by rw[aG au au];omega
   simp only[jm,M.Gu,M.Ah,aZ,eu,hi,ah,JW,h1,List.length_map,Ui,mV,um,hw];rw[zdt au,aS,aX au,aS,aX au,aS,gW hu,List.map_append,List.map_append];rfl)
  (by simp only[jm,M.Gu,M.Ah,aZ,eu];rw[qw au,bG,List.take_length]) 0 (Nat.zero_le _)
 have BM:M.KN (M.oV f) (encI (ends ks b)) (bV o l) false (0,[])=some ((ks.length:Int),(ks.map D').map XE):=hloop;rw[M.afB];simp only[M.Dp,BM,ah]
def ai2:∀ks:List Tn,nU ks=ks.map iK
 |[]=>rfl
 |t::ts=>by rw[nU,ai2 ts];rfl
def ayK{k op:Int}{x y:aC}{ks:List Tn}(ih:∀u,u∈ks->SS u∧(20<=u.kind∧u.kind<=34)){o:Bool}{f:Nat}{l:List Nd}{b:Nat}(hl:l.length<=1048576)(h:Lies l b (.mk k op x y ks))(hf:6 * sizes ks+3<=f)(hu:sizes ks<=1048575)(hz:sizes (nU ks)+2 * ks.length<=40 * sizes ks):
  M.gU f (bV o l) false ((b+sizes ks:Nat):Int)=some (dE (aj3 (nU ks))):=by
 obtain⟨g,rfl⟩:∃g,f=g+1+1:=⟨f - 2,au⟩
 have hkl:=jq ks;have hr:idx (bV o l) ((b+sizes ks:Nat):Int)=some (Si o ⟨k,op,x,y,ends ks b⟩):=SY h;have hk:M.Dt (g+1) (bV o l) false (encI (ends ks b))=some ((nU ks).map XE):=by rw[ai2];refine aDJ (λj u hj=> ?_) au;obtain⟨h1,h2⟩:=ih u (BX hj);have:=iE (BX hj);exact av7 h1 h2 hl (Lies.Pv h hj) au
 have hll:=Xq (nU ks);rw[OD] at hll;have hL:=ayJ (nU ks) (by rw[OD];omega) au;have z1:sizes [oz (E5 (nU ks))]<=90000000:=by simp only[sizes,oL];omega
 have z2:sizes [lV [123],VY (oz (E5 (nU ks))),QC,lV [125]]<=90000000:=by simp only[sizes,oL,U2,gJ,aaQ];omega
 rw[M.adx];simp only[M.zB,jQ,ao3,hr,ah,Hl,hk,Qs,hL,nD,aS,fz1,akm _ z1,fz4,uh _ z2];rfl
set_option maxHeartbeats 4000000 in
def av8(t:Tn):Fb t->isS t->Tf t->t.size<=1048576->SS t∧(t.kind=33->BS t):=by
 refine Tn.ind (P:=λt=>Fb t->isS t->Tf t->t.size<=1048576->SS t∧(t.kind=33->BS t)) ?_ t;intro k op x y ks ih hok hs hsm hsz;have hc:=Px hok;simp only[isS,Tn.kind] at hs;rw[Tf] at hsm;obtain⟨⟨hx,hy⟩,hss⟩:=hsm;rw[Tn.size] at hsz;have kE:∀{j:Nat} {u:Tn},ks[j]? =some u->cls k op ks.length j=0->Ex' u:=by intro j u hj hcl;obtain⟨h1,h2⟩:=LW hok hj;rw[hcl] at h1;have:=iE (BX hj);exact⟨h2,h1,xP hss (BX hj),au⟩
 have kE3:∀{j:Nat} {u:Tn},ks[j]? =some u->cls k op ks.length j=3->u.kind=16∨Ex' u:=by
  intro j u hj hcl;obtain⟨h1,h2⟩:=LW hok hj;rw[hcl] at h1;have:=iE (BX hj);rcases h1 with h1|h1
  ·exact .inl h1
  ·exact .inr ⟨h2,h1,xP hss (BX hj),au⟩
 have kB:∀{j:Nat} {u:Tn},ks[j]? =some u->cls k op ks.length j=1->BS u∧(iK u).size+2<=40 * u.size:=by intro j u hj hcl;obtain⟨h1,h2⟩:=LW hok hj;rw[hcl] at h1;have h1':u.kind=33:=h1;have:=iE (BX hj);exact⟨(ih u (BX hj) h2 (by constructor<;>omega) (xP hss (BX hj)) au).2 h1',VH u h2 (by constructor<;>omega)⟩
 have kS:k=33->∀u,u∈ks->SS u∧(20<=u.kind∧u.kind<=34):=by intro e u hu;subst e;obtain⟨j,hj⟩:=List.mem_iff_getElem?.1 hu;obtain⟨h1,h2⟩:=ap2 hok hj (.inr (by simp[cls]));have:=iE hu;exact⟨(ih u hu h2 h1 (xP hss hu) au).1,h1⟩
 have hB:k=33->BS (.mk k op x y ks):=by
  intro e o f l b hl h hf;have hz:sizes (nU ks)+2 * ks.length<=40 * sizes ks:=ZA λu hu=>by subst e;obtain⟨j,hj⟩:=List.mem_iff_getElem?.1 hu;obtain⟨h1,h2⟩:=ap2 hok hj (.inr (by simp[cls]));exact VH u h2 h1
  have h1:=ayK (k:=k) (op:=op) (x:=x) (y:=y) (kS e) (o:=o) (f:=f) hl h (by rw[Tn.size] at hf;omega) au hz;have h2:iK (.mk k op x y ks)=aj3 (nU ks):=by rw[iK,e];rfl
  rw[h2];exact h1
 refine⟨λo f l b hl h hf=> ?_,hB⟩;have hbk:∀f,6 * (sizes ks+1)<=f+3->k=33->M.gU f (bV o l) false ((b+sizes ks:Nat):Int)=some (dE (iK (.mk k op x y ks))):=λf hf e=>hB e o f l b hl h (by rw[Tn.size];exact hf)
 rw[Tn.size] at hf;obtain⟨g,rfl⟩:∃g,f=g+1:=⟨f - 1,au⟩
 have aE:∀(h:∀j,cls k op ks.length j=0),∀u,u∈ks->Ex' u:=by intro h u hu;obtain⟨j,hj⟩:=List.mem_iff_getElem?.1 hu;exact kE hj (h j)
 have hat:At l b ks:=λj u hj=>Lies.Pv h hj
 have hr:idx (bV o l) ((b+sizes ks:Nat):Int)=some (Si o ⟨k,op,x,y,ends ks b⟩):=SY h;have hel:(encI (ends ks b)).length=ks.length:=by rw[aZ,eu]
 rw[M.afz,Tn.kids];have hk:k=20∨k=21∨k=22∨k=25∨k=26∨k=23∨k=24∨k=27∨k=28∨k=29∨k=30∨k=31∨k=32∨k=33∨k=34:=au;rcases hk with rfl|rfl|rfl|rfl|rfl|rfl|rfl|rfl|rfl|rfl|rfl|rfl|rfl|rfl|rfl
 ·obtain⟨u,rfl⟩:=zlo.1 (hc.one au);have i0:=lH (ks:=[u]) (b:=b) (j:=0) (u:=u) rfl;have h0:=VP (o:=o) hl (kE (j:=0) (u:=u) rfl (by simp[cls])) (hat 0 u rfl);rw[pY] at i0;simp only[jm,M.fG,hr,JB,Kq,J3,Kr,Hl,Int.reduceBEq,aS,bG,i0,JW,ah,BN.2,h0];rw[iK];rfl
 ·have h0:=aUk (o:=o) hl (aE (λj=>by simp[cls])) hat au op x y (hc.prn rfl).1 (hc.prn rfl).2 hy;simp only[jm,M.fG,hr,JB,Kq,J3,Kr,Hl,Int.reduceBEq,aS,bG,ah,h0];rw[iK];rfl
 ·simp only[jm,M.fG,hr,JB,Kq,J3,Kr,Hl,Int.reduceBEq,aS,bG,ah,jQ];rw[iK];rfl
 ·simp only[jm,M.fG,hr,JB,Kq,J3,Kr,Hl,Int.reduceBEq,aS,bG,ah,jQ];rw[iK];rfl
 ·simp only[jm,M.fG,hr,JB,Kq,J3,Kr,Hl,Int.reduceBEq,aS,bG,ah,jQ];rw[iK];rfl
 ·have h0:=az4 (o:=o) hl (aE (λj=>by simp[cls])) hat [101,120,105,116];simp only[jm,M.fG,hr,JB,Kq,J3,Kr,Hl,Int.reduceBEq,aS,bG,ah,h0];rw[iK];rfl
 ·have h0:=az4 (o:=o) hl (aE (λj=>by simp[cls])) hat [114,101,116,117,114,110];simp only[jm,M.fG,hr,JB,Kq,J3,Kr,Hl,Int.reduceBEq,aS,bG,ah,h0];rw[iK];rfl
 ·have h0:=av6 (o:=o) hl (aE (λj=>by simp[cls])) hat au (p:=.top) rfl;have h1:=LY .top ks;simp only[Ps.top] at h0 h1;rw[iK];cases ks with
  |nil=>simp(disch:=omega) only[jm,M.fG,hr,JB,Kq,J3,Kr,Hl,Int.reduceBEq,aS,bG,hel,um,ah,jQ,Bf,show((((0:Nat):Int))==0)=true from rfl];rfl
  |cons u t=>
   have e0:((((u::t).length:Nat):Int)==0)=false:=by rw[MJ,mV];omega
   have z1:sizes [lV ([100,101,108,101,116,101,32]++x++[91]),OX ⟨1,false,false,false,false⟩ (u::t),lV [93]]<=90000000:=by simp only[sizes,gJ] at *;omega
   have r1:(7+x.length).ble 9223372036854775807=true:=Bf au;have r2:(([100,101,108,101,116,101,32]++x).length+1).ble 9223372036854775807=true:=Bf (by simp only[qx,mV,um];omega);simp only[jm,M.fG,hr,JB,Kq,J3,Kr,Hl,Int.reduceBEq,aS,bG,hel,e0,r1,r2,ah,jQ,BN.2,h0,fz3,uh _ z1,nD];rfl
 ·rw[iK];obtain⟨g',rfl⟩:∃g',g=g'+1:=⟨g - 1,au⟩
  rcases hc.cnd rfl with h2|h3
  ·obtain⟨u,v,rfl⟩:=LZ h2;have hs2:=sz2 u v;have i0:=lH (ks:=[u,v]) (b:=b) (j:=0) (u:=u) rfl;have i1:=lH (ks:=[u,v]) (b:=b) (j:=1) (u:=v) rfl;rw[pY] at i0;rw[VN] at i1;have e0:=kE (j:=0) (u:=u) rfl (by simp[cls]);have h0:=VP (o:=o) hl e0 (hat 0 u rfl);have s0:=nC u .top;obtain⟨h1,s1⟩:=kB (j:=1) (u:=v) rfl (by simp[cls]);have h1':=h1 o g' l _ hl (hat 1 v rfl) au;have e2:((([u,v]:List Tn).length:Int)==2)=true:=rfl;have z1:sizes [lV [105,102,32,40],Jz u,lV [41,32],iK v]<=90000000:=by simp only[sizes,gJ,Jz] at *;omega
   simp only[jm,M.fG,hr,JB,Kq,J3,Kr,Hl,Int.reduceBEq,aS,bG,M.aav,M.EL,hel,e2,i0,i1,JW,ah,jQ,BN.2,h0,h1',fz4,uh _ z1,nD];rfl
  ·obtain⟨u,v,z,rfl⟩:=U4 h3;have hs3:=sz3 u v z;have i0:=lH (ks:=[u,v,z]) (b:=b) (j:=0) (u:=u) rfl;have i1:=lH (ks:=[u,v,z]) (b:=b) (j:=1) (u:=v) rfl;have i2:=lH (ks:=[u,v,z]) (b:=b) (j:=2) (u:=z) rfl;rw[pY] at i0;rw[VN] at i1;rw[arv] at i2;have e0:=kE (j:=0) (u:=u) rfl (by simp[cls]);have h0:=VP (o:=o) hl e0 (hat 0 u rfl);have s0:=nC u .top;obtain⟨h1,s1⟩:=kB (j:=1) (u:=v) rfl (by simp[cls]);have h1':=h1 o g' l _ hl (hat 1 v rfl) au;obtain⟨h2,s2⟩:=kB (j:=2) (u:=z) rfl (by simp[cls]);have h2':=h2 o g' l _ hl (hat 2 z rfl) au;have e2:((([u,v,z]:List Tn).length:Int)==2)=false:=rfl;have z1:sizes [lV [105,102,32,40],Jz u,lV [41,32],iK v]<=90000000:=by simp only[sizes,gJ,Jz] at *;omega
   have z2:sizes [oz [lV [105,102,32,40],Jz u,lV [41,32],iK v],lV [32,101,108,115,101,32],iK z]<=90000000:=by simp only[sizes,gJ,oL,Jz] at *;omega
   simp only[jm,M.fG,hr,JB,Kq,J3,Kr,Hl,Int.reduceBEq,aS,bG,M.aav,M.EL,hel,e2,i0,i1,i2,JW,ah,jQ,BN.2,h0,h1',h2',fz4,fz3,uh _ z1,uh _ z2,nD];rfl
 ·rw[iK];obtain⟨u,v,rfl⟩:=LZ (hc.two au);have hs2:=sz2 u v;have i0:=lH (ks:=[u,v]) (b:=b) (j:=0) (u:=u) rfl;have i1:=lH (ks:=[u,v]) (b:=b) (j:=1) (u:=v) rfl;rw[pY] at i0;rw[VN] at i1;have e0:=kE (j:=0) (u:=u) rfl (by simp[cls]);have h0:=VP (o:=o) hl e0 (hat 0 u rfl);have s0:=nC u .top;obtain⟨h1,s1⟩:=kB (j:=1) (u:=v) rfl (by simp[cls]);have h1':=h1 o g l _ hl (hat 1 v rfl) au;have z1:sizes [lV [119,104,105,108,101,32,40],Jz u,lV [41,32],iK v]<=90000000:=by simp only[sizes,gJ,Jz] at *;omega
  simp only[jm,M.fG,hr,JB,Kq,J3,Kr,Hl,Int.reduceBEq,aS,bG,i0,i1,JW,ah,jQ,BN.2,h0,h1',fz4,uh _ z1,nD];rfl
 ·rw[iK];obtain⟨u,v,rfl⟩:=LZ (hc.two au);have hs2:=sz2 u v;have i0:=lH (ks:=[u,v]) (b:=b) (j:=0) (u:=u) rfl;have i1:=lH (ks:=[u,v]) (b:=b) (j:=1) (u:=v) rfl;rw[pY] at i0;rw[VN] at i1;have e0:=kE (j:=1) (u:=v) rfl (by simp[cls]);have h0:=VP (o:=o) hl e0 (hat 1 v rfl);have s0:=nC v .top;obtain⟨h1,s1⟩:=kB (j:=0) (u:=u) rfl (by simp[cls]);have h1':=h1 o g l _ hl (hat 0 u rfl) au;have z1:sizes [lV [100,111,32],iK u,lV [32,119,104,105,108,101,32,40],Jz v,lV [41]]<=90000000:=by simp only[sizes,gJ,Jz] at *;omega
  simp only[jm,M.fG,hr,JB,Kq,J3,Kr,Hl,Int.reduceBEq,aS,bG,i0,i1,JW,ah,jQ,BN.2,h0,h1',fz5,uh _ z1,nD];rfl
 ·rw[iK];obtain⟨g',rfl⟩:∃g',g=g'+1:=⟨g - 1,au⟩
  obtain⟨u,v,z,q,rfl⟩:=aj7 (hc.four rfl);have hs4:sizes [u,v,z,q]=u.size+(v.size+(z.size+q.size)):=by simp[sizes]
  have a5z:((3:Nat):Int)=3:=rfl;have i0:=lH (ks:=[u,v,z,q]) (b:=b) (j:=0) (u:=u) rfl;have i1:=lH (ks:=[u,v,z,q]) (b:=b) (j:=1) (u:=v) rfl;have i2:=lH (ks:=[u,v,z,q]) (b:=b) (j:=2) (u:=z) rfl;have i3:=lH (ks:=[u,v,z,q]) (b:=b) (j:=3) (u:=q) rfl;rw[pY] at i0;rw[VN] at i1;rw[arv] at i2;rw[a5z] at i3;have s1:=RH v;have s2:=RH z;have h1:=ao5 (o:=o) hl (kE3 (j:=1) (u:=v) rfl (by simp[cls])) (hat 1 v rfl);have h2:=ao5 (o:=o) hl (kE3 (j:=2) (u:=z) rfl (by simp[cls])) (hat 2 z rfl);obtain⟨h3,s3⟩:=kB (j:=3) (u:=q) rfl (by simp[cls]);have h3':=h3 o g' l _ hl (hat 3 q rfl) au;have hr0:=SY (o:=o) (hat 0 u rfl);rcases kE3 (j:=0) (u:=u) rfl (by simp[cls]) with h0|h0
  ·have n0:(u.kind !=16)=false:=by simp[h0]
   have ha:adO 31 op x y [u,v,z,q] (nU [u,v,z,q])=oz [lV [102,111,114,32,40],lV [],lV [59],SX v,lV [59],SX z,lV [41,32],iK q]:=by simp[adO,zf,yA,nU,h0]
   have z1:sizes [lV [102,111,114,32,40],lV [],lV [59],SX v,lV [59],SX z,lV [41,32],iK q]<=90000000:=by simp only[sizes,gJ] at *;omega
   rw[ha];simp only[jm,M.fG,hr,JB,Kq,J3,Kr,Hl,Int.reduceBEq,aS,bG,M.Yv,M.BG,i0,i1,i2,i3,JW,hr0,n0,ah,jQ,h1,h2,h3',fz8,uh _ z1,nD]
  ·have n0:(u.kind !=16)=true:=by have:=h0.e;unfold Wh at this;simp only[bne_iff_ne];omega
   have n1:(u.kind==16)=false:=by simpa using n0
   have ha:adO 31 op x y [u,v,z,q] (nU [u,v,z,q])=oz [lV [102,111,114,32,40],Ba u ⟨1,false,true,false,false⟩,lV [59],SX v,lV [59],SX z,lV [41,32],iK q]:=by simp[adO,zf,yA,nU,n1]
   have s0:=nC u ⟨1,false,true,false,false⟩;have he:=aDI (o:=o) hl h0 (hat 0 u rfl) (p:=⟨1,false,true,false,false⟩) rfl;have z1:sizes [lV [102,111,114,32,40],Ba u ⟨1,false,true,false,false⟩,lV [59],SX v,lV [59],SX z,lV [41,32],iK q]<=90000000:=by simp only[sizes,gJ] at *;omega
   rw[ha];simp only[jm,M.fG,hr,JB,Kq,J3,Kr,Hl,Int.reduceBEq,aS,bG,M.Yv,M.BG,i0,i1,i2,i3,JW,hr0,n0,he,ah,jQ,h1,h2,h3',fz8,uh _ z1,nD]
 ·rw[iK];obtain⟨u,rfl⟩:=zlo.1 (hc.one au);have hs1:=sz1 u;have i0:=lH (ks:=[u]) (b:=b) (j:=0) (u:=u) rfl;rw[pY] at i0;obtain⟨h1,s1⟩:=kB (j:=0) (u:=u) rfl (by simp[cls]);have h1':=h1 o g l _ hl (hat 0 u rfl) au;have z1:sizes [lV ([102,111,114,32,40]++x++[32,105,110,32]++y++[41,32]),iK u]<=90000000:=by simp only[sizes,gJ] at *;omega
  simp(disch:=first|omega|(simp only[qx,mV,um];omega)) only[jm,M.fG,hr,JB,Kq,J3,Kr,Hl,Int.reduceBEq,aS,bG,i0,JW,ah,jQ,h1',fz2,uh _ z1,nD,Bf];rfl
 ·have h0:=hbk g au rfl;simp only[jm,M.fG,hr,JB,Kq,J3,Kr,Hl,Int.reduceBEq,aS,bG,ah,h0]
 ·simp only[jm,M.fG,hr,JB,Kq,J3,Kr,Hl,Int.reduceBEq,aS,bG,ah,jQ];rw[iK];rfl
section
variable {o:Bool} {l:List Nd} {b:Nat} (hl:l.length<=1048576)
include hl
theorem av9{u:Tn}(h:Bk u)(hh:Lies l b u){f:Nat}(hf:6 * u.size<=f+3):M.gU f (bV o l) false ((b+sizes u.kids:Nat):Int)=some (dE (iK u)):=by have hk:=h.k;exact(av8 u h.ok (by constructor<;>omega) h.sm h.sz).2 hk o f l b hl hh hf
theorem aDK{ks:List Tn}(h:∀u,u∈ks->Bk u∨Ex' u)(hat:At l b ks)(hn:ks.length<=1000)(hz:sizes (FM ks true)<=90000000){f:Nat}(hf:6 * sizes ks<=f+3)(k op:Int)(x y:aC):
  M.wR (M.gU f) (bV o l) false k op x y (encI (ends ks b)) some=some (dE (oz (FM ks true))):=by
 have hel:(encI (ends ks b)).length=ks.length:=by rw[aZ,eu]
 have hloop:=jh (b:=M.EJ (M.gU f) (bV o l) false k op x y (encI (ends ks b))) (t:=((ks.length:Int),(FM ks true).map XE)) (λj=>((j:Int),(FM (ks.take j) true).map XE)) ks.length
  (by
   intro j hj;obtain⟨u,hu'⟩:∃u,ks[j]? =some u:=⟨ks[j],by simp[hj]⟩
   have hi:=lH (b:=b) hu';have hlu:=hat j u hu';have hr:=SY (o:=o) hlu;have hus:=iE (BX hu');have hll:=abZ (ks.take j) true;rw[Ui] at hll;have hw:i64.wrap ((j:Int)+1)=((j+1:Nat):Int):=by rw[aG au au];omega
   have he:(ks.take j).isEmpty=decide (j=0):=by
    cases j with
    |zero=>rfl
    |succ j=>cases ks with
     |nil=>simp at hj
     |cons a l=>rfl
   simp only[jm,M.EJ,M.yO,hel,hi,hr,JW,JB,ah];rw[zdt au,aS,gW hu',ZE,he,Bool.and_true,List.map_append,aiL];rcases h u (BX hu') with hb|hb
   ·have h1:=av9 (o:=o) hl hb hlu (f:=f) au;rw[hb.keq]
    by_cases h0:j=0
    ·subst h0;simp(disch:=omega) only[aS,bG,jQ,h1,ah,List.length_map,qx,mV,um,hw,aX];rfl
    ·rw[zdt (show(j:Int)>0 by omega),qw h0];simp(disch:=omega) only[aS,bG,jQ,h1,ah,List.length_map,qx,mV,um,hw,aX,BO];rfl
   ·have h1:=VP (o:=o) hl hb hlu;rw[hb.kne]
    by_cases h0:j=0
    ·subst h0;simp(disch:=omega) only[aS,bG,jQ,BN.2,h1,ah,List.length_map,qx,mV,um,hw,aX];rfl
    ·rw[zdt (show(j:Int)>0 by omega),qw h0];simp(disch:=omega) only[aS,bG,jQ,BN.2,h1,ah,List.length_map,qx,mV,um,hw,aX,BO];rfl)
  (by simp only[jm,M.EJ,M.yO,hel];rw[qw au,bG,List.take_length]) 0 (Nat.zero_le _)
 have BM:M.IZ (M.gU f) (bV o l) false k op x y (encI (ends ks b)) (0,[])=some ((ks.length:Int),(FM ks true).map XE):=hloop;simp only[M.wR,BM,ah,Qs,uh _ hz,nD,aS]
theorem aDL{ks:List Tn}(ht:∀u,u∈ks->u.text.length<=1048576)(h1:1<=ks.length)(h7:ks.length<=7){v:Tn}(hv:ks[ks.length - 1]? =some v)(hb:Bk v)(hat:At l b ks){f:Nat}(hf:6 * sizes ks<=f+3)(k op:Int){x:aC}(hx:x.length<=1048576)(y:aC):
  M.yP (M.gU f) (bV o l) false k op x y (encI (ends ks b)) some=some (dE (oz [lV (VZ x ks++[32]),iK v])):=by
 have hel:(encI (ends ks b)).length=ks.length:=by rw[aZ,eu]
 have hw0:i64.wrap ((ks.length:Int) - 1)=((ks.length - 1:Nat):Int):=by rw[aG au au];omega
 have hvs:=iE (BX hv);have hhead:=aiX ht h1 h7 hx;have hmm:∀m:Nat,∀z,z∈(ks.take m).map Tn.text->z.length<=1048576:=by intro m z hz;obtain⟨u,hu,rfl⟩:=List.mem_map.1 hz;exact ht u (List.mem_of_mem_take hu)
 have hjl:∀m:Nat,(Il ((ks.take m).map Tn.text) true).length<=8000000:=by intro m;have h2:=X5 _ true (hmm m);rw[List.length_map,Ui] at h2;have h3:(1048576+2) * min m ks.length<=(1048576+2) * 7:=Nat.mul_le_mul_left _ au;omega
 have hloop:=jh (b:=M.Gt (M.gU f) ((ks.length - 1:Nat):Int) (bV o l) false k op x y (encI (ends ks b))) (t:=(([102,117,110,99,116,105,111,110,32]++x++[40])++Il ((ks.take (ks.length - 1)).map Tn.text) true,((ks.length - 1:Nat):Int))) (λj=>(([102,117,110,99,116,105,111,110,32]++x++[40])++Il ((ks.take j).map Tn.text) true,(j:Int))) (ks.length - 1)
  (by
   intro j hj;obtain⟨u,hu'⟩:∃u,ks[j]? =some u:=⟨ks[j],by simp[show j<ks.length by omega]⟩
   have hi:=lH (b:=b) hu';have hlu:=hat j u hu';have hr:=SY (o:=o) hlu;have hq:=hjl j;have htu:=ht u (BX hu');have hw:i64.wrap ((j:Int)+1)=((j+1:Nat):Int):=by rw[aG au au];omega
   have he:((ks.take j).map Tn.text).isEmpty=decide (j=0):=by
    cases j with
    |zero=>rfl
    |succ j=>cases ks with
     |nil=>simp at hj
     |cons a l=>rfl
   simp only[M.Gt,M.Ag,hi,hr,JW,J3,ah,hw];rw[zdt au,aS,gW hu',List.map_append,OQ,List.map_nil,agy,he,Bool.and_true]
   by_cases h0:j=0
   ·subst h0;rw[qw au,bG,aX (by simp only[qx,mV,um];omega),aS,zdt rfl,aS,BO]
   ·rw[zdt au,aS,aX (by simp only[qx,mV,um];omega),aS,aX (by simp only[qx,mV,um];omega),aS,qw h0,bG];simp only[BO])
  (by simp only[M.Gt,M.Ag];rw[qw au,bG]) 0 (Nat.zero_le _)
 have e0:([102,117,110,99,116,105,111,110,32]++x++[40])++Il ((ks.take 0).map Tn.text) true=[102,117,110,99,116,105,111,110,32]++x++[40]:=by rw[List.take_zero];simp[Il]
 rw[e0] at hloop;have BM:M.KL (M.gU f) ((ks.length - 1:Nat):Int) (bV o l) false k op x y (encI (ends ks b)) ([102,117,110,99,116,105,111,110,32]++x++[40],0)=some (([102,117,110,99,116,105,111,110,32]++x++[40])++Il ((ks.take (ks.length - 1)).map Tn.text) true,((ks.length - 1:Nat):Int)):=hloop;have hi:=lH (b:=b) hv;have hblk:=av9 (o:=o) hl hb (hat _ v hv) (f:=f) au;have hq:=hjl (ks.length - 1);have hbs:=hb.size;have hbz:=hb.sz;have eh:([102,117,110,99,116,105,111,110,32]++x++[40])++Il ((ks.take (ks.length - 1)).map Tn.text) true++[41,32]=VZ x ks++[32]:=by rw[VZ];simp
 have z1:sizes [lV (VZ x ks++[32]),iK v]<=90000000:=by simp only[sizes,gJ];omega
 simp only[M.yP,hel,hw0,BM,ah];rw[aX au,aS,aX (by simp only[qx,mV,um];omega),aS,aX (by simp only[qx,mV,um];omega),aS,eh];simp only[jQ,hi,JW,hblk,ah,fz2,uh _ z1,nD,aS]
theorem aDM{t:Tn}(hi:It t)(hh:Lies l b t):M.nG (bV o l) false ((b+sizes t.kids:Nat):Int)=some (dE (itemD t)):=by
 have hss:=Xw hi.sm;have hks:=t.uq;have hts:=aaU hi.sm;have hz:=agH hi.ok hi.i hi.sm hi.sz;have htz:=hi.sz;have hr:=SY (o:=o) hh;have hat:At l b t.kids:=by obtain⟨k,op,x,y,ks⟩:=t;exact λj u hj=>Lies.Pv hh hj
 have hN:∀{r:aA},M.oV (6 * t.size+2) (bV o l) false ((b+sizes t.kids:Nat):Int)=some r->M.nG (bV o l) false ((b+sizes t.kids:Nat):Int)=some r:=λh=>M.ady h
 rcases VO hi.ok hi.i hi.sm hi.sz with⟨u,hk,hu,hb⟩|⟨hk,hn,hb⟩|⟨hk,h1,h7,u,hu,hn,hb⟩|hk
 ·refine hN ?_;rw[M.NQ];unfold itemD;rw[hu] at hat hr⊢;have i0:=lH (ks:=[u]) (b:=b) (j:=0) (u:=u) rfl;rw[pY] at i0;have h2:=hb.size;have h3:=hb.sz;rw[hu,sizes,sizes] at hks;have hblk:=av9 (o:=o) hl hb (hat 0 u rfl) (f:=6 * t.size+1) au;have z1:∀s,sizes [lV s,iK u]<=90000000:=λs=>by simp only[sizes,gJ];omega
  have e0:zf [u] 0=u:=rfl;rcases hk with hk|hk<;>simp only[jm,M.rP,hr,hk,JB,Kq,J3,Kr,Hl,Int.reduceBEq,aS,bG,jQ,i0,JW,hblk,ah,fz2,uh _ (z1 _),nD,e0]
 ·refine hN ?_;have h2:=ZF _ true hb;have hru:=aDK (o:=o) hl hb hat au au (f:=6 * t.size) au t.kind t.op t.text t.other;rw[M.NQ];unfold itemD;rcases hk with hk|hk<;>rw[hk] at hru<;>simp only[jm,M.rP,hr,hk,JB,Kq,J3,Kr,Hl,Int.reduceBEq,aS,bG,M.adw,hru,ah,Bool.true_or,Bool.or_true]
 ·refine hN ?_;have hfu:=aDL (o:=o) hl (agG hss) h1 h7 hu hb hat (f:=6 * t.size) au t.kind t.op hts t.other;rw[M.NQ];unfold itemD;rw[hk] at hfu;simp only[jm,M.rP,hr,hk,JB,Kq,J3,Kr,Hl,Int.reduceBEq,aS,bG,M.afA,hfu,ah,Bool.or_false,hn]
 ·have hS:=(av8 t hi.ok (by constructor<;>omega) hi.sm hi.sz).1;have h2:=av7 hS au (o:=o) (f:=6 * t.size+2) hl hh au;have e1:itemD t=iK t:=by unfold itemD;rw[hk];rfl
  rw[e1];exact hN h2
end
def arA{l:List Nd}{o:Bool}(hl:l.length<=1048576)(t:Tn):∀(f b:Nat),Lies l b t->t.size<=f->
  M.jL f (bV o l) ((b+sizes t.kids:Nat):Int)=some (t.kind,t.op,t.text,t.other,eU true t.kids):=by
 refine Tn.ind (P:=λt=>∀(f b:Nat),Lies l b t->t.size<=f->M.jL f (bV o l) ((b+sizes t.kids:Nat):Int)=some (t.kind,t.op,t.text,t.other,eU true t.kids)) ?_ t;intro k op x y ks ih f b h hf;cases f with
 |zero=>rw[Tn.size] at hf;omega
 |succ f=>
  have hroot:l[b+sizes ks]? =some ⟨k,op,x,y,ends ks b⟩:=h.root;have hlt:=h.lt;rw[Tn.size] at hf hlt;have hkl:=jq ks;simp only[jm,M.jL,M.FV,bJ,oM,Tn.kids,Tn.kind,Tn.op,Tn.text,Tn.other,hroot,OJ,ah,JB,Kq,J3,Kr,Hl,aZ,eu];have hrec:∀j t,ks[j]? =some t->M.jL f (bV o l) ((b+sizes (ks.take j)+sizes t.kids:Nat):Int)=some (t.kind,t.op,t.text,t.other,eU true t.kids):=λj t hj=>ih t (BX hj) f _ (Lies.Pv h hj) (by have:=LV hj;omega)
  have hloop:=jh (b:=M.lT (M.jL f))
   (t:=if ks=[] then .inl (bV o l,encI (ends ks b),(ks.length:Int),0,0,0,[],[],k,op,x,y) else .inr (bV o l,encI (ends ks b),(ks.length:Int),(ks.length:Int),0,0,[],[],k,op,x,y,eU true ks))
   (λj=>if j=0 then .inl (bV o l,encI (ends ks b),(ks.length:Int),0,0,0,[],[],k,op,x,y) else .inr (bV o l,encI (ends ks b),(ks.length:Int),(j:Int),0,0,[],[],k,op,x,y,eU true (ks.take j))) ks.length
   (by
    intro j hj;obtain⟨t,ht⟩:∃t,ks[j]? =some t:=⟨ks[j],by simp⟩
    have hr:=hrec j t ht;have he:=VF (b:=b) ht;rw[if_neg (show¬j+1=0 by omega),aoR ht,aDf]
    by_cases h0:j=0
    ·subst h0;rw[if_pos rfl];have hi:idx (encI (ends ks b)) 0=some [D.int .i64 ((b+sizes (ks.take 0)+sizes t.kids:Nat):Int)]:=by have:=bJ (encI (ends ks b)) 0;rw[pY] at this;rw[this,lK,he];rfl
     simp only[jm,M.lT,M.lS,hi,ah,JW,hr];rw[zdt au,aS];rfl
    ·rw[if_neg h0];simp only[jm,M.lT,M.lS,bJ,lK,he,OJ,ah,JW,hr,fV,Ui,J9];rw[zdt au,aS,aX au,aS,aX au,aS,aG au au];rfl)
   (by
    by_cases h0:ks.length=0
    ·have he:ks=[]:=List.length_eq_zero_iff.1 h0;rw[if_pos h0,if_pos he];simp only[jm,M.lT,M.lS];rw[qw au,bG]
    ·have he:¬ks=[]:=λe=>h0 (by rw[e];rfl)
     rw[if_neg h0,if_neg he,List.take_length];simp only[jm,M.lT,M.lS];rw[qw au,bG]) 0 (Nat.zero_le _)
  rw[if_pos rfl] at hloop;rw[M.Ic,hloop,ah]
  by_cases he:ks=[]
  ·rw[if_pos he,he];rfl
  ·rw[if_neg he];rfl
def anR{l:List Nd}{o:Bool}(hl:l.length<=1048576){t:Tn}{b:Nat}(h:Lies l b t):M.qB (bV o l) ((b+sizes t.kids:Nat):Int)=some (t.kind,t.op,t.text,t.other,eU true t.kids):=
 M.WW (arA hl t t.size b h (Nat.le_refl _))
def arB{t:Tn}{o:Bool}(hl:t.size<=1048576):M.vM (bV o (t.flat 0))=some (t.kind,t.op,t.text,t.other,eU true t.kids):=by have hs:=t.uq;simp only[M.vM,M.J6,iT,t.flat_length];have h:=anR (o:=o) (by rw[t.flat_length];omega) (Lies.whole t);rw[Nat.zero_add] at h;rw[aG au au,show(t.size:Int) - 1=((sizes t.kids:Nat):Int) by omega,h,ah]
def awc(t:Tn)(h:t.size<=90000000):M.uY t.kind t.op t.text (nK false t.kids) 0=some (dh true (t.flat 0)):=by have h1:=aUa t t.size false [] (Nat.le_refl _) (by simp only[um];omega);have e0:dh true []=[]:=rfl;rw[e0,List.nil_append,um] at h1;simp only[M.uY,M.Le,M.adL h1,ah]
def last_at{T:Tn}(hT:T.size<=1048576):i64.wrap (((T.flat 0).length:Int) - 1)=((0+sizes T.kids:Nat):Int):=by have:=T.uq;rw[T.flat_length,aG au au];omega
structure Pr(T:Tn):Prop where
 ok:Fb T
 k:T.kind=45
 sm:Tf T
 sz:T.size<=1048576
def Pr.its{T:Tn}(h:Pr T):∀u,u∈T.kids->It u:=aDG h.ok h.k h.sm h.sz
def agO{T:Tn}(h:Pr T):(U1 T).size<=42000000:=by have h1:=ac6 h.its;have h2:=T.uq;have h3:=h.sz;rw[U1,oL];omega
def aDN{T:Tn}(h:Pr T):M.EZ (eU false T.kids) (T.kids.length:Int) (0,[])=some ((T.kids.length:Int),nK false (F7 T.kids)):=by
 have hks:=T.uq;have hz:=h.sz;obtain⟨ks,hk⟩:∃ks,T.kids=ks:=⟨_,rfl⟩
 have its:=h.its;rw[hk] at its hks⊢;have hkl:=jq ks;exact jh (b:=M.AU (eU false ks) (ks.length:Int)) (t:=((ks.length:Int),nK false (F7 ks))) (λj=>((j:Int),nK false (F7 (ks.take j)))) ks.length
  (by
   intro j hj;obtain⟨u,hu'⟩:∃u,ks[j]? =some u:=⟨ks[j],by simp[hj]⟩
   obtain⟨c0,c1,c2,c3,c4⟩:=jP false u;have hu:=its u (BX hu');have h1:=aDF hu.ok hu.i hu.sm hu.sz false;have hl:=ZG (ks.take j);rw[Ui] at hl;have hw:i64.wrap ((j:Int)+1)=((j+1:Nat):Int):=by rw[aG au au];omega
   simp only[jm,M.AU,M.vW,DN false hu',c0,c1,c2,c3,c4,ah,ao1,h1,JC,JD,JE,JF,JG,JH,fD,xM,mV,um,hw];rw[zdt au,aS,aX au,aS,aX au,aS,gW hu',XB,Fa];rfl)
  (by simp only[jm,M.AU,M.vW];rw[qw au,bG,List.take_length]) 0 (Nat.zero_le _)
def aDO{T:Tn}(h:Pr T):M.EY (bV false (T.flat 0)) (bV false (T.flat 0)) false (0,[])=some ((T.kids.length:Int),(F7 T.kids).map XE):=by
 have hks:=T.uq;have hz:=h.sz;have hr:=SY (o:=false) (Lies.whole T);have hen:((bV false (T.flat 0)).length:Int)=((T.flat 0).length:Int):=by rw[iT]
 have hla:=last_at hz;have its:=h.its;have hat:At (T.flat 0) 0 T.kids:=by obtain⟨k,op,x,y,ks⟩:=T;exact λj u hj=>Lies.Pv (Lies.whole _) hj
 have hfl:(T.flat 0).length<=1048576:=by rw[T.flat_length];exact hz
 obtain⟨ks,hk⟩:∃ks,T.kids=ks:=⟨_,rfl⟩
 rw[hk] at its hks hla hr hat⊢;have hkl:=jq ks;have hel:(encI (ends ks 0)).length=ks.length:=by rw[aZ,eu]
 exact jh (b:=M.AP (bV false (T.flat 0)) (bV false (T.flat 0)) false) (t:=((ks.length:Int),(F7 ks).map XE)) (λj=>((j:Int),(F7 (ks.take j)).map XE)) ks.length
  (by
   intro j hj;obtain⟨u,hu'⟩:∃u,ks[j]? =some u:=⟨ks[j],by simp[hj]⟩
   have hi:=lH (b:=0) hu';have h1:=aDM (o:=false) hfl (its u (BX hu')) (hat j u hu');have hl:=ZG (ks.take j);rw[Ui] at hl;have hw:i64.wrap ((j:Int)+1)=((j+1:Nat):Int):=by rw[aG au au];omega
   simp only[jm,M.AP,M.vV,hen,hla,hr,Hl,hel,hi,JW,h1,ao3,ah,List.length_map,mV,um,hw];rw[zdt au,aS,aX au,aS,aX au,aS,gW hu',XB,List.map_append];rfl)
  (by simp only[jm,M.AP,M.vV,hen,hla,hr,Hl,hel,ah];rw[qw au,bG,List.take_length]) 0 (Nat.zero_le _)
def ahw{l:List Nd}(h:Ok l):(M.nS (bV false l)=some (dh true [])∧M.nT (bV false l)=some (dh true []))∨∃T,Pr T∧M.nS (bV false l)=some (dE (U1 T))∧M.nT (bV false l)=some (dE (U1 T)):=by
 have a1:=af9 l false (by have:=h.len;omega) h.k h.sm;have a2:=aga l false (by have:=h.len;omega) h.k h.sm;simp only[M.nS,M.GR,M.nT,M.GV,M.y8,M.Jr,M.y9,M.Js,a1,a2,ah];cases pa:VE l with
 |false=>exact .inl ⟨rfl,rfl⟩
 |true=>
  obtain⟨T,rfl,hTs⟩:=aoG (aj9 pa);have hT:T.size<=1048576:=by have:=h.len;rwa [T.flat_length] at this
  have hok:=aoV pa h.sm;have hsm:=(aqa T 0).2 h.sm;have hr:=SY (o:=false) (Lies.whole T);have hen:((bV false (T.flat 0)).length:Int)=((T.flat 0).length:Int):=by rw[iT]
  have hb:=arB (t:=T) (o:=false) hT;simp only[aS,hen,last_at hT,hr,ah,JB]
  by_cases hk:T.kind=45
  ·have hP:Pr T:=⟨hok,hk,hsm,hT⟩
   have e1:(T.kind==45)=true:=by rw[hk];rfl
   have hs:=agO hP;have h1:=aDN hP;have h2:=aDO hP;have h3:=awc (U1 T) au;have hz:sizes (F7 T.kids)<=90000000:=by rw[U1,oL] at hs;omega
   refine .inr ⟨T,hP, ?_, ?_⟩
   ·simp only[e1,Bool.not_true,bG,h2,ah,Qs,uh _ hz,nD,aS];rfl
   ·simp only[e1,Bool.not_true,bG,hb,afk,fV,h1,ah,anK,JC,JD,JE,JF,JG,JH];exact(by rw[h3];rfl:(M.uY (U1 T).kind (U1 T).op (U1 T).text (nK false (U1 T).kids) 0).bind (λr=>some r)=some (dE (U1 T)))
  ·have e1:(T.kind==45)=false:=by rw[MJ];exact hk
   simp only[e1];exact .inl ⟨rfl,rfl⟩
def VQ(k n:Int)(x:aC)(c:Nat):Bool:=
 bif(!(k==4) && !(n==0))||(!(k==1) && !(x==[])) then false else
 bif k==1 then !(hasB 10 x) && Nat.beq c 0 else bif k==2||k==3 then Nat.beq c 0 else bif k==4 then(decide (0<=n) && decide (n<=40)) && Nat.beq c 1 else
 bif k==5 then Nat.beq c 1 else k==6
mutual
def dOk:Tn->Bool
 | .mk k n x _ ks=>anS ks && VQ k n x ks.length
def anS:List Tn->Bool
 |[]=>true
 |t::ts=>(dOk t) && anS ts
end
mutual
def BR:Tn->Option (aC)
 | .mk k _ x _ ks=>bif k==1 then some x else bif k==2 then some [32] else bif k==3 then none else zq ks
def zq:List Tn->Option (aC)
 |[]=>some []
 |t::ts=>match(BR t) with
  |none=>none
  |some a=>match zq ts with
   |none=>none
   |some b=>some (a++b)
end
mutual
def bh:Tn->Nat×Bool
 | .mk k _ x _ ks=>bif k==2||k==3 then(0,true) else((bif k==1 then x.length else 0)+(S9 ks).1,(S9 ks).2)
def S9:List Tn->Nat×Bool
 |[]=>(0,false)
 |t::ts=>bif(bh t).2 then(bh t) else((bh t).1+(S9 ts).1,(S9 ts).2)
end
abbrev Pc:=Tn×Int×Bool
def agP(w col:Int)(t:Tn)(st:List Pc):Bool:=match(BR t) with
 |some s=>decide ((s.length:Int)+(S9 (st.map (·.1))).1<=w - col)
 |none=>false
def brk(out:aC)(i:Int):aC:=out++(10::List.replicate i.toNat 32)
def lay(w:Int):Nat->List Pc->aC->Int->aC
 |0,_,out,_=>out
 |_+1,[],out,_=>out
 |n+1,(.mk k m x y ks,i,f)::st,out,col=>
  bif k==1 then lay w n st (out++x) (col+x.length) else
  bif k==2 && f then lay w n st (out++[32]) (col+1) else
  bif k==2||k==3 then lay w n st (brk out i) i else
  bif k==4 then lay w n (ks.map (λt=>(t,i+m,f))++st) out col else
  bif k==5 then lay w n (ks.map (λt=>(t,i,f||agP w col (.mk k m x y ks) st))++st) out col else
  lay w n (ks.map (λt=>(t,i,f))++st) out col
def render(t:Tn)(w:Int):Option (aC):=bif(Nat.ble t.size 4000 &&(dOk t)) &&(decide (0<=w) && decide (w<=10000)) then some (lay w t.size [(t,0,false)] [] 0) else none
def len_eq(n c:Nat):((n:Int)==(c:Int))=Nat.beq n c:=by rw[Bool.eq_iff_iff,beq_iff_eq,Nat.beq_eq];omega
def az5(n:Nat):((n:Int)==0)=Nat.beq n 0:=len_eq n 0
def az6(n:Nat):((n:Int)==1)=Nat.beq n 1:=len_eq n 1
def aaW{P:Int->Prop}(h1:P 1)(h2:P 2)(h3:P 3)(h4:P 4)(h5:P 5)(h6:P 6)(h:∀k,k≠1->k≠2->k≠3->k≠4->k≠5->k≠6->P k)(k:Int):P k:=by
 by_cases e1:k=1
 ·rwa [e1]
 by_cases e2:k=2
 ·rwa [e2]
 by_cases e3:k=3
 ·rwa [e3]
 by_cases e4:k=4
 ·rwa [e4]
 by_cases e5:k=5
 ·rwa [e5]
 by_cases e6:k=6
 ·rwa [e6]
 exact h k e1 e2 e3 e4 e5 e6
def aaX(k n:Int)(x:aC)(rows:aA):M.vT k n x rows=some (VQ k n x rows.length):=by
 simp only[M.vT,M.Jm,M.strings_Contains,aiz,ah,OB,VQ,az5,az6];generalize hasB 10 x=hb;generalize (x==[])=xe;generalize Nat.beq rows.length 0=c0;generalize Nat.beq rows.length 1=c1;generalize (decide (0<=n) && decide (n<=40))=r
 by_cases hn:n=0
 ·subst hn;revert k;refine aaW ?_ ?_ ?_ ?_ ?_ ?_ (λk e1 e2 e3 e4 e5 e6=> ?_)
  case refine_7=>rw[<-bne_iff_ne] at e1 e4;simp only[MJ.2 e2,MJ.2 e3,MJ.2 e5,MJ.2 e6,e1,e4,MJ.2 (bne_iff_ne.1 e1),MJ.2 (bne_iff_ne.1 e4)];cases xe<;>rfl
  all_goals cases xe<;>cases hb<;>cases r<;>rfl
 ·have hn':(n==0)=false:=MJ.2 hn;have hn2:(n !=0)=true:=bne_iff_ne.2 hn;revert k;refine aaW ?_ ?_ ?_ ?_ ?_ ?_ (λk e1 e2 e3 e4 e5 e6=> ?_)
  case refine_7=>rw[<-bne_iff_ne] at e1 e4;simp only[hn',hn2,MJ.2 e2,MJ.2 e3,MJ.2 e5,MJ.2 e6,e1,e4,MJ.2 (bne_iff_ne.1 e1),MJ.2 (bne_iff_ne.1 e4)];cases xe<;>rfl
  all_goals simp only[hn',hn2];cases xe<;>cases hb<;>cases r<;>rfl
def adP(k n:Int)(x:aC)(rows:aA)(hx:x.length<=1000000000):M.Az k n x rows=some (VQ k n x rows.length):=by
 simp only[M.Az,M.Oc,ano x hx,ah,OA,VQ,az5,az6];generalize hasB 10 x=hb;generalize (x==[])=xe;generalize Nat.beq rows.length 0=c0;generalize Nat.beq rows.length 1=c1;generalize (decide (0<=n) && decide (n<=40))=r
 by_cases hn:n=0
 ·subst hn;revert k;refine aaW ?_ ?_ ?_ ?_ ?_ ?_ (λk e1 e2 e3 e4 e5 e6=> ?_)
  case refine_7=>rw[<-bne_iff_ne] at e1 e4;simp only[MJ.2 e2,MJ.2 e3,MJ.2 e5,MJ.2 e6,e1,e4,MJ.2 (bne_iff_ne.1 e1),MJ.2 (bne_iff_ne.1 e4)];cases xe<;>rfl
  all_goals cases xe<;>cases hb<;>cases r<;>rfl
 ·have hn':(n==0)=false:=MJ.2 hn;have hn2:(n !=0)=true:=bne_iff_ne.2 hn;revert k;refine aaW ?_ ?_ ?_ ?_ ?_ ?_ (λk e1 e2 e3 e4 e5 e6=> ?_)
  case refine_7=>rw[<-bne_iff_ne] at e1 e4;simp only[hn',hn2,MJ.2 e2,MJ.2 e3,MJ.2 e5,MJ.2 e6,e1,e4,MJ.2 (bne_iff_ne.1 e1),MJ.2 (bne_iff_ne.1 e4)];cases xe<;>rfl
  all_goals simp only[hn',hn2];cases xe<;>cases hb<;>cases r<;>rfl
def XF(l:List Nd)(o:Bool){i:Nat}{n:Nd}{st:List Int}(hi:l[i]? =some n)(hl:l.length<=90000000)(hst:V7 st)(hs:st.length=i):
  ∀(j:Nat) (a:Int),j<=n.kids.length->n.kids.length<=90000000->0<=a->a<=i->M.rX (dh o l) (i:Int) (encI st) (a,(j:Int) - 1)=some (match dR st (n.kids.take j).reverse (a - 1) with
   |none=> .inl ()
   |some r=> .inr (r+1, -1))
 |0,a,hj,hk,h0,h1=>by rw[M.rX];apply bC;simp only[M.Ci,M.xq];rw[qw au,bG,List.take_zero,List.reverse_nil,dR];simp
 |j+1,a,hj,hkl,h0,h1=>by
  have hlt:i<l.length:=(MG.1 hi).1;obtain⟨k,hk⟩:∃k,n.kids[j]? =some k:=⟨n.kids[j]'au,by simp⟩
  have ht:(n.kids.take (j+1)).reverse=k::(n.kids.take j).reverse:=by rw[List.take_add_one,hk,Option.toList_some,List.reverse_append];rfl
  rw[ht,dR];have e1:(((j+1:Nat):Int) - 1)=(j:Int):=au;rw[e1];have hstep:M.Ci (dh o l) (i:Int) (encI st) (a,(j:Int))=if a - 1<0∨k≠a - 1 then some (.inr (.inl ())) else some (.inl (st[k.toNat]?.getD 0,(j:Int) - 1)):=by
   simp only[M.Ci,M.xq,bJ,uM,hi,OJ,ah,cD3,lK,hk,JW];rw[zdt au,aS,aG (n:=a - 1) au au]
   by_cases h2:k=a - 1
   ·have:(k !=a - 1)=false:=by simp[h2]
    rw[this,bG]
    by_cases h3:a=0
    ·have:(a==0)=true:=by simp[h3]
     rw[this,aS,if_pos (.inl au)]
    ·have:(a==0)=false:=by simp[h3]
     rw[this,bG,if_neg au];obtain⟨d,hd⟩:∃d:Nat,a - 1=(d:Int):=⟨(a - 1).toNat,au⟩
     have hdl:d<st.length:=au;rw[h2,hd];simp only[afc,bJ,lK,Uj];rw[List.getElem?_eq_getElem hdl];simp only[OJ,ah,JW,Option.getD_some];rw[aG au au]
   ·have:(k !=a - 1)=true:=by simp[h2]
    rw[this,aS,if_pos (.inr h2)]
  by_cases hc:a - 1<0∨k≠a - 1
  ·rw[if_pos hc];rw[if_pos hc] at hstep;exact bC hstep
  ·rw[if_neg hc];rw[if_neg hc] at hstep;rw[M.rX,dJ hstep];have hz:=MW hst k.toNat;have:=XF l o hi hl hst hs j (st[k.toNat]?.getD 0) au hkl hz.1 au;rw[M.rX] at this;exact this
def V4(l:List Nd)(o:Bool)(hl:l.length<=90000000)(hk:∀n,n∈l->n.kids.length<=90000000):∀(rest:List Nd) (i:Nat) (st:List Int),l.drop i=rest->st.length=i->i<=l.length->V7 st->
  M.rY (dh o l) ((i:Int),encI st)=some (match fJ st (ks rest) with
   |none=> .inl ()
   |some r=> .inr ((l.length:Int),encI r))
 |[],i,st,hd,hs,hi,hst=>by have:l.length<=i:=List.drop_eq_nil_iff.1 hd;rw[M.rY];apply bC;simp only[jm,M.Cj,M.xu,jg];rw[qw au,bG];have:i=l.length:=au;subst this;rfl
 |n::rest,i,st,hd,hs,hi,hst=>by
  have hn:l[i]? =some n:=by
   have:(l.drop i)[0]? =some n:=by rw[hd];rfl
   simpa using this
  have hlt:i<l.length:=(MG.1 hn).1;have hd':l.drop (i+1)=rest:=by rw[<-List.drop_drop,hd];rfl
  have hkn:=hk n (BX hn);have hin:=XF l o hn hl hst hs n.kids.length (i:Int) (Nat.le_refl _) hkn au au;rw[List.take_length] at hin;have hks:ks (n::rest)=n.kids::ks rest:=rfl;rw[hks,fJ,hs];have hstep:M.Cj (dh o l) ((i:Int),encI st)=some (match dR st n.kids.reverse ((i:Int) - 1) with
    |none=> .inr (.inl ())
    |some a=> .inl (((i+1:Nat):Int),encI (st++[a+1]))):=by
   simp only[jm,M.Cj,M.xu,jg,bJ,uM,hn,OJ,ah,cD3,aZ];rw[zdt au,aS,aG (n:=(n.kids.length:Int) - 1) au au,hin];cases hw:dR st n.kids.reverse ((i:Int) - 1) with
   |none=>rfl
   |some a=>simp only[ah,ql,letE,J9];rw[aX au,aS,aX au,aS,aG au au];simp[encI]
  cases hw:dR st n.kids.reverse ((i:Int) - 1) with
  |none=>rw[hw] at hstep;exact bC hstep
  |some a=>rw[hw] at hstep;rw[M.rY,dJ hstep];have hr:=Bj hst _ _ _ au au hw;have:=V4 l o hl hk rest (i+1) (st++[a+1]) hd' (by simp[hs]) hlt (RG hst hr.1 hr.2);rw[M.rY] at this;exact this
def arC(st:List Int)(m i:Nat)(h:i<st.length):(st++List.replicate m 0)[i]? =some (st[i]?.getD 0):=by rw[List.getElem?_append_left h,List.getElem?_eq_getElem h];rfl
def XG(v0 v1:aA)(v2 v3:Int)(k1 k2:Int)(x:aC){kids st:List Int}(m:Nat)(hk:kids.length<=90000000)(hl:st.length<=90000000)(hst:V7 st):
  ∀(j:Nat) (a:Int),j<=kids.length-> -1<=a->a<st.length->M.rZ v0 v2 v1 v3 v2 (encI (st++List.replicate m 0)) k1 k2 x (encI kids) (a,(j:Int) - 1)=some (match dR st (kids.take j).reverse a with
   |none=> .inl ()
   |some r=> .inr (r, -1))
 |0,a,hj,h0,h1=>by rw[M.rZ];apply bC;simp only[M.Cm,M.xw];rw[qw au,bG,List.take_zero,List.reverse_nil,dR];simp
 |j+1,a,hj,h0,h1=>by
  obtain⟨k,hkj⟩:∃k,kids[j]? =some k:=⟨kids[j]'au,by simp⟩
  have ht:(kids.take (j+1)).reverse=k::(kids.take j).reverse:=by rw[List.take_add_one,hkj,Option.toList_some,List.reverse_append];rfl
  rw[ht,dR];have e1:(((j+1:Nat):Int) - 1)=(j:Int):=au;rw[e1];have hstep:M.Cm v0 v2 v1 v3 v2 (encI (st++List.replicate m 0)) k1 k2 x (encI kids) (a,(j:Int))=if a<0∨k≠a then some (.inr (.inl ())) else some (.inl (st[k.toNat]?.getD 0 - 1,(j:Int) - 1)):=by
   simp only[M.Cm,M.xw];rw[zdt au,aS]
   by_cases ha:a<0
   ·rw[zdt ha,aS,if_pos (.inl ha)]
   ·rw[qw ha,bG];simp only[bJ,lK,hkj,OJ,ah,JW]
    by_cases h2:k=a
    ·have:(k !=a)=false:=by simp[h2]
     obtain⟨d,rfl⟩:∃d:Nat,a=(d:Int):=⟨a.toNat,au⟩
     rw[this,bG,if_neg au];have hz:=MW hst d;simp only[bJ,Uj,lK,arC st m d au,OJ,ah,JW];rw[aG au au,aG au au,h2,Uj]
    ·have:(k !=a)=true:=by simp[h2]
     rw[this,aS,if_pos (.inr h2)]
  by_cases hc:a<0∨k≠a
  ·rw[if_pos hc];rw[if_pos hc] at hstep;exact bC hstep
  ·rw[if_neg hc];rw[if_neg hc] at hstep;rw[M.rZ,dJ hstep];have hz:=MW hst k.toNat;have:=XG v0 v1 v2 v3 k1 k2 x m hk hl hst j (st[k.toNat]?.getD 0 - 1) au au au;rw[M.rZ] at this;exact this
def V5(l:List Nd)(o:Bool)(hl:l.length<=90000000)(hk:∀n,n∈l->n.kids.length<=90000000):∀(rest:List Nd) (i:Nat) (st:List Int),l.drop i=rest->st.length=i->i<=l.length->V7 st->
  M.su (dh o l) (dh o l) (l.length:Int) ((i:Int),encI (st++List.replicate (l.length - i) 0))=some (match fJ st (ks rest) with
   |none=> .inl ()
   |some r=> .inr ((l.length:Int),encI r))
 |[],i,st,hd,hs,hi,hst=>by have:l.length<=i:=List.drop_eq_nil_iff.1 hd;rw[M.su];apply bC;simp only[M.CB,M.xA];rw[qw au,bG];have:i=l.length:=au;subst this;rw[Nat.sub_self,List.replicate_zero,List.append_nil];rfl
 |n::rest,i,st,hd,hs,hi,hst=>by
  have hn:l[i]? =some n:=by
   have:(l.drop i)[0]? =some n:=by rw[hd];rfl
   simpa using this
  have hlt:i<l.length:=(MG.1 hn).1;have hd':l.drop (i+1)=rest:=by rw[<-List.drop_drop,hd];rfl
  have hkn:=hk n (BX hn);have hin:=XG (dh o l) (dh o l) (i:Int) (l.length:Int) n.kind n.op n.text (kids:=n.kids) (l.length - i) hkn au hst n.kids.length ((i:Int) - 1) (Nat.le_refl _) au au;rw[List.take_length] at hin;have hks:ks (n::rest)=n.kids::ks rest:=rfl;rw[hks,fJ,hs];have hstep:M.CB (dh o l) (dh o l) (l.length:Int) ((i:Int),encI (st++List.replicate (l.length - i) 0))=some (match dR st n.kids.reverse ((i:Int) - 1) with
    |none=> .inr (.inl ())
    |some a=> .inl (((i+1:Nat):Int),encI ((st++[a+1])++List.replicate (l.length - (i+1)) 0))):=by
   simp only[M.CB,M.xA,bJ,uM,hn,OJ,ah,cD0,cD1,cD2,cD3,aZ];rw[zdt au,aS,aG (n:=(n.kids.length:Int) - 1) au au,aG (n:=(i:Int) - 1) au au,hin];cases hw:dR st n.kids.reverse ((i:Int) - 1) with
   |none=>rfl
   |some a=>
    have hr:=Bj hst _ _ _ au au hw;have hg:(encI (st++List.replicate (l.length - i) 0))[i]? =some [D.int .i64 0]:=by rw[lK,List.getElem?_append_right au,hs,Nat.sub_self,List.getElem?_replicate,if_pos au];rfl
    have hsp:splice [D.int .i64 0] 0 [D.int .i64 (i64.wrap (a+1))]=[D.int .i64 (a+1)]:=by rw[aG au au];rfl
    simp only[ah,ql,letE,Uj,hg,hsp];rw[aG au au,asQ,List.set_append_right i (a+1) au,hs,Nat.sub_self];obtain⟨q,hq⟩:∃q,l.length - i=q+1:=⟨l.length - i - 1,au⟩
    rw[hq,List.replicate_succ,List.set_cons_zero,show l.length - (i+1)=q by omega,BO,List.singleton_append];rfl
  cases hw:dR st n.kids.reverse ((i:Int) - 1) with
  |none=>rw[hw] at hstep;exact bC hstep
  |some a=>rw[hw] at hstep;rw[M.su,dJ hstep];have hr:=Bj hst _ _ _ au au hw;have:=V5 l o hl hk rest (i+1) (st++[a+1]) hd' (by simp[hs]) hlt (RG hst hr.1 hr.2);rw[M.su] at this;exact this
end Go.Proofs.YtbpldgeajbfgnaaGreatDoor
