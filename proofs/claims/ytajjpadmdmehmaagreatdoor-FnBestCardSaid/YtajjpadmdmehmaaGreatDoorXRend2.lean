import Derived.Test.YtajjpadmdmehmaaGreatDoorXSpec3
import Derived.Test.YtajjpadmdmehmaaGreatDoorP46Tok
import Derived.Test.YtajjpadmdmehmaaGreatDoorXTok2
set_option linter.defProp false
namespace Go.Proofs.YtajjpadmdmehmaaGreatDoor
set_option linter.unusedVariables false
set_option linter.unusedSimpArgs false
open Go Go.Vm
open Go.IntKind (i64)
def ahm{k op:Int}{ks:List Tn}{p:Ps}(hp:nV p=true)(h:(lvl k op=15)\/(k=13/\Nat.blt 1 ks.length=true/\lvl k op≠0))(ht:∀j,qL k j=false):jM k op ks.length p ks 0=KH ks:=by
 refine akb ht (λj hj=> ?_) ks 0 ak;rcases h with h|⟨h1,h2,h3⟩
 ·exact KF hp hj h
 ·have hb:Nat.blt j ks.length=true:=by rw[Nat.blt_eq];exact hj
  have h4:(lvl k op==0)=false:=by simpa using h3
  subst h1;unfold dQ;rw[hp,hb,h4,h2];simp
def ahn(k:Int)(x:aC):([[D.int .i64 k,D.str x,D.int .i64 0]]:au)=iP [⟨k,x,0⟩]:=rfl
def arN(x:aC):([[D.int .i64 24,D.str (spell 24),D.int .i64 0],[D.int .i64 6,D.str x,D.int .i64 0]]:au)=iP [tok 24,⟨6,x,0⟩]:=rfl
set_option maxHeartbeats 2000000 in
def aww(t:Tn):I8 t->Zv t->t.size<=1048576->PS t:=by
 refine Tn.ind (P:=λt=>I8 t->Zv t->t.size<=1048576->PS t) ?_ t;intro k op x y ks ih hok he hsz;intro o f p l b hl h hf hp;have a6E:=h;simp only[Zv,Tn.kind] at he;have hc:=SX hok;have hsz':sizes ks+1=(Tn.mk k op x y ks).size:=by rw[Tn.size]
 have ih':∀u,u∈ks->PS u:=by intro u hu;obtain⟨i,hi⟩:=List.mem_iff_getElem?.1 hu;obtain⟨h1,h2⟩:=adQ hok he hi;have:=iO hu;exact ih u hu h2 h1 ak
 have hat:At l b ks:=λj u hj=>Lies.SQ h hj
 obtain⟨g,rfl⟩:∃g,f=g+1:=⟨f - 1,ak⟩
 have hr:idx (aZ o l) ((b+sizes ks:Nat):Int)=some (XY o ⟨k,op,x,y,ends ks b⟩):=by have hr0:l[b+sizes ks]? =some ⟨k,op,x,y,ends ks b⟩:=Lies.root' h;rw[bC,ql,hr0];rfl
 have hkl:=jC ks;have tgt:∀{u:Tn},ks[0]? =some u->cls k op ks.length 0=6->I8 u/\Zv u/\13<=lvl u.kind u.op:=by intro u hu hcls;obtain⟨h1,h2⟩:=adQ hok he hu;obtain⟨h3,_⟩:=Pq hok hu;rw[hcls] at h3;exact⟨h2,h1,(anX h3).1⟩
 rw[M.aiH,Tn.kids];have hk:k=1\/k=2\/k=3\/k=4\/k=5\/k=7\/k=8\/k=6\/k=9\/k=10\/k=11\/k=13\/k=15\/k=12\/k=14:=ak;rw[xP];rcases hk with rfl|rfl|rfl|rfl|rfl|rfl|rfl|rfl|rfl|rfl|rfl|rfl|rfl|rfl|rfl
 ·simp only[jI,M.ig,M.gI,hr,ah,NJ,PG,Pn,PI,JM,M.dw,M.bY,Int.reduceBEq,Int.reduceBNe,aK,bn,ahn];rfl
 ·simp only[jI,M.ig,M.gI,hr,ah,NJ,PG,Pn,PI,JM,M.dw,M.bY,Int.reduceBEq,Int.reduceBNe,aK,bn,ahn];rfl
 ·simp only[jI,M.ig,M.gI,hr,ah,NJ,PG,Pn,PI,JM,M.dw,M.bY,Int.reduceBEq,Int.reduceBNe,aK,bn,ahn];rfl
 ·simp only[jI,M.ig,M.gI,hr,ah,NJ,PG,Pn,PI,JM,M.dw,M.bY,Int.reduceBEq,Int.reduceBNe,aK,bn,ahn];rfl
 ·have a1:=an5 ih' (o:=o) (f:=g) (b:=b) hl hat ak ak 6 x 34 (.inr rfl);rw[ahm hp (.inl rfl) (λj=>by simp[qL])];simp only[jI,M.ig,M.gI,hr,ah,NJ,PG,Pn,PI,JM,M.dw,M.bY,Int.reduceBEq,Int.reduceBNe,aK,bn,a1,dF];rfl
 ·have a1:=an5 ih' (o:=o) (f:=g) (b:=b) hl hat ak ak 7 x 32 (.inl rfl);rw[ahm hp (.inl rfl) (λj=>by simp[qL])];simp only[jI,M.ig,M.gI,hr,ah,NJ,PG,Pn,PI,JM,M.dw,M.bY,Int.reduceBEq,Int.reduceBNe,aK,bn,a1,dF];rfl
 ·have a1:=an5 ih' (o:=o) (f:=g) (b:=b) hl hat ak ak 8 x 32 (.inl rfl);rw[ahm hp (.inl rfl) (λj=>by simp[qL])];simp only[jI,M.ig,M.gI,hr,ah,NJ,PG,Pn,PI,JM,M.dw,M.bY,Int.reduceBEq,Int.reduceBNe,aK,bn,a1,dF];rfl
 ·obtain⟨u,rfl⟩:=zlo.1 (hc.one ak);have hs1:=sz1 u;have e1:=(nD 68 (by constructor<;>decide)).2;obtain⟨⟨a1,a2,a3⟩,a4⟩:=abA ih' (o:=o) (f:=g) (b:=b) (k:=6) (op:=op) (x:=x) (y:=y) (p:=p) (j:=0) (u:=u) ak hc hp hl hat ak ak rfl (aaC 6 ak 0);rw[oQ] at a1 a2;rw[U0];generalize (dQ 6 op [u].length 0 p).FQ=q0 at a2 a3;generalize wI 6 op [u].length p 0 u=K0 at a3 a4|-;simp(disch:=omega) only[jI,M.ig,M.gI,hr,ah,NJ,PG,Pn,PI,JM,M.dw,M.bY,Int.reduceBEq,Int.reduceBNe,aK,bn,a1,a2,a3,e1,KT,yT,<-nO,eU,qK,IU,nS,uM,room,RI,dF];simp[JL,Dl]
 ·obtain⟨u,rfl⟩:=zlo.1 (hc.one ak);have hs1:=sz1 u;have e1:=(nD op (by rcases hc.stp ak with rfl|rfl<;>constructor<;>decide)).2;have a1:=mJ (ks:=[u]) (b:=b) (j:=0) (u:=u) rfl;obtain⟨t1,t2,t3⟩:=tgt (u:=u) rfl (by simp[cls]);have a3:=akc (ih' u (by simp)) t1 t2 t3 (o:=o) (f:=g) (p:=dQ 9 op [u].length 0 p) hl (hat 0 u rfl) (by rw[sz1] at hsz';omega) (xQ hp (by simp) (by simp[lvl]));have a4:=rH u (dQ 9 op [u].length 0 p);rw[sz1] at hsz';rw[oQ] at a1;rw[U0,wI,show qL 9 0=true from rfl,Bool.true_or,aK];generalize xP u (dQ 9 op [u].length 0 p)=K0 at a3 a4|-;simp(disch:=omega) only[jI,M.ig,M.gI,hr,ah,NJ,PG,Pn,PI,JM,M.dw,M.bY,Int.reduceBEq,Int.reduceBNe,aK,bn,a1,a3,e1,KT,yT,<-nO,eU,qK,IU,nS,uM,room,RI,dF];simp[JL,Dl]
 ·obtain⟨u,rfl⟩:=zlo.1 (hc.one ak);have hs1:=sz1 u;have e1:=(nD op (by rcases hc.stp ak with rfl|rfl<;>constructor<;>decide)).2;have a1:=mJ (ks:=[u]) (b:=b) (j:=0) (u:=u) rfl;obtain⟨t1,t2,t3⟩:=tgt (u:=u) rfl (by simp[cls]);have a3:=akc (ih' u (by simp)) t1 t2 t3 (o:=o) (f:=g) (p:=dQ 10 op [u].length 0 p) hl (hat 0 u rfl) (by rw[sz1] at hsz';omega) (xQ hp (by simp) (by simp[lvl]));have a4:=rH u (dQ 10 op [u].length 0 p);rw[sz1] at hsz';rw[oQ] at a1;rw[U0,wI,show qL 10 0=true from rfl,Bool.true_or,aK];generalize xP u (dQ 10 op [u].length 0 p)=K0 at a3 a4|-;simp(disch:=omega) only[jI,M.ig,M.gI,hr,ah,NJ,PG,Pn,PI,JM,M.dw,M.bY,Int.reduceBEq,Int.reduceBNe,aK,bn,a1,a3,e1,KT,yT,<-nO,eU,qK,IU,nS,uM,room,RI,dF];simp[JL,Dl]
 ·obtain⟨u,rfl⟩:=zlo.1 (hc.one ak);have hs1:=sz1 u;have e1:=(nD op (by rcases hc.una ak with rfl|rfl|rfl<;>constructor<;>decide)).2;obtain⟨⟨a1,a2,a3⟩,a4⟩:=abA ih' (o:=o) (f:=g) (b:=b) (k:=11) (op:=op) (x:=x) (y:=y) (p:=p) (j:=0) (u:=u) ak hc hp hl hat ak ak rfl (aaC 11 ak 0);rw[oQ] at a1 a2;rw[U0];generalize (dQ 11 op [u].length 0 p).FQ=q0 at a2 a3;generalize wI 11 op [u].length p 0 u=K0 at a3 a4|-;simp(disch:=omega) only[jI,M.ig,M.gI,hr,ah,NJ,PG,Pn,PI,JM,M.dw,M.bY,Int.reduceBEq,Int.reduceBNe,aK,bn,a1,a2,a3,e1,KT,yT,<-nO,eU,qK,IU,nS,uM,room,RI,dF];simp[JL,Dl]
 ·have e1:=(nD 24 (by constructor<;>decide)).2;have e2:=(nD 32 (by constructor<;>decide)).2;have e3:=(nD 33 (by constructor<;>decide)).2;obtain⟨u,hu⟩:∃u,ks[0]? =some u:=by have:=hc.some_ ak;exact⟨ks[0],by simp⟩
  obtain⟨⟨a1,a2,a3⟩,a4⟩:=abA ih' (o:=o) (f:=g) (b:=b) (k:=13) (op:=op) (x:=x) (y:=y) (p:=p) (j:=0) (u:=u) ak hc hp hl hat ak ak hu (aaC 13 ak 0);have hus:=iO (En hu);rw[oQ] at a1 a2;have hel:(encI (ends ks b)).length=ks.length:=by rw[aV,eX]
  cases hm:Nat.blt 1 ks.length with
  |true=>have b1:=aAp ih' (o:=o) (f:=g) (b:=b) hl hat ak ak;have b2:=acH ks true;rw[ahm hp (.inr ⟨rfl,hm,by simp[lvl]⟩) (λj=>by simp[qL])];simp(disch:=omega) only[jI,M.ig,M.gI,hr,ah,NJ,PG,Pn,PI,JM,M.dw,M.bY,Int.reduceBEq,Int.reduceBNe,aK,bn,a1,a2,a3,b1,e1,e2,e3,KT,hel,many,hm,arN,yT 32,yT 33,<-nO,eU,qK,IU,nS,uM,room,RI,dF];simp[JL,hm]
  |false=>
   have h1:ks.length=1:=by
    have h2:=hc.some_ ak;have h3:¬1<ks.length:=by rw[<-Nat.blt_eq,hm];simp
    omega
   obtain⟨u',rfl⟩:=zlo.1 h1;obtain rfl:u'=u:=by simpa using hu
   rw[U0];generalize (dQ 13 op [u'].length 0 p).FQ=q0 at a2 a3;generalize wI 13 op [u'].length p 0 u'=K0 at a3 a4|-;simp(disch:=omega) only[jI,M.ig,M.gI,hr,ah,NJ,PG,Pn,PI,JM,M.dw,M.bY,Int.reduceBEq,Int.reduceBNe,aK,bn,a1,a2,a3,e1,e2,e3,KT,hel,many,hm,arN,<-nO,eU,qK,IU,nS,uM,room,RI,dF];simp[JL,Dl,show Nat.blt 1 1=false from rfl]
 ·obtain⟨u,v,rfl⟩:=Py (hc.two ak);have hsv:=sz2 u v;have e1:=(nD op (by rcases hc.asg rfl with rfl|h<;>constructor<;>omega)).2;have a1:=mJ (ks:=[u,v]) (b:=b) (j:=0) (u:=u) rfl;obtain⟨t1,t2,t3⟩:=tgt (u:=u) rfl (by simp[cls]);have a3:=akc (ih' u (by simp)) t1 t2 t3 (o:=o) (f:=g) (p:=dQ 15 op [u,v].length 0 p) hl (hat 0 u rfl) ak (xQ hp (by simp) (by simp[lvl]));have a4:=rH u (dQ 15 op [u,v].length 0 p);obtain⟨⟨b1,b2,b3⟩,b4⟩:=abA ih' (o:=o) (f:=g) (b:=b) (k:=15) (op:=op) (x:=x) (y:=y) (p:=p) (j:=1) (u:=v) ak hc hp hl hat ak ak rfl rfl;rw[oQ] at a1;rw[Y7] at b1 b2;have e98:(op==99)=false:=by rw[KL];have:=hc.asg rfl;omega
  rw[aau]
  conv=>rhs;rw[wI,show qL 15 0=true from rfl,Bool.true_or,aK]
  generalize xP u (dQ 15 op [u,v].length 0 p)=K0 at a3 a4|-;generalize (dQ 15 op [u,v].length 1 p).FQ=q1 at b2 b3;generalize wI 15 op [u,v].length p 1 v=K1 at b3 b4|-;simp(disch:=omega) only[jI,M.ig,M.gI,hr,ah,NJ,PG,Pn,PI,JM,M.dw,M.bY,Int.reduceBEq,Int.reduceBNe,aK,bn,a1,a3,b1,b2,b3,e1,KT,yT,<-nO,eU,qK,IU,nS,uM,room,RI,dF];simp[JL,Dl,e98]
 ·have a1:=au2 ih' (o:=o) (f:=g) (b:=b) (k:=12) (op:=op) (x:=x) (y:=y) (p:=p) (.inl rfl) hc hp hl hat ak ak;simp only[jI,M.ig,M.gI,hr,ah,NJ,PG,Pn,PI,JM,M.dw,M.bY,Int.reduceBEq,Int.reduceBNe,aK,bn,a1,dF]
 ·have a1:=au2 ih' (o:=o) (f:=g) (b:=b) (k:=14) (op:=op) (x:=x) (y:=y) (p:=p) (.inr rfl) hc hp hl hat ak ak;simp only[jI,M.ig,M.gI,hr,ah,NJ,PG,Pn,PI,JM,M.dw,M.bY,Int.reduceBEq,Int.reduceBNe,aK,bn,a1,dF]
def dE(t:Tn):au:=dD true (t.flat 0)
def aaD(t:Tn):Row:=[D.sl true 4 (dE t)]
def kH(s:aC):M.aH s=some (dE (mZ s)):=by simp[M.aH,M.Qy,dE,mZ,Tn.flat,jF,ends,dD,aeV,encI]
def aty:M.vY=some (dE Xh):=by simp[M.vY,M.QD,dE,Xh,Tn.flat,jF,ends,dD,aeV,encI]
def atz:M.qE=some (dE UG):=by simp[M.qE,M.Qz,dE,UG,Tn.flat,jF,ends,dD,aeV,encI]
def og(t:Tn):[[D.sl true 4 (dE t)]].all bg=true:=awp _
def Ur(L:List Tn):aG (L.map aaD)=uh L:=by
 induction L with
 |nil=>rfl
 |cons t L ih=>
  have h1:qm (aaD t)=[D.sl false 4 (dD false (t.flat 0))]:=by simp[aaD,qm,D.fz,dE]
  rw[RQ,aG,ih,h1];rfl
section
variable (a b c d e f g h:Tn)
def fz1:aG [[D.sl true 4 (dE a)]]=uh [a]:=Ur [a]
def fz2:aG [[D.sl true 4 (dE a)],[D.sl true 4 (dE b)]]=uh [a,b]:=Ur [a,b]
def fz3:aG [[D.sl true 4 (dE a)],[D.sl true 4 (dE b)],[D.sl true 4 (dE c)]]=uh [a,b,c]:=Ur [a,b,c]
def fz4:aG [[D.sl true 4 (dE a)],[D.sl true 4 (dE b)],[D.sl true 4 (dE c)],[D.sl true 4 (dE d)]]=uh [a,b,c,d]:=Ur [a,b,c,d]
def fz5:aG [[D.sl true 4 (dE a)],[D.sl true 4 (dE b)],[D.sl true 4 (dE c)],[D.sl true 4 (dE d)],[D.sl true 4 (dE e)]]=uh [a,b,c,d,e]:=Ur [a,b,c,d,e]
def fz8:aG [[D.sl true 4 (dE a)],[D.sl true 4 (dE b)],[D.sl true 4 (dE c)],[D.sl true 4 (dE d)],[D.sl true 4 (dE e)],[D.sl true 4 (dE f)],[D.sl true 4 (dE g)],[D.sl true 4 (dE h)]]=uh [a,b,c,d,e,f,g,h]:=Ur [a,b,c,d,e,f,g,h]
end
def uZ(ts:List Tn)(h:sizes ts<=90000000):M.aO 6 0 (uh ts)=some (dE (o9 ts)):=atq 6 0 ts h
def an6(t:Tn)(h:sizes [t]<=90000000):M.aO 4 4 (uh [t])=some (dE (Zm t)):=atq 4 4 [t] h
def aAq(t:Tn)(h:sizes [t]<=90000000):M.aO 5 0 (uh [t])=some (dE (arB t)):=atq 5 0 [t] h
def arO(p:Ps):∀ks:List Tn,sizes (psD p ks)+3 * ks.length<=16 * sizes ks
 |[]=>by simp[psD,sizes]
 |t::ts=>by have h1:=nZ t p;have h2:=arO p ts;simp only[psD,RQ,sizes,nS] at h2|-;omega
def DS(t:Tn):Prop:=∀(o:Bool) (f:Nat) (p:Ps) (l:List Nd) (b:Nat),l.length<=1048576->Lies l b t->5 * t.size<=f->nV p=true->
 M.Fb f (aZ o l) false ((b+sizes t.kids:Nat):Int) p.level p.nN p.tZ p.uf p.lY=some (dE (qM t p))
def WB{u:Tn}{o:Bool}{l:List Nd}{b:Nat}(h:Lies l b u):idx (aZ o l) ((b+sizes u.kids:Nat):Int)=some (XY o ⟨u.kind,u.op,u.text,u.other,ends u.kids b⟩):=by rw[bC,ql,Lies.root' h];rfl
def aIW{u:Tn}(hS:DS u){o:Bool}{f:Nat}{p:Ps}{l:List Nd}{b:Nat}(hl:l.length<=1048576)(h:Lies l b u)(hf:5 * u.size+1<=f)(hp:nV p=true):
  M.tq f (aZ o l) false ((b+sizes u.kids:Nat):Int) p.level p.nN p.tZ p.uf p.lY=some (dE (Dn u p)):=by
 obtain⟨g,rfl⟩:∃g,f=g+1:=⟨f - 1,ak⟩
 have hlt:=h.lt;have h1:=hS o g p l b hl h ak hp;have h2:=hS o g .top l b hl h ak rfl;have hb:=Pv u .top;simp only[Ps.top] at h2 hb;rw[M.anr];simp only[jI,M.LC,WB h,ah,NJ,PG,Pn,PI,JM,(ahh u.kind u.op u.text u.other _ p).2,Dn];cases fits u.kind u.op p with
 |true=>simp only[aK,h1,ah]
 |false=>
  have hs:sizes [mZ [40],qM u ⟨1,false,false,false,false⟩,mZ [41]]<=90000000:=by simp only[sizes,iw];omega
  simp only[bn,kH,Ed.2,ah,h2,fz3,uZ _ hs,og,aK,Ps.top]
def atA{ks:List Tn}(ih:∀u,u∈ks->DS u){o:Bool}{f:Nat}{p:Ps}(hp:nV p=true){l:List Nd}{b:Nat}(hl:l.length<=1048576)(hat:At l b ks)(hf:5 * sizes ks+2<=f)(hu:sizes ks<=1048575):
  M.zV f (aZ o l) false (encI (ends ks b)) p.level p.nN p.tZ p.uf p.lY=some (dE (RX p ks)):=by
 obtain⟨g,rfl⟩:∃g,f=g+1:=⟨f - 1,ak⟩
 have hkl:=jC ks;have hpz:=arO p ks;have hcz:=aeS (psD p ks) true;rw[adU] at hcz;have hloop:=iY (b:=M.Jo (M.tq g) (encI (ends ks b)) (aZ o l) false p.level p.nN p.tZ p.uf p.lY) (t:=((ks.length:Int),(UZ true (psD p ks)).map aaD)) (λj=>((j:Int),(UZ true (psD p (ks.take j))).map aaD)) ks.length
  (by
   intro j hj;obtain⟨u,hu'⟩:∃u,ks[j]? =some u:=⟨ks[j],by simp[hj]⟩
   have hus:=iO (En hu');have ha:=aIW (ih u (En hu')) (o:=o) (f:=g) (p:=p) hl (hat j u hu') ak hp;have hi:=mJ (b:=b) hu';have hcl:=ajP (psD p (ks.take j)) true;rw[adU,XE] at hcl;have hw:i64.wrap ((j:Int)+1)=((j+1:Nat):Int):=by rw[aB ak ak];omega
   have e:psD p (ks.take (j+1))=psD p (ks.take j)++[Dn u p]:=by rw[gu hu'];simp[psD]
   rw[e,aeZ];simp only[jI,M.Jo,M.Cc,aV,eX,kH,aty,hi,KT,ha,ah,qK,zaQ,nS,uM,hw];rw[zdt ak,aK]
   by_cases h0:j=0
   ·subst h0;rw[pq ak,bn,aN ak,aK,aN ak,aK];rfl
   ·have z:(psD p (ks.take j)).isEmpty=false:=by
     cases hq:psD p (ks.take j) with
     |nil=>have:=adU p (ks.take j);rw[hq,uM,XE] at this;omega
     |cons _ _=>rfl
    rw[zdt ak,aK,aN ak,aK,aN ak,aK,aN ak,aK,aN ak,aK,z,Bool.false_and,bn,List.map_append,NI];rfl)
  (by simp only[jI,M.Jo,M.Cc,aV,eX];rw[pq ak,bn,List.take_length]) 0 (Nat.zero_le _)
 have yg:M.Ox (M.tq g) (encI (ends ks b)) (aZ o l) false p.level p.nN p.tZ p.uf p.lY (0,[])=some ((ks.length:Int),(UZ true (psD p ks)).map aaD):=hloop;have z1:sizes [o9 (UZ true (psD p ks))]<=90000000:=by simp only[sizes,qj];omega
 have z2:sizes [Zm (o9 (UZ true (psD p ks)))]<=90000000:=by simp only[sizes,qj,Yn];omega
 rw[M.aiJ];simp only[M.EY,yg,ah,Ur,uZ _ (show sizes (UZ true (psD p ks))<=90000000 by omega),og,aK,fz1,an6 _ z1,aAq _ z2];rfl
def adW{ks:List Tn}(ih:∀u,u∈ks->DS u){o:Bool}{f:Nat}{l:List Nd}{b:Nat}{k op:Int}{x y:aC}{p:Ps}{j:Nat}{u:Tn}(he:1<=k/\k<=15)(hc:Cnt k op y ks.length)(hp:nV p=true)(hl:l.length<=1048576)(hat:At l b ks)(hf:5 * sizes ks+1<=f)(hu:sizes ks<=1048575)(hj:ks[j]? =some u)(ht:qL k j=false):
  (idx (encI (ends ks b)) (j:Int)=some [D.int .i64 ((b+sizes (ks.take j)+sizes u.kids:Nat):Int)]/\
   M.fZ k op x y (encI (ends ks b)) (j:Int) p.level p.nN p.tZ p.uf p.lY=some (dQ k op ks.length j p).FQ/\
   M.tq f (aZ o l) false ((b+sizes (ks.take j)+sizes u.kids:Nat):Int) (dQ k op ks.length j p).FQ.1 (dQ k op ks.length j p).FQ.2.1 (dQ k op ks.length j p).FQ.2.2.1 (dQ k op ks.length j p).FQ.2.2.2.1 (dQ k op ks.length j p).FQ.2.2.2.2=some (dE (RD k op ks.length p j u)))/\(RD k op ks.length p j u).size+3<=16 * u.size:=by
 have hkl:=jC ks;have hus:=iO (En hj);have hjl:j<ks.length:=(PU.1 hj).1;have hen:(encI (ends ks b)).length=ks.length:=by rw[aV,eX]
 have hlv:lvl k op≠0:=by have:=Xi he hc;omega
 refine⟨⟨mJ hj, ?_, ?_⟩,amf (Pv u)⟩
 ·have h:=aaB (x:=x) (r:=encI (ends ks b)) (j:=j) (p:=p) he (by rw[hen];exact hc) ak ak;rw[hen] at h;exact h
 ·have h:=aIW (ih u (En hj)) (o:=o) (f:=f) (p:=dQ k op ks.length j p) hl (hat j u hj) ak (xQ hp hjl hlv);rw[RD,ht,Bool.false_or];exact h
def an7{ks:List Tn}(ih:∀u,u∈ks->DS u){o:Bool}{f:Nat}{l:List Nd}{b:Nat}(hl:l.length<=1048576)(hat:At l b ks)(hf:5 * sizes ks+3<=f)(hu:sizes ks<=1048575)(k op:Int)(x y:aC)(hx:x.length<=1048576)(c d:UInt8):
  M.Ie f (aZ o l) false k op x y (encI (ends ks b)) [c] [d]=some (dE (o9 [mZ (x++[c]),RX .top ks,mZ [d]])):=by
 obtain⟨g,rfl⟩:∃g,f=g+1:=⟨f - 1,ak⟩
 have h1:=atA ih (o:=o) (f:=g) (p:=.top) rfl (b:=b) hl hat ak hu;have h2:=Px .top ks;simp only[Ps.top] at h1 h2;have hs:sizes [mZ (x++[c]),RX ⟨1,false,false,false,false⟩ ks,mZ [d]]<=90000000:=by simp only[sizes,iw];omega
 rw[M.agp];simp(disch:=omega) only[M.AY,nS,uM,Dt,aK,kH,Ed.2,h1,ah,fz3,uZ _ hs,og,Ps.top]
def akd{u:Tn}(hS:DS u)(hok:I8 u)(he:Zv u)(hh:13<=lvl u.kind u.op){o:Bool}{f:Nat}{l:List Nd}{b:Nat}(hl:l.length<=1048576)(h:Lies l b u)(hf:5 * u.size+1<=f)(p:Ps)(hp:nV p=true):
  M.Fa f (aZ o l) false ((b+sizes u.kids:Nat):Int)=some (dE (qM u p)):=by
 obtain⟨g,rfl⟩:∃g,f=g+1:=⟨f - 1,ak⟩
 have h1:=hS o g ⟨14,false,false,false,false⟩ l b hl h ak rfl;rw[atu u hok hh he _ p rfl hp] at h1;rw[M.aeE];simp only[M.zq,h1,ah]
def aYc{ks:List Tn}(ih:∀u,u∈ks->DS u){o:Bool}{f:Nat}{l:List Nd}{b:Nat}{op:Int}{x y:aC}{p:Ps}(hc:Cnt 12 op y ks.length)(hp:nV p=true)(hl:l.length<=1048576)(hat:At l b ks)(hf:5 * sizes ks+2<=f)(hu:sizes ks<=1048575)(gp:Bool):
  M.NS f (aZ o l) false 12 op x y (encI (ends ks b)) p.level p.nN p.tZ p.uf p.lY=some (dE (aao 12 op ks.length x gp (ug 12 op ks.length p ks 0))):=by
 obtain⟨g,rfl⟩:∃g,f=g+1:=⟨f - 1,ak⟩
 rw[M.akS];obtain⟨u,v,rfl⟩:=Py (hc.two ak);have hsz:=sz2 u v;have hI:=ahk (hc.bin rfl).1;have hsl:=PN op;obtain⟨⟨a1,a2,a3⟩,a4⟩:=adW ih (o:=o) (f:=g) (b:=b) (k:=12) (op:=op) (x:=x) (y:=y) (p:=p) (j:=0) (u:=u) ak hc hp hl hat ak hu rfl (aaC 12 ak 0);obtain⟨⟨b1,b2,b3⟩,b4⟩:=adW ih (o:=o) (f:=g) (b:=b) (k:=12) (op:=op) (x:=x) (y:=y) (p:=p) (j:=1) (u:=v) ak hc hp hl hat ak hu rfl (aaC 12 ak 1);rw[oQ] at a1 a2;rw[Y7] at b1 b2;rw[an2];generalize (dQ 12 op [u,v].length 0 p).FQ=q0 at a2 a3;generalize RD 12 op [u,v].length p 0 u=K0 at a3 a4|-;generalize (dQ 12 op [u,v].length 1 p).FQ=q1 at b2 b3;generalize RD 12 op [u,v].length p 1 v=K1 at b3 b4|-
 by_cases h99:op=99
 ·subst h99;have hs:sizes [K0,mZ [32],K1]<=90000000:=by simp only[sizes,iw];omega
  simp only[M.wG,M.zU,a1,a2,a3,b1,b2,b3,KT,ah,Int.reduceBEq,aK,bn,kH,fz3,uZ _ hs,og];rfl
 ·have e1:(op==99)=false:=by simpa using h99
  have hs:sizes [K0,mZ ([32]++spell op),Xh,K1]<=90000000:=by simp only[sizes,iw,aap];omega
  have z1:sizes [o9 [K0,mZ ([32]++spell op),Xh,K1]]<=90000000:=by simp only[sizes,iw,aap,qj];omega
  have z2:sizes [Zm (o9 [K0,mZ ([32]++spell op),Xh,K1])]<=90000000:=by simp only[sizes,iw,aap,qj,Yn];omega
  by_cases h45:op=45
  ·subst h45;simp(disch:=omega) only[M.wG,M.zU,a1,a2,a3,b1,b2,b3,KT,ah,Int.reduceBEq,aK,bn,(nM 45 hI).1,kH,aty,fz4,fz1,uZ _ hs,an6 _ z1,aAq _ z2,og,Dt];rfl
  ·have e2:(op==45)=false:=by simpa using h45
   by_cases h44:op=44
   ·subst h44;simp(disch:=omega) only[M.wG,M.zU,a1,a2,a3,b1,b2,b3,KT,ah,Int.reduceBEq,aK,bn,(nM 44 hI).1,kH,aty,fz4,fz1,uZ _ hs,an6 _ z1,aAq _ z2,og,Dt];rfl
   ·have e3:(op==44)=false:=by simpa using h44
    have hs3:sizes [K0,mZ ([32]++spell op++[32]),K1]<=90000000:=by simp only[sizes,iw];omega
    simp(disch:=omega) only[M.wG,M.zU,a1,a2,a3,b1,b2,b3,KT,ah,e1,e2,e3,aK,bn,(nM op hI).1,qK,nS,uM,kH,fz3,uZ _ hs3,og,Dt];simp[aao,e1,e2,e3,zB]
set_option maxHeartbeats 4000000 in
def ake(t:Tn):I8 t->Zv t->WH t->t.size<=1048576->DS t:=by
 refine Tn.ind (P:=λt=>I8 t->Zv t->WH t->t.size<=1048576->DS t) ?_ t;intro k op x y ks ih hok he hsm hsz;intro o f p l b hl h hf hp;have a6E:=h;simp only[Zv,Tn.kind] at he;have hc:=SX hok;rw[WH] at hsm;obtain⟨⟨hx,hy⟩,hss⟩:=hsm;rw[Tn.size] at hsz hf;have hkE:∀u,u∈ks->I8 u/\Zv u/\WH u:=by intro u hu;obtain⟨i,hi⟩:=List.mem_iff_getElem?.1 hu;obtain⟨h1,h2⟩:=adQ hok he hi;exact⟨h2,h1,yU hss hu⟩
 have ih':∀u,u∈ks->DS u:=by intro u hu;obtain⟨h1,h2,h3⟩:=hkE u hu;have:=iO hu;exact ih u hu h1 h2 h3 ak
 have hat:At l b ks:=λj u hj=>Lies.SQ h hj
 obtain⟨g,rfl⟩:∃g,f=g+1:=⟨f - 1,ak⟩
 have hr:idx (aZ o l) ((b+sizes ks:Nat):Int)=some (XY o ⟨k,op,x,y,ends ks b⟩):=by have hr0:l[b+sizes ks]? =some ⟨k,op,x,y,ends ks b⟩:=Lies.root' h;rw[bC,ql,hr0];rfl
 have hkl:=jC ks;have tgt:∀{u:Tn},ks[0]? =some u->cls k op ks.length 0=6->I8 u/\Zv u/\13<=lvl u.kind u.op:=by intro u hu hcls;obtain⟨h1,h2⟩:=adQ hok he hu;obtain⟨h3,_⟩:=Pq hok hu;rw[hcls] at h3;exact⟨h2,h1,(anX h3).1⟩
 rw[M.aiK,Tn.kids];have hk:k=1\/k=2\/k=3\/k=4\/k=5\/k=7\/k=8\/k=6\/k=9\/k=10\/k=11\/k=13\/k=15\/k=12\/k=14:=ak;rw[qM];rcases hk with rfl|rfl|rfl|rfl|rfl|rfl|rfl|rfl|rfl|rfl|rfl|rfl|rfl|rfl|rfl
 ·simp only[jI,M.iq,M.gJ,hr,ah,NJ,PG,Pn,PI,JM,M.dw,M.bY,Int.reduceBEq,Int.reduceBNe,aK,bn,kH];rfl
 ·simp only[jI,M.iq,M.gJ,hr,ah,NJ,PG,Pn,PI,JM,M.dw,M.bY,Int.reduceBEq,Int.reduceBNe,aK,bn,kH];rfl
 ·simp only[jI,M.iq,M.gJ,hr,ah,NJ,PG,Pn,PI,JM,M.dw,M.bY,Int.reduceBEq,Int.reduceBNe,aK,bn,kH];rfl
 ·simp only[jI,M.iq,M.gJ,hr,ah,NJ,PG,Pn,PI,JM,M.dw,M.bY,Int.reduceBEq,Int.reduceBNe,aK,bn,kH];rfl
 ·have a1:=an7 ih' (o:=o) (f:=g) (b:=b) hl hat ak ak 5 op x y hx 91 93;rw[UK hp (.inl rfl) (λj=>by simp[qL])];simp only[jI,M.iq,M.gJ,hr,ah,NJ,PG,Pn,PI,JM,M.dw,M.bY,Int.reduceBEq,Int.reduceBNe,aK,bn,a1];rfl
 ·have a1:=an7 ih' (o:=o) (f:=g) (b:=b) hl hat ak ak 7 op x y hx 40 41;rw[UK hp (.inl rfl) (λj=>by simp[qL])];simp only[jI,M.iq,M.gJ,hr,ah,NJ,PG,Pn,PI,JM,M.dw,M.bY,Int.reduceBEq,Int.reduceBNe,aK,bn,a1];rfl
 ·have a1:=an7 ih' (o:=o) (f:=g) (b:=b) hl hat ak ak 8 op x y hx 40 41;rw[UK hp (.inl rfl) (λj=>by simp[qL])];simp only[jI,M.iq,M.gJ,hr,ah,NJ,PG,Pn,PI,JM,M.dw,M.bY,Int.reduceBEq,Int.reduceBNe,aK,bn,a1];rfl
 ·obtain⟨u,rfl⟩:=zlo.1 (hc.one ak);have hs1:=sz1 u;obtain⟨⟨a1,a2,a3⟩,a4⟩:=adW ih' (o:=o) (f:=g) (b:=b) (k:=6) (op:=op) (x:=x) (y:=y) (p:=p) (j:=0) (u:=u) ak hc hp hl hat ak ak rfl (aaC 6 ak 0);rw[oQ] at a1 a2;rw[XD];generalize (dQ 6 op [u].length 0 p).FQ=q0 at a2 a3;generalize RD 6 op [u].length p 0 u=K0 at a3 a4|-;have hs:sizes [mZ [36],K0]<=90000000:=by simp only[sizes,iw];omega
  simp only[jI,M.iq,M.gJ,hr,ah,NJ,PG,Pn,PI,JM,M.dw,M.bY,Int.reduceBEq,Int.reduceBNe,aK,bn,a1,a2,a3,KT,kH,fz2,uZ _ hs,og];rfl
 ·obtain⟨u,rfl⟩:=zlo.1 (hc.one ak);have hs1:=sz1 u;have hI:I64 op:=by rcases hc.stp ak with rfl|rfl<;>constructor<;>decide
  have a1:=mJ (ks:=[u]) (b:=b) (j:=0) (u:=u) rfl;obtain⟨t1,t2,t3⟩:=tgt (u:=u) rfl (by simp[cls]);have a3:=akd (ih' u (by simp)) t1 t2 t3 (o:=o) (f:=g) (p:=dQ 9 op [u].length 0 p) hl (hat 0 u rfl) ak (xQ hp (by simp) (by simp[lvl]));have a4:=Pv u (dQ 9 op [u].length 0 p);rw[oQ] at a1;rw[XD,RD,show qL 9 0=true from rfl,Bool.true_or,aK];generalize qM u (dQ 9 op [u].length 0 p)=K0 at a3 a4|-;have hs:sizes [mZ (spell op),K0]<=90000000:=by simp only[sizes,iw];omega
  simp only[jI,M.iq,M.gJ,hr,ah,NJ,PG,Pn,PI,JM,M.dw,M.bY,Int.reduceBEq,Int.reduceBNe,aK,bn,a1,a3,(nM op hI).1,KT,kH,fz2,uZ _ hs,og];rfl
 ·obtain⟨u,rfl⟩:=zlo.1 (hc.one ak);have hs1:=sz1 u;have hI:I64 op:=by rcases hc.stp ak with rfl|rfl<;>constructor<;>decide
  have a1:=mJ (ks:=[u]) (b:=b) (j:=0) (u:=u) rfl;obtain⟨t1,t2,t3⟩:=tgt (u:=u) rfl (by simp[cls]);have a3:=akd (ih' u (by simp)) t1 t2 t3 (o:=o) (f:=g) (p:=dQ 10 op [u].length 0 p) hl (hat 0 u rfl) ak (xQ hp (by simp) (by simp[lvl]));have a4:=Pv u (dQ 10 op [u].length 0 p);rw[oQ] at a1;rw[XD,RD,show qL 10 0=true from rfl,Bool.true_or,aK];generalize qM u (dQ 10 op [u].length 0 p)=K0 at a3 a4|-;have hs:sizes [K0,mZ (spell op)]<=90000000:=by simp only[sizes,iw];omega
  simp only[jI,M.iq,M.gJ,hr,ah,NJ,PG,Pn,PI,JM,M.dw,M.bY,Int.reduceBEq,Int.reduceBNe,aK,bn,a1,a3,(nM op hI).1,KT,kH,fz2,uZ _ hs,og];rfl
 ·obtain⟨u,rfl⟩:=zlo.1 (hc.one ak);have hs1:=sz1 u;obtain⟨u1,u2,u3⟩:=hkE u (by simp);have hI:I64 op:=by rcases hc.una ak with rfl|rfl|rfl<;>constructor<;>decide
  have ihS:∀v,v∈[u]->PS v:=by intro v hv;rw[List.mem_singleton.1 hv];exact aww u u1 u2 ak
  obtain⟨⟨a1,a2,a3⟩,a4⟩:=adW ih' (o:=o) (f:=g) (b:=b) (k:=11) (op:=op) (x:=x) (y:=y) (p:=p) (j:=0) (u:=u) ak hc hp hl hat ak ak rfl (aaC 11 ak 0);obtain⟨⟨c1,c2,c3⟩,c4⟩:=abA ihS (o:=o) (f:=5 * sizes [u]+1) (b:=b) (k:=11) (op:=op) (x:=x) (y:=y) (p:=p) (j:=0) (u:=u) ak hc hp hl hat ak ak rfl (aaC 11 ak 0);have c3':=M.akP c3;rw[oQ] at a1 a2;rw[XD,U0];have hne:=auY (k:=11) (op:=op) (n:=[u].length) (p:=p) (j:=0) u1 u2;have aYd:=aAb (k:=11) (op:=op) (n:=[u].length) (p:=p) (j:=0) u3;clear c3 c2;generalize (dQ 11 op [u].length 0 p).FQ=q0 at a2 a3 c3';generalize RD 11 op [u].length p 0 u=K0 at a3 a4|-;generalize wI 11 op [u].length p 0 u=K at hne aYd c3'|-;cases K with
  |nil=>exact absurd rfl hne
  |cons t0 K=>
   have hsl:=PN op;have hg:M.vZ op (spell op) 0 t0.kind t0.text t0.at_=some (KC (tok op) t0):=ae2 (tok op) t0 (by show(spell op).length<=_;omega) (by have:=aYd t0 zmf;omega);have i0:idx (iP (t0::K)) 0=some (ach t0):=rfl;have i1:(iP (t0::K))[0]? =some (ach t0):=rfl;have hs:sizes [mZ (spell op),K0]<=90000000:=by simp only[sizes,iw];omega
   have hs2:sizes [mZ (spell op++[32]),K0]<=90000000:=by simp only[sizes,iw];omega
   have ha:aao 11 op [u].length x (amd op [t0::K]) [K0]=o9 [mZ (bif KC (tok op) t0 then spell op++[32] else spell op),K0]:=rfl;rw[ha];simp(disch:=omega) only[jI,M.iq,M.gJ,hr,ah,NJ,PG,Pn,PI,JM,M.dw,M.bY,Int.reduceBEq,Int.reduceBNe,aK,bn,a1,a2,a3,c3',i0,i1,cT0,cT1,cT2,hg,(nM op hI).1,(nD op hI).2,KT,kH,fz2,uZ _ hs,uZ _ hs2,og,Dt];cases KC (tok op) t0<;>rfl
 ·obtain⟨u,hu⟩:∃u,ks[0]? =some u:=by have:=hc.some_ ak;exact⟨ks[0],by simp⟩
  obtain⟨⟨a1,a2,a3⟩,a4⟩:=adW ih' (o:=o) (f:=g) (b:=b) (k:=13) (op:=op) (x:=x) (y:=y) (p:=p) (j:=0) (u:=u) ak hc hp hl hat ak ak hu (aaC 13 ak 0);have hus:=iO (En hu);rw[oQ] at a1 a2;have hel:(encI (ends ks b)).length=ks.length:=by rw[aV,eX]
  cases hm:Nat.blt 1 ks.length with
  |true=>
   have b1:=atA ih' (o:=o) (f:=g) (p:=.top) rfl (b:=b) hl hat ak ak;have b2:=Px .top ks;simp only[Ps.top] at b1 b2;have e1:((ks.length:Int)==1)=false:=by rw[Nat.blt_eq] at hm;rw[KL];omega
   have hs:sizes [mZ [40],RX ⟨1,false,false,false,false⟩ ks,mZ ([41,32,105,110,32]++x)]<=90000000:=by simp only[sizes,iw];omega
   rw[UK hp (.inr ⟨rfl,hm,by simp[lvl]⟩) (λj=>by simp[qL])];simp(disch:=omega) only[jI,M.iq,M.gJ,hr,ah,NJ,PG,Pn,PI,JM,M.dw,M.bY,Int.reduceBEq,Int.reduceBNe,aK,bn,hel,e1,kH,Ed.2,b1,fz3,uZ _ hs,og,Dt];simp[aao,hm,arK,Ps.top]
  |false=>
   have h1:ks.length=1:=by
    have h2:=hc.some_ ak;have h3:¬1<ks.length:=by rw[<-Nat.blt_eq,hm];simp
    omega
   obtain⟨u',rfl⟩:=zlo.1 h1;obtain rfl:u'=u:=by simpa using hu
   rw[XD];have e1:(([u'].length:Int)==1)=true:=rfl;generalize (dQ 13 op [u'].length 0 p).FQ=q0 at a2 a3;generalize RD 13 op [u'].length p 0 u'=K0 at a3 a4|-;have hs:sizes [K0,mZ ([32,105,110,32]++x)]<=90000000:=by simp only[sizes,iw];omega
   simp(disch:=omega) only[jI,M.iq,M.gJ,hr,ah,NJ,PG,Pn,PI,JM,M.dw,M.bY,Int.reduceBEq,Int.reduceBNe,aK,bn,hel,e1,a1,a2,a3,KT,kH,fz2,uZ _ hs,og,Dt];rfl
 ·obtain⟨u,v,rfl⟩:=Py (hc.two ak);have hsv:=sz2 u v;have hI:I64 op:=by rcases hc.asg rfl with rfl|h<;>constructor<;>omega
  have hsl:=PN op;have a1:=mJ (ks:=[u,v]) (b:=b) (j:=0) (u:=u) rfl;obtain⟨t1,t2,t3⟩:=tgt (u:=u) rfl (by simp[cls]);have a3:=akd (ih' u (by simp)) t1 t2 t3 (o:=o) (f:=g) (p:=dQ 15 op [u,v].length 0 p) hl (hat 0 u rfl) ak (xQ hp (by simp) (by simp[lvl]));have a4:=Pv u (dQ 15 op [u,v].length 0 p);obtain⟨⟨b1,b2,b3⟩,b4⟩:=adW ih' (o:=o) (f:=g) (b:=b) (k:=15) (op:=op) (x:=x) (y:=y) (p:=p) (j:=1) (u:=v) ak hc hp hl hat ak ak rfl rfl;rw[oQ] at a1;rw[Y7] at b1 b2;rw[an2]
  conv=>rhs;rw[RD,show qL 15 0=true from rfl,Bool.true_or,aK]
  generalize qM u (dQ 15 op [u,v].length 0 p)=K0 at a3 a4|-;generalize (dQ 15 op [u,v].length 1 p).FQ=q1 at b2 b3;generalize RD 15 op [u,v].length p 1 v=K1 at b3 b4|-;have hs3:sizes [K0,mZ ([32]++spell op++[32]),K1]<=90000000:=by simp only[sizes,iw];omega
  simp(disch:=omega) only[jI,M.iq,M.gJ,hr,ah,NJ,PG,Pn,PI,JM,M.dw,M.bY,Int.reduceBEq,Int.reduceBNe,aK,bn,a1,a3,b1,b2,b3,(nM op hI).1,KT,qK,nS,uM,kH,fz3,uZ _ hs3,og,Dt];simp[aao,zB]
 ·have a1:=aYc ih' (o:=o) (f:=g) (b:=b) (op:=op) (x:=x) (y:=y) (p:=p) hc hp hl hat ak ak (amd op (jM 12 op ks.length p ks 0));simp only[jI,M.iq,M.gJ,hr,ah,NJ,PG,Pn,PI,JM,M.dw,M.bY,Int.reduceBEq,Int.reduceBNe,aK,bn,a1]
 ·obtain⟨u,v,z,rfl⟩:=Yp (hc.three rfl);have hsz3:=sz3 u v z;obtain⟨⟨a1,a2,a3⟩,a4⟩:=adW ih' (o:=o) (f:=g) (b:=b) (k:=14) (op:=op) (x:=x) (y:=y) (p:=p) (j:=0) (u:=u) ak hc hp hl hat ak ak rfl (aaC 14 ak 0);obtain⟨⟨b1,b2,b3⟩,b4⟩:=adW ih' (o:=o) (f:=g) (b:=b) (k:=14) (op:=op) (x:=x) (y:=y) (p:=p) (j:=1) (u:=v) ak hc hp hl hat ak ak rfl (aaC 14 ak 1);obtain⟨⟨c1,c2,c3⟩,c4⟩:=adW ih' (o:=o) (f:=g) (b:=b) (k:=14) (op:=op) (x:=x) (y:=y) (p:=p) (j:=2) (u:=z) ak hc hp hl hat ak ak rfl (aaC 14 ak 2);rw[oQ] at a1 a2;rw[Y7] at b1 b2;rw[awt] at c1 c2;rw[aAf];generalize (dQ 14 op [u,v,z].length 0 p).FQ=q0 at a2 a3;generalize RD 14 op [u,v,z].length p 0 u=K0 at a3 a4|-;generalize (dQ 14 op [u,v,z].length 1 p).FQ=q1 at b2 b3;generalize RD 14 op [u,v,z].length p 1 v=K1 at b3 b4|-;generalize (dQ 14 op [u,v,z].length 2 p).FQ=q2 at c2 c3;generalize RD 14 op [u,v,z].length p 2 z=K2 at c3 c4|-;have hs:sizes [K0,mZ [32,63,32],K1,mZ [32,58,32],K2]<=90000000:=by simp only[sizes,iw];omega
  simp only[jI,M.iq,M.gJ,hr,ah,NJ,PG,Pn,PI,JM,M.dw,M.bY,Int.reduceBEq,Int.reduceBNe,aK,bn,a1,a2,a3,b1,b2,b3,c1,c2,c3,KT,kH,fz5,uZ _ hs,og];rfl
def amB:∀(ks:List Tn) (b m:Nat),(ends ks b).take m=ends (ks.take m) b
 |[],b,m=>by simp[ends]
 |t::ts,b,0=>by simp[ends]
 |t::ts,b,m+1=>by rw[ends,List.take_succ_cons,List.take_succ_cons,ends,amB ts]
def aEg{l:List Nd}{b:Nat}{ks:List Tn}(hat:At l b ks)(m:Nat):At l b (ks.take m):=by
 intro j u hj;have hjm:j<m:=by have:=(PU.1 hj).1;rw[XE] at this;omega
 rw[List.getElem?_take,if_pos hjm] at hj;have:=hat j u hj
 rwa [List.take_take,Nat.min_eq_left ak]
section
variable {o:Bool} {l:List Nd} {b:Nat} (hl:l.length<=1048576)
include hl
theorem aIX{u:Tn}(h:Ex' u)(hh:Lies l b u){p:Ps}(hp:nV p=true):M.gZ (aZ o l) false ((b+sizes u.kids:Nat):Int) p.level p.nN p.tZ p.uf p.lY=some (dE (Dn u p)):=
 M.akT (aIW (ake u h.ok h.e h.sm h.sz) (f:=5 * u.size+1) hl hh (zaP _) hp)
theorem Y9{u:Tn}(h:Ex' u)(hh:Lies l b u):M.gZ (aZ o l) false ((b+sizes u.kids:Nat):Int) 1 false false false false=some (dE (MQ u)):=aIX (o:=o) hl h hh (p:=.top) rfl
theorem aAr{ks:List Tn}(h:∀u,u∈ks->Ex' u)(hat:At l b ks)(hs:sizes ks<=1048575){p:Ps}(hp:nV p=true):M.kV (aZ o l) false (encI (ends ks b)) p.level p.nN p.tZ p.uf p.lY=some (dE (RX p ks)):=
 M.agq (atA (λu hu=>ake u (h u hu).ok (h u hu).e (h u hu).sm (h u hu).sz) (f:=5 * sizes ks+2) hp hl hat (zaP _) hs)
theorem atB{u:Tn}(h:u.kind=16\/Ex' u)(hh:Lies l b u):M.sN (aZ o l) false ((b+sizes u.kids:Nat):Int)=some (dE (WA u)):=by
 simp only[M.sN,M.QF,WB hh,ah,NJ,WA];rcases h with h|h
 ·rw[h];simp only[beq_self_eq_true,aK,kH,ah]
 ·have h1:(u.kind==16)=false:=by have:=h.e;unfold Zv at this;rw[KL];omega
  have h2:=Y9 (o:=o) hl h hh;have h3:=nZ u .top;have h4:=h.sz;have hs:sizes [mZ [32],MQ u]<=90000000:=by simp only[sizes,iw,MQ];omega
  simp only[h1,bn,kH,Ed.2,ah,h2,fz2,uZ _ hs,og,aK]
theorem aFW{ks:List Tn}(h:∀u,u∈ks->Ex' u)(hat:At l b ks)(wd:aC):M.yN (aZ o l) false wd (encI (ends ks b))=some (dE (abz wd ks)):=by
 simp only[M.yN,M.QG,aV,eX];cases ks with
 |nil=>rw[show(((([]:List Tn).length:Nat):Int)==0)=true from rfl];simp only[aK,kH,ah];rfl
 |cons u t=>
  have hu:=h u zmf;have hi:=mJ (ks:=u::t) (b:=b) (j:=0) (u:=u) rfl;have h1:=atB (o:=o) hl (.inr hu) (hat 0 u rfl);have h3:=VF u;have h4:=hu.sz;have e0:((((u::t).length:Nat):Int)==0)=false:=by rw[KL,nS];omega
  have hs:sizes [mZ wd,WA u]<=90000000:=by simp only[sizes,iw];omega
  rw[oQ] at hi;simp only[e0,bn,kH,ah,hi,KT,h1,fz2,uZ _ hs,og,aK];rfl
theorem aYe{ks:List Tn}(h:∀u,u∈ks->Ex' u)(hat:At l b ks)(hs:sizes ks<=1048575)(op:Int)(x y:aC)(hop:op=0\/op=1)(hy:y≠[]->1<=ks.length)(hyl:y.length<=1048576):
  M.y5 (aZ o l) false 21 op x y (encI (ends ks b))=some (dE (anR op y ks)):=by
 have hkl:=jC ks;have key:∀wd:aC,(bif !(y==[]) then
   ((cut (encI (ends ks b)) 0 (i64.wrap (((encI (ends ks b)).length:Int) - 1))).bind λrows=>(bif decide ((rows.length:Int)>0) then
    ((M.aH [32]).bind λr2=>((M.kV (aZ o l) false rows 1 false false true false).bind λr3=>(bif(1+y.length).ble 9223372036854775807 then(bif(([32]++y).length+1).ble 9223372036854775807 then((M.aH ([32]++y++[32])).bind λr4=>((idx (encI (ends ks b)) (i64.wrap (((encI (ends ks b)).length:Int) - 1))).bind λrow=>((bK IntKind.i64 row 0).bind λn=>((M.gZ (aZ o l) false n 9 false false false false).bind λr5=>((M.aO 6 0 (aG ([[D.sl true 4 (dE (mZ wd))]]++[[D.sl true 4 r2],[D.sl true 4 r3]]++[[D.sl true 4 r4],[D.sl true 4 r5]]))).bind λr6=>(bif[[D.sl true 4 r6]].all bg then some r6 else none)))))) else none) else none))) else
    (bif(1+y.length).ble 9223372036854775807 then(bif(([32]++y).length+1).ble 9223372036854775807 then((M.aH ([32]++y++[32])).bind λr4=>((idx (encI (ends ks b)) (i64.wrap (((encI (ends ks b)).length:Int) - 1))).bind λrow=>((bK IntKind.i64 row 0).bind λn=>((M.gZ (aZ o l) false n 9 false false false false).bind λr5=>((M.aO 6 0 (aG ([[D.sl true 4 (dE (mZ wd))]]++[[D.sl true 4 r4],[D.sl true 4 r5]]))).bind λr6=>(bif[[D.sl true 4 r6]].all bg then some r6 else none)))))) else none) else none))) else
   (bif decide (((encI (ends ks b)).length:Int)>0) then
    ((M.aH [32]).bind λr2=>((M.kV (aZ o l) false (encI (ends ks b)) 1 false false true false).bind λr3=>((M.aO 6 0 (aG ([[D.sl true 4 (dE (mZ wd))]]++[[D.sl true 4 r2],[D.sl true 4 r3]]))).bind λr6=>(bif[[D.sl true 4 r6]].all bg then some r6 else none)))) else
    ((M.aO 6 0 (aG [[D.sl true 4 (dE (mZ wd))]])).bind λr6=>(bif[[D.sl true 4 r6]].all bg then some r6 else none))))=
   some (dE (o9 ([mZ wd]++((bif Nat.blt 0 (bif y==[] then ks else ks.take (ks.length - 1)).length then[mZ [32],RX ⟨1,false,false,true,false⟩ (bif y==[] then ks else ks.take (ks.length - 1))] else[])++
    (bif y==[] then[] else[mZ (([32]++y)++[32]),Dn (Aq ks (ks.length - 1)) ⟨9,false,false,false,false⟩]))))):=by
  intro wd;have gt:∀L:List Tn,decide (((encI (ends L b)).length:Int)>0)=Nat.blt 0 L.length:=by intro L;rw[aV,eX];exact aaS 0 L.length
  by_cases hy0:y=[]
  ·have e0:(y==[])=true:=by simpa using hy0
   have l1:=aAr (o:=o) hl h hat hs (p:=⟨1,false,false,true,false⟩) rfl;have l2:=Px ⟨1,false,false,true,false⟩ ks;have z1:sizes [mZ wd,mZ [32],RX ⟨1,false,false,true,false⟩ ks]<=90000000:=by simp only[sizes,iw];omega
   have z2:sizes [mZ wd]<=90000000:=by simp only[sizes,iw];omega
   simp only[e0,zaO,aK,bn,gt];cases Nat.blt 0 ks.length with
   |true=>simp only[aK,ah,kH,l1,Yr,List.nil_append,fz3,uZ _ z1,og]
   |false=>simp only[bn,ah,fz1,uZ _ z2,og,aK];rfl
  ·have e0:(y==[])=false:=by simpa using hy0
   have hn:=hy hy0;have hw:i64.wrap (((encI (ends ks b)).length:Int) - 1)=((ks.length - 1:Nat):Int):=by rw[aV,eX,aB ak ak];omega
   have hcut:cut (encI (ends ks b)) 0 ((ks.length - 1:Nat):Int)=some (encI (ends (ks.take (ks.length - 1)) b)):=by rw[awq _ _ (by rw[aV,eX];omega),<-amB ks b,encI,encI,List.map_take]
   obtain⟨u,hu⟩:∃u,ks[ks.length - 1]? =some u:=⟨ks[ks.length - 1],by simp⟩
   have hnt:Aq ks (ks.length - 1)=u:=by rw[Aq,hu];rfl
   have hue:=h u (En hu);have he:=aIX (o:=o) hl hue (hat _ u hu) (p:=⟨9,false,false,false,false⟩) rfl;have hi:=mJ (b:=b) hu;have s1:=nZ u ⟨9,false,false,false,false⟩;have s2:=hue.sz;have s3:=take_size ks (ks.length - 1);have l1:=aAr (o:=o) hl (ks:=ks.take (ks.length - 1)) (λv hv=>h v (List.mem_of_mem_take hv)) (aEg hat _) ak (p:=⟨1,false,false,true,false⟩) rfl;have l2:=Px ⟨1,false,false,true,false⟩ (ks.take (ks.length - 1));have z1:sizes [mZ wd,mZ [32],RX ⟨1,false,false,true,false⟩ (ks.take (ks.length - 1)),mZ ([32]++y++[32]),Dn u ⟨9,false,false,false,false⟩]<=90000000:=by simp only[sizes,iw];omega
   have z2:sizes [mZ wd,mZ ([32]++y++[32]),Dn u ⟨9,false,false,false,false⟩]<=90000000:=by simp only[sizes,iw];omega
   have r1:(1+y.length).ble 9223372036854775807=true:=Dt ak;have r2:(([32]++y).length+1).ble 9223372036854775807=true:=Dt (by simp only[qK,nS,uM];omega);simp only[e0,Bool.not_false,aK,bn,hw,hcut,ah,gt,hnt,r1,r2];cases Nat.blt 0 (ks.take (ks.length - 1)).length with
   |true=>rw[Yr,List.nil_append] at z1 z2|-;simp only[aK,ah,kH,l1,hi,KT,he,Yr,List.nil_append,fz5,og] at z1|-;rw[uZ _ z1,ah,og,aK]
   |false=>simp only[aK,bn,ah,kH,hi,KT,he,Yr,List.nil_append,fz3,og] at z2|-;rw[uZ _ z2,ah,og,aK]
 have hyy:∀{R:Type} (a c:R),(bif !(y==[]) then(bif !(y==[]) then a else c) else c)=bif !(y==[]) then a else c:=by intro R a c;cases(y==[])<;>rfl
 simp only[M.y5,M.OB,M.Nu,M.Nv,M.LG,anR];rcases hop with rfl|rfl
 ·have k1:=key [112,114,105,110,116];rw[show((0:Int)==1)=false from rfl,bn,kH,ah];rw[show((0:Int)==0)=true from rfl,aK,<-k1];cases(y==[])<;>rfl
 ·have k1:=key [112,114,105,110,116,102];rw[show((1:Int)==1)=true from rfl,aK,kH,ah];rw[show((1:Int)==0)=false from rfl,bn,<-k1];cases(y==[])<;>rfl
end
def SS(u:Tn):Prop:=∀(o:Bool) (f:Nat) (l:List Nd) (b:Nat),l.length<=1048576->Lies l b u->6 * u.size<=f->M.Kr f (aZ o l) false ((b+sizes u.kids:Nat):Int)=some (dE (iR u))
def BS(u:Tn):Prop:=∀(o:Bool) (f:Nat) (l:List Nd) (b:Nat),l.length<=1048576->Lies l b u->6 * u.size<=f+3->M.iy f (aZ o l) false ((b+sizes u.kids:Nat):Int)=some (dE (iR u))
def Zo:List Tn->au
 |[]=>[]
 |d::l=>[D.sl true 4 (dE UG)]::[D.sl false 4 (dD false (d.flat 0))]::Zo l
def akf:∀(L:List Tn) (x:Tn),Zo (L++[x])=Zo L++[[D.sl true 4 (dE UG)],[D.sl false 4 (dD false (x.flat 0))]]
 |[],x=>rfl
 |y::L,x=>by rw[Yr,Zo,Zo,akf L x];rfl
def amC:∀L:List Tn,(Zo L).length=2 * L.length
 |[]=>rfl
 |y::L=>by have:=amC L;rw[Zo,nS,nS,this,nS];omega
def arP:∀L:List Tn,aG (Zo L)=uh (Ht L)
 |[]=>rfl
 |d::l=>by
  have h1:qm [D.sl true 4 (dE UG)]=[D.sl false 4 (dD false (UG.flat 0))]:=by simp[qm,D.fz,dE]
  have h2:qm [D.sl false 4 (dD false (d.flat 0))]=[D.sl false 4 (dD false (d.flat 0))]:=by simp[qm,D.fz]
  rw[Zo,aG,aG,h1,h2,arP l];rfl
def aEh(L:List Tn)(hn:L.length<=1048576)(hs:sizes (Ht L)<=90000000):M.yZ (uh L)=some (dE (o9 (Ht L))):=by
 have hpl:(uh L).length=L.length:=by simp[uh]
 have hloop:=iY (b:=M.GH (uh L)) (t:=((L.length:Int),Zo L)) (λj=>((j:Int),Zo (L.take j))) L.length
  (by
   intro j hj;obtain⟨d,hd⟩:∃d,L[j]? =some d:=⟨L[j],by simp[hj]⟩
   have hr:idx (uh L) (j:Int)=some [.sl false 4 (dD false (d.flat 0))]:=by rw[bC];simp[uh,hd]
   have c0:NK 4 [D.sl false 4 (dD false (d.flat 0))] 0=some (dD false (d.flat 0)):=rfl;have hll:=amC (L.take j);rw[XE] at hll;have hw:i64.wrap ((j:Int)+1)=((j+1:Nat):Int):=by rw[aB ak ak];omega
   simp only[jI,M.GH,M.zT,hpl,atz,hr,ah,c0,nS,uM,hw];rw[zdt ak,aK,aN ak,aK,aN ak,aK,gu hd,akf])
  (by simp only[jI,M.GH,M.zT,hpl];rw[pq ak,bn,List.take_length]) 0 (Nat.zero_le _)
 have yg:M.Ls (uh L) (0,[])=some ((L.length:Int),Zo L):=hloop;simp only[M.yZ,M.Ov,yg,ah,arP,uZ _ hs,og,aK]
def aAs{u:Tn}(hS:SS u)(hk:20<=u.kind/\u.kind<=34){o:Bool}{f:Nat}{l:List Nd}{b:Nat}(hl:l.length<=1048576)(h:Lies l b u)(hf:6 * u.size+1<=f):
  M.qB f (aZ o l) false ((b+sizes u.kids:Nat):Int)=some (dE (iR u)):=by
 obtain⟨g,rfl⟩:∃g,f=g+1:=⟨f - 1,ak⟩
 have h1:=hS o g l b hl h ak;have n0:(u.kind==40)=false:=by rw[KL];omega
 have n1:(u.kind==41)=false:=by rw[KL];omega
 have n2:(u.kind==42)=false:=by rw[KL];omega
 have n3:(u.kind==43)=false:=by rw[KL];omega
 have n4:(u.kind==44)=false:=by rw[KL];omega
 rw[M.QI];simp only[jI,M.tu,WB h,ah,NJ,PG,Pn,PI,JM,n0,n1,n2,n3,n4,bn,h1]
def aIY{ks:List Tn}{o:Bool}{f:Nat}{l:List Nd}{b:Nat}{D':Tn->Tn}(ih:∀j u,ks[j]? =some u->M.qB f (aZ o l) false ((b+sizes (ks.take j)+sizes u.kids:Nat):Int)=some (dE (D' u)))(hn:ks.length<=1048576):
  M.Fh (f+1) (aZ o l) false (encI (ends ks b))=some ((ks.map D').map aaD):=by
 have hloop:=iY (b:=M.Jm (M.qB f) (encI (ends ks b)) (aZ o l) false) (t:=((ks.length:Int),(ks.map D').map aaD)) (λj=>((j:Int),((ks.take j).map D').map aaD)) ks.length
  (by
   intro j hj;obtain⟨u,hu⟩:∃u,ks[j]? =some u:=⟨ks[j],by simp[hj]⟩
   have hi:=mJ (b:=b) hu;have h1:=ih j u hu;have hw:i64.wrap ((j:Int)+1)=((j+1:Nat):Int):=by rw[aB ak ak];omega
   simp only[jI,M.Jm,M.BX,aV,eX,hi,ah,KT,h1,zaQ,XE,nS,uM,hw];rw[zdt ak,aK,aN ak,aK,aN ak,aK,gu hu,List.map_append,List.map_append];rfl)
  (by simp only[jI,M.Jm,M.BX,aV,eX];rw[pq ak,bn,List.take_length]) 0 (Nat.zero_le _)
 have yg:M.Oq (M.qB f) (encI (ends ks b)) (aZ o l) false (0,[])=some ((ks.length:Int),(ks.map D').map aaD):=hloop;rw[M.aiO];simp only[M.EU,yg,ah]
def amD:∀ks:List Tn,oU ks=ks.map iR
 |[]=>rfl
 |t::ts=>by rw[oU,amD ts];rfl
def aEi{k op:Int}{x y:aC}{ks:List Tn}(ih:∀u,u∈ks->SS u/\(20<=u.kind/\u.kind<=34)){o:Bool}{f:Nat}{l:List Nd}{b:Nat}(hl:l.length<=1048576)(h:Lies l b (.mk k op x y ks))(hf:6 * sizes ks+3<=f)(hu:sizes ks<=1048575)(hz:sizes (oU ks)+2 * ks.length<=40 * sizes ks):
  M.iy f (aZ o l) false ((b+sizes ks:Nat):Int)=some (dE (anQ (oU ks))):=by
 obtain⟨g,rfl⟩:∃g,f=g+1+1:=⟨f - 2,ak⟩
 have hkl:=jC ks;have hr:idx (aZ o l) ((b+sizes ks:Nat):Int)=some (XY o ⟨k,op,x,y,ends ks b⟩):=WB h;have hk:M.Fh (g+1) (aZ o l) false (encI (ends ks b))=some ((oU ks).map aaD):=by rw[amD];refine aIY (λj u hj=> ?_) ak;obtain⟨h1,h2⟩:=ih u (En hj);have:=iO (En hj);exact aAs h1 h2 hl (Lies.SQ h hj) ak
 have hll:=aaq (oU ks);rw[RF] at hll;have hL:=aEh (oU ks) (by rw[RF];omega) ak;have z1:sizes [o9 (Ht (oU ks))]<=90000000:=by simp only[sizes,qj];omega
 have z2:sizes [mZ [123],Zm (o9 (Ht (oU ks))),UG,mZ [125]]<=90000000:=by simp only[sizes,qj,Yn,iw,adR];omega
 rw[M.agw];simp only[M.AX,kH,atz,hr,ah,JM,hk,Ur,hL,og,aK,fz1,an6 _ z1,fz4,uZ _ z2];rfl
set_option maxHeartbeats 4000000 in
def aAt(t:Tn):I8 t->isS t->WH t->t.size<=1048576->SS t/\(t.kind=33->BS t):=by
 refine Tn.ind (P:=λt=>I8 t->isS t->WH t->t.size<=1048576->SS t/\(t.kind=33->BS t)) ?_ t;intro k op x y ks ih hok hs hsm hsz;have hc:=SX hok;simp only[isS,Tn.kind] at hs;rw[WH] at hsm;obtain⟨⟨hx,hy⟩,hss⟩:=hsm;rw[Tn.size] at hsz;have kE:∀{j:Nat} {u:Tn},ks[j]? =some u->cls k op ks.length j=0->Ex' u:=by intro j u hj hcl;obtain⟨h1,h2⟩:=Pq hok hj;rw[hcl] at h1;have:=iO (En hj);exact⟨h2,h1,yU hss (En hj),ak⟩
 have kE3:∀{j:Nat} {u:Tn},ks[j]? =some u->cls k op ks.length j=3->u.kind=16\/Ex' u:=by
  intro j u hj hcl;obtain⟨h1,h2⟩:=Pq hok hj;rw[hcl] at h1;have:=iO (En hj);rcases h1 with h1|h1
  ·exact .inl h1
  ·exact .inr ⟨h2,h1,yU hss (En hj),ak⟩
 have kB:∀{j:Nat} {u:Tn},ks[j]? =some u->cls k op ks.length j=1->BS u/\(iR u).size+2<=40 * u.size:=by intro j u hj hcl;obtain⟨h1,h2⟩:=Pq hok hj;rw[hcl] at h1;have h1':u.kind=33:=h1;have:=iO (En hj);exact⟨(ih u (En hj) h2 (by constructor<;>omega) (yU hss (En hj)) ak).2 h1',Y2 u h2 (by constructor<;>omega)⟩
 have kS:k=33->∀u,u∈ks->SS u/\(20<=u.kind/\u.kind<=34):=by intro e u hu;subst e;obtain⟨j,hj⟩:=List.mem_iff_getElem?.1 hu;obtain⟨h1,h2⟩:=auN hok hj (.inr (by simp[cls]));have:=iO hu;exact⟨(ih u hu h2 h1 (yU hss hu) ak).1,h1⟩
 have hB:k=33->BS (.mk k op x y ks):=by
  intro e o f l b hl h hf;have hz:sizes (oU ks)+2 * ks.length<=40 * sizes ks:=acB λu hu=>by subst e;obtain⟨j,hj⟩:=List.mem_iff_getElem?.1 hu;obtain⟨h1,h2⟩:=auN hok hj (.inr (by simp[cls]));exact Y2 u h2 h1
  have h1:=aEi (k:=k) (op:=op) (x:=x) (y:=y) (kS e) (o:=o) (f:=f) hl h (by rw[Tn.size] at hf;omega) ak hz;have h2:iR (.mk k op x y ks)=anQ (oU ks):=by rw[iR,e];rfl
  rw[h2];exact h1
 refine⟨λo f l b hl h hf=> ?_,hB⟩;have hbk:∀f,6 * (sizes ks+1)<=f+3->k=33->M.iy f (aZ o l) false ((b+sizes ks:Nat):Int)=some (dE (iR (.mk k op x y ks))):=λf hf e=>hB e o f l b hl h (by rw[Tn.size];exact hf)
 rw[Tn.size] at hf;obtain⟨g,rfl⟩:∃g,f=g+1:=⟨f - 1,ak⟩
 have aE:∀(h:∀j,cls k op ks.length j=0),∀u,u∈ks->Ex' u:=by intro h u hu;obtain⟨j,hj⟩:=List.mem_iff_getElem?.1 hu;exact kE hj (h j)
 have hat:At l b ks:=λj u hj=>Lies.SQ h hj
 have hr:idx (aZ o l) ((b+sizes ks:Nat):Int)=some (XY o ⟨k,op,x,y,ends ks b⟩):=WB h;have hel:(encI (ends ks b)).length=ks.length:=by rw[aV,eX]
 rw[M.aiQ,Tn.kids];have hk:k=20\/k=21\/k=22\/k=25\/k=26\/k=23\/k=24\/k=27\/k=28\/k=29\/k=30\/k=31\/k=32\/k=33\/k=34:=ak;rcases hk with rfl|rfl|rfl|rfl|rfl|rfl|rfl|rfl|rfl|rfl|rfl|rfl|rfl|rfl|rfl
 ·obtain⟨u,rfl⟩:=zlo.1 (hc.one ak);have i0:=mJ (ks:=[u]) (b:=b) (j:=0) (u:=u) rfl;have h0:=Y9 (o:=o) hl (kE (j:=0) (u:=u) rfl (by simp[cls])) (hat 0 u rfl);rw[oQ] at i0;simp only[jI,M.fP,hr,NJ,PG,Pn,PI,JM,Int.reduceBEq,aK,bn,i0,KT,ah,Ed.2,h0];rw[iR];rfl
 ·have h0:=aYe (o:=o) hl (aE (λj=>by simp[cls])) hat ak op x y (hc.prn rfl).1 (hc.prn rfl).2 hy;simp only[jI,M.fP,hr,NJ,PG,Pn,PI,JM,Int.reduceBEq,aK,bn,ah,h0];rw[iR];rfl
 ·simp only[jI,M.fP,hr,NJ,PG,Pn,PI,JM,Int.reduceBEq,aK,bn,ah,kH];rw[iR];rfl
 ·simp only[jI,M.fP,hr,NJ,PG,Pn,PI,JM,Int.reduceBEq,aK,bn,ah,kH];rw[iR];rfl
 ·simp only[jI,M.fP,hr,NJ,PG,Pn,PI,JM,Int.reduceBEq,aK,bn,ah,kH];rw[iR];rfl
 ·have h0:=aFW (o:=o) hl (aE (λj=>by simp[cls])) hat [101,120,105,116];simp only[jI,M.fP,hr,NJ,PG,Pn,PI,JM,Int.reduceBEq,aK,bn,ah,h0];rw[iR];rfl
 ·have h0:=aFW (o:=o) hl (aE (λj=>by simp[cls])) hat [114,101,116,117,114,110];simp only[jI,M.fP,hr,NJ,PG,Pn,PI,JM,Int.reduceBEq,aK,bn,ah,h0];rw[iR];rfl
 ·have h0:=aAr (o:=o) hl (aE (λj=>by simp[cls])) hat ak (p:=.top) rfl;have h1:=Px .top ks;simp only[Ps.top] at h0 h1;rw[iR];cases ks with
  |nil=>simp(disch:=omega) only[jI,M.fP,hr,NJ,PG,Pn,PI,JM,Int.reduceBEq,aK,bn,hel,uM,ah,kH,Dt,show((((0:Nat):Int))==0)=true from rfl];rfl
  |cons u t=>
   have e0:((((u::t).length:Nat):Int)==0)=false:=by rw[KL,nS];omega
   have z1:sizes [mZ ([100,101,108,101,116,101,32]++x++[91]),RX ⟨1,false,false,false,false⟩ (u::t),mZ [93]]<=90000000:=by simp only[sizes,iw] at *;omega
   have r1:(7+x.length).ble 9223372036854775807=true:=Dt ak;have r2:(([100,101,108,101,116,101,32]++x).length+1).ble 9223372036854775807=true:=Dt (by simp only[qK,nS,uM];omega);simp only[jI,M.fP,hr,NJ,PG,Pn,PI,JM,Int.reduceBEq,aK,bn,hel,e0,r1,r2,ah,kH,Ed.2,h0,fz3,uZ _ z1,og];rfl
 ·rw[iR];obtain⟨g',rfl⟩:∃g',g=g'+1:=⟨g - 1,ak⟩
  rcases hc.cnd rfl with h2|h3
  ·obtain⟨u,v,rfl⟩:=Py h2;have hs2:=sz2 u v;have i0:=mJ (ks:=[u,v]) (b:=b) (j:=0) (u:=u) rfl;have i1:=mJ (ks:=[u,v]) (b:=b) (j:=1) (u:=v) rfl;rw[oQ] at i0;rw[Y7] at i1;have e0:=kE (j:=0) (u:=u) rfl (by simp[cls]);have h0:=Y9 (o:=o) hl e0 (hat 0 u rfl);have s0:=nZ u .top;obtain⟨h1,s1⟩:=kB (j:=1) (u:=v) rfl (by simp[cls]);have h1':=h1 o g' l _ hl (hat 1 v rfl) ak;have e2:((([u,v]:List Tn).length:Int)==2)=true:=rfl;have z1:sizes [mZ [105,102,32,40],MQ u,mZ [41,32],iR v]<=90000000:=by simp only[sizes,iw,MQ] at *;omega
   simp only[jI,M.fP,hr,NJ,PG,Pn,PI,JM,Int.reduceBEq,aK,bn,M.adk,M.GN,hel,e2,i0,i1,KT,ah,kH,Ed.2,h0,h1',fz4,uZ _ z1,og];rfl
  ·obtain⟨u,v,z,rfl⟩:=Yp h3;have hs3:=sz3 u v z;have i0:=mJ (ks:=[u,v,z]) (b:=b) (j:=0) (u:=u) rfl;have i1:=mJ (ks:=[u,v,z]) (b:=b) (j:=1) (u:=v) rfl;have i2:=mJ (ks:=[u,v,z]) (b:=b) (j:=2) (u:=z) rfl;rw[oQ] at i0;rw[Y7] at i1;rw[awt] at i2;have e0:=kE (j:=0) (u:=u) rfl (by simp[cls]);have h0:=Y9 (o:=o) hl e0 (hat 0 u rfl);have s0:=nZ u .top;obtain⟨h1,s1⟩:=kB (j:=1) (u:=v) rfl (by simp[cls]);have h1':=h1 o g' l _ hl (hat 1 v rfl) ak;obtain⟨h2,s2⟩:=kB (j:=2) (u:=z) rfl (by simp[cls]);have h2':=h2 o g' l _ hl (hat 2 z rfl) ak;have e2:((([u,v,z]:List Tn).length:Int)==2)=false:=rfl;have z1:sizes [mZ [105,102,32,40],MQ u,mZ [41,32],iR v]<=90000000:=by simp only[sizes,iw,MQ] at *;omega
   have z2:sizes [o9 [mZ [105,102,32,40],MQ u,mZ [41,32],iR v],mZ [32,101,108,115,101,32],iR z]<=90000000:=by simp only[sizes,iw,qj,MQ] at *;omega
   simp only[jI,M.fP,hr,NJ,PG,Pn,PI,JM,Int.reduceBEq,aK,bn,M.adk,M.GN,hel,e2,i0,i1,i2,KT,ah,kH,Ed.2,h0,h1',h2',fz4,fz3,uZ _ z1,uZ _ z2,og];rfl
 ·rw[iR];obtain⟨u,v,rfl⟩:=Py (hc.two ak);have hs2:=sz2 u v;have i0:=mJ (ks:=[u,v]) (b:=b) (j:=0) (u:=u) rfl;have i1:=mJ (ks:=[u,v]) (b:=b) (j:=1) (u:=v) rfl;rw[oQ] at i0;rw[Y7] at i1;have e0:=kE (j:=0) (u:=u) rfl (by simp[cls]);have h0:=Y9 (o:=o) hl e0 (hat 0 u rfl);have s0:=nZ u .top;obtain⟨h1,s1⟩:=kB (j:=1) (u:=v) rfl (by simp[cls]);have h1':=h1 o g l _ hl (hat 1 v rfl) ak;have z1:sizes [mZ [119,104,105,108,101,32,40],MQ u,mZ [41,32],iR v]<=90000000:=by simp only[sizes,iw,MQ] at *;omega
  simp only[jI,M.fP,hr,NJ,PG,Pn,PI,JM,Int.reduceBEq,aK,bn,i0,i1,KT,ah,kH,Ed.2,h0,h1',fz4,uZ _ z1,og];rfl
 ·rw[iR];obtain⟨u,v,rfl⟩:=Py (hc.two ak);have hs2:=sz2 u v;have i0:=mJ (ks:=[u,v]) (b:=b) (j:=0) (u:=u) rfl;have i1:=mJ (ks:=[u,v]) (b:=b) (j:=1) (u:=v) rfl;rw[oQ] at i0;rw[Y7] at i1;have e0:=kE (j:=1) (u:=v) rfl (by simp[cls]);have h0:=Y9 (o:=o) hl e0 (hat 1 v rfl);have s0:=nZ v .top;obtain⟨h1,s1⟩:=kB (j:=0) (u:=u) rfl (by simp[cls]);have h1':=h1 o g l _ hl (hat 0 u rfl) ak;have z1:sizes [mZ [100,111,32],iR u,mZ [32,119,104,105,108,101,32,40],MQ v,mZ [41]]<=90000000:=by simp only[sizes,iw,MQ] at *;omega
  simp only[jI,M.fP,hr,NJ,PG,Pn,PI,JM,Int.reduceBEq,aK,bn,i0,i1,KT,ah,kH,Ed.2,h0,h1',fz5,uZ _ z1,og];rfl
 ·rw[iR];obtain⟨g',rfl⟩:∃g',g=g'+1:=⟨g - 1,ak⟩
  obtain⟨u,v,z,q,rfl⟩:=anS (hc.four rfl);have hs4:sizes [u,v,z,q]=u.size+(v.size+(z.size+q.size)):=by simp[sizes]
  have a6F:((3:Nat):Int)=3:=rfl;have i0:=mJ (ks:=[u,v,z,q]) (b:=b) (j:=0) (u:=u) rfl;have i1:=mJ (ks:=[u,v,z,q]) (b:=b) (j:=1) (u:=v) rfl;have i2:=mJ (ks:=[u,v,z,q]) (b:=b) (j:=2) (u:=z) rfl;have i3:=mJ (ks:=[u,v,z,q]) (b:=b) (j:=3) (u:=q) rfl;rw[oQ] at i0;rw[Y7] at i1;rw[awt] at i2;rw[a6F] at i3;have s1:=VF v;have s2:=VF z;have h1:=atB (o:=o) hl (kE3 (j:=1) (u:=v) rfl (by simp[cls])) (hat 1 v rfl);have h2:=atB (o:=o) hl (kE3 (j:=2) (u:=z) rfl (by simp[cls])) (hat 2 z rfl);obtain⟨h3,s3⟩:=kB (j:=3) (u:=q) rfl (by simp[cls]);have h3':=h3 o g' l _ hl (hat 3 q rfl) ak;have hr0:=WB (o:=o) (hat 0 u rfl);rcases kE3 (j:=0) (u:=u) rfl (by simp[cls]) with h0|h0
  ·have n0:(u.kind !=16)=false:=by simp[h0]
   have ha:agO 31 op x y [u,v,z,q] (oU [u,v,z,q])=o9 [mZ [102,111,114,32,40],mZ [],mZ [59],WA v,mZ [59],WA z,mZ [41,32],iR q]:=by simp[agO,Aq,zB,oU,h0]
   have z1:sizes [mZ [102,111,114,32,40],mZ [],mZ [59],WA v,mZ [59],WA z,mZ [41,32],iR q]<=90000000:=by simp only[sizes,iw] at *;omega
   rw[ha];simp only[jI,M.fP,hr,NJ,PG,Pn,PI,JM,Int.reduceBEq,aK,bn,M.abn,M.Ea,M.Ko,i0,i1,i2,i3,KT,hr0,n0,ah,kH,h1,h2,h3',fz8,uZ _ z1,og]
  ·have n0:(u.kind !=16)=true:=by have:=h0.e;unfold Zv at this;simp only[bne_iff_ne];omega
   have n1:(u.kind==16)=false:=by simpa using n0
   have ha:agO 31 op x y [u,v,z,q] (oU [u,v,z,q])=o9 [mZ [102,111,114,32,40],Dn u ⟨1,false,true,false,false⟩,mZ [59],WA v,mZ [59],WA z,mZ [41,32],iR q]:=by simp[agO,Aq,zB,oU,n1]
   have s0:=nZ u ⟨1,false,true,false,false⟩;have he:=aIX (o:=o) hl h0 (hat 0 u rfl) (p:=⟨1,false,true,false,false⟩) rfl;have z1:sizes [mZ [102,111,114,32,40],Dn u ⟨1,false,true,false,false⟩,mZ [59],WA v,mZ [59],WA z,mZ [41,32],iR q]<=90000000:=by simp only[sizes,iw] at *;omega
   rw[ha];simp only[jI,M.fP,hr,NJ,PG,Pn,PI,JM,Int.reduceBEq,aK,bn,M.abn,M.Ea,M.Ko,i0,i1,i2,i3,KT,hr0,n0,he,ah,kH,h1,h2,h3',fz8,uZ _ z1,og]
 ·rw[iR];obtain⟨u,rfl⟩:=zlo.1 (hc.one ak);have hs1:=sz1 u;have i0:=mJ (ks:=[u]) (b:=b) (j:=0) (u:=u) rfl;rw[oQ] at i0;obtain⟨h1,s1⟩:=kB (j:=0) (u:=u) rfl (by simp[cls]);have h1':=h1 o g l _ hl (hat 0 u rfl) ak;have z1:sizes [mZ ([102,111,114,32,40]++x++[32,105,110,32]++y++[41,32]),iR u]<=90000000:=by simp only[sizes,iw] at *;omega
  simp(disch:=first|omega|(simp only[qK,nS,uM];omega)) only[jI,M.fP,hr,NJ,PG,Pn,PI,JM,Int.reduceBEq,aK,bn,i0,KT,ah,kH,h1',fz2,uZ _ z1,og,Dt];rfl
 ·have h0:=hbk g ak rfl;simp only[jI,M.fP,hr,NJ,PG,Pn,PI,JM,Int.reduceBEq,aK,bn,ah,h0]
 ·simp only[jI,M.fP,hr,NJ,PG,Pn,PI,JM,Int.reduceBEq,aK,bn,ah,kH];rw[iR];rfl
section
variable {o:Bool} {l:List Nd} {b:Nat} (hl:l.length<=1048576)
include hl
theorem aAu{u:Tn}(h:Bk u)(hh:Lies l b u){f:Nat}(hf:6 * u.size<=f+3):M.iy f (aZ o l) false ((b+sizes u.kids:Nat):Int)=some (dE (iR u)):=by have hk:=h.k;exact(aAt u h.ok (by constructor<;>omega) h.sm h.sz).2 hk o f l b hl hh hf
theorem aIZ{ks:List Tn}(h:∀u,u∈ks->Bk u\/Ex' u)(hat:At l b ks)(hn:ks.length<=1000)(hz:sizes (Ir ks true)<=90000000){f:Nat}(hf:6 * sizes ks<=f+3)(k op:Int)(x y:aC):
  M.x9 (M.iy f) (aZ o l) false k op x y (encI (ends ks b)) some=some (dE (o9 (Ir ks true))):=by
 have hel:(encI (ends ks b)).length=ks.length:=by rw[aV,eX]
 have hloop:=iY (b:=M.GL (M.iy f) (aZ o l) false k op x y (encI (ends ks b))) (t:=((ks.length:Int),(Ir ks true).map aaD)) (λj=>((j:Int),(Ir (ks.take j) true).map aaD)) ks.length
  (by
   intro j hj;obtain⟨u,hu'⟩:∃u,ks[j]? =some u:=⟨ks[j],by simp[hj]⟩
   have hi:=mJ (b:=b) hu';have hlu:=hat j u hu';have hr:=WB (o:=o) hlu;have hus:=iO (En hu');have hll:=ae0 (ks.take j) true;rw[XE] at hll;have hw:i64.wrap ((j:Int)+1)=((j+1:Nat):Int):=by rw[aB ak ak];omega
   have he:(ks.take j).isEmpty=decide (j=0):=by
    cases j with
    |zero=>rfl
    |succ j=>cases ks with
     |nil=>simp at hj
     |cons a l=>rfl
   simp only[M.GL,M.zW,M.yw,M.yx,hel,hi,hr,KT,NJ,ah];rw[zdt ak,aK,gu hu',acE,he,Bool.and_true,List.map_append,amj];rcases h u (En hu') with hb|hb
   ·have h1:=aAu (o:=o) hl hb hlu (f:=f) ak;rw[hb.keq]
    by_cases h0:j=0
    ·subst h0;simp(disch:=omega) only[aK,bn,kH,h1,ah,zaQ,qK,nS,uM,hw,aN];rfl
    ·rw[zdt (show(j:Int)>0 by omega),pq h0];simp(disch:=omega) only[aK,bn,kH,h1,ah,zaQ,qK,nS,uM,hw,aN,NI];rfl
   ·have h1:=Y9 (o:=o) hl hb hlu;rw[hb.kne]
    by_cases h0:j=0
    ·subst h0;simp(disch:=omega) only[aK,bn,kH,Ed.2,h1,ah,zaQ,qK,nS,uM,hw,aN];rfl
    ·rw[zdt (show(j:Int)>0 by omega),pq h0];simp(disch:=omega) only[aK,bn,kH,Ed.2,h1,ah,zaQ,qK,nS,uM,hw,aN,NI];rfl)
  (by simp only[M.GL,M.zW,M.yw,M.yx,hel];rw[pq ak,bn,List.take_length]) 0 (Nat.zero_le _)
 have yg:M.LD (M.iy f) (aZ o l) false k op x y (encI (ends ks b)) (0,[])=some ((ks.length:Int),(Ir ks true).map aaD):=hloop;simp only[M.x9,yg,ah,Ur,uZ _ hz,og,aK]
theorem aI0{ks:List Tn}(ht:∀u,u∈ks->u.text.length<=1048576)(h1:1<=ks.length)(h7:ks.length<=7){v:Tn}(hv:ks[ks.length - 1]? =some v)(hb:Bk v)(hat:At l b ks){f:Nat}(hf:6 * sizes ks<=f+3)(k op:Int){x:aC}(hx:x.length<=1048576)(y:aC):
  M.zX (M.iy f) (aZ o l) false k op x y (encI (ends ks b)) some=some (dE (o9 [mZ (Zn x ks++[32]),iR v])):=by
 have hel:(encI (ends ks b)).length=ks.length:=by rw[aV,eX]
 have hw0:i64.wrap ((ks.length:Int) - 1)=((ks.length - 1:Nat):Int):=by rw[aB ak ak];omega
 have hvs:=iO (En hv);have hhead:=amx ht h1 h7 hx;have hmm:∀m:Nat,∀z,z∈(ks.take m).map Tn.text->z.length<=1048576:=by intro m z hz;obtain⟨u,hu,rfl⟩:=List.mem_map.1 hz;exact ht u (List.mem_of_mem_take hu)
 have hjl:∀m:Nat,(KD ((ks.take m).map Tn.text) true).length<=8000000:=by intro m;have h2:=aaU _ true (hmm m);rw[zaQ,XE] at h2;have h3:(1048576+2) * min m ks.length<=(1048576+2) * 7:=Nat.mul_le_mul_left _ ak;omega
 have hloop:=iY (b:=M.Jq (M.iy f) ((ks.length - 1:Nat):Int) (aZ o l) false k op x y (encI (ends ks b))) (t:=(([102,117,110,99,116,105,111,110,32]++x++[40])++KD ((ks.take (ks.length - 1)).map Tn.text) true,((ks.length - 1:Nat):Int))) (λj=>(([102,117,110,99,116,105,111,110,32]++x++[40])++KD ((ks.take j).map Tn.text) true,(j:Int))) (ks.length - 1)
  (by
   intro j hj;obtain⟨u,hu'⟩:∃u,ks[j]? =some u:=⟨ks[j],by simp[show j<ks.length by omega]⟩
   have hi:=mJ (b:=b) hu';have hlu:=hat j u hu';have hr:=WB (o:=o) hlu;have hq:=hjl j;have htu:=ht u (En hu');have hw:i64.wrap ((j:Int)+1)=((j+1:Nat):Int):=by rw[aB ak ak];omega
   have he:((ks.take j).map Tn.text).isEmpty=decide (j=0):=by
    cases j with
    |zero=>rfl
    |succ j=>cases ks with
     |nil=>simp at hj
     |cons a l=>rfl
   simp only[M.Jq,M.Cj,hi,hr,KT,Pn,ah,hw];rw[zdt ak,aK,gu hu',List.map_append,RQ,List.map_nil,ajX,he,Bool.and_true]
   by_cases h0:j=0
   ·subst h0;rw[pq ak,bn,aN (by simp only[qK,nS,uM];omega),aK,zdt rfl,aK,NI]
   ·rw[zdt ak,aK,aN (by simp only[qK,nS,uM];omega),aK,aN (by simp only[qK,nS,uM];omega),aK,pq h0,bn];simp only[NI])
  (by simp only[M.Jq,M.Cj];rw[pq ak,bn]) 0 (Nat.zero_le _)
 have e0:([102,117,110,99,116,105,111,110,32]++x++[40])++KD ((ks.take 0).map Tn.text) true=[102,117,110,99,116,105,111,110,32]++x++[40]:=by rw[List.take_zero];simp[KD]
 rw[e0] at hloop;have yg:M.OA (M.iy f) ((ks.length - 1:Nat):Int) (aZ o l) false k op x y (encI (ends ks b)) ([102,117,110,99,116,105,111,110,32]++x++[40],0)=some (([102,117,110,99,116,105,111,110,32]++x++[40])++KD ((ks.take (ks.length - 1)).map Tn.text) true,((ks.length - 1:Nat):Int)):=hloop;have hi:=mJ (b:=b) hv;have hblk:=aAu (o:=o) hl hb (hat _ v hv) (f:=f) ak;have hq:=hjl (ks.length - 1);have hbs:=hb.size;have hbz:=hb.sz;have eh:([102,117,110,99,116,105,111,110,32]++x++[40])++KD ((ks.take (ks.length - 1)).map Tn.text) true++[41,32]=Zn x ks++[32]:=by rw[Zn];simp
 have z1:sizes [mZ (Zn x ks++[32]),iR v]<=90000000:=by simp only[sizes,iw];omega
 simp only[M.zX,hel,hw0,yg,ah];rw[aN ak,aK,aN (by simp only[qK,nS,uM];omega),aK,aN (by simp only[qK,nS,uM];omega),aK,eh];simp only[kH,hi,KT,hblk,ah,fz2,uZ _ z1,og,aK]
theorem aI1{t:Tn}(hi:It t)(hh:Lies l b t):M.oq (aZ o l) false ((b+sizes t.kids:Nat):Int)=some (dE (itemD t)):=by
 have hss:=aav hi.sm;have hks:=t.vk;have hts:=adV hi.sm;have hz:=aj8 hi.ok hi.i hi.sm hi.sz;have htz:=hi.sz;have hr:=WB (o:=o) hh;have hat:At l b t.kids:=by obtain⟨k,op,x,y,ks⟩:=t;exact λj u hj=>Lies.SQ hh hj
 have hN:∀{r:au},M.qB (6 * t.size+2) (aZ o l) false ((b+sizes t.kids:Nat):Int)=some r->M.oq (aZ o l) false ((b+sizes t.kids:Nat):Int)=some r:=λh=>M.agy h
 rcases Y8 hi.ok hi.i hi.sm hi.sz with⟨u,hk,hu,hb⟩|⟨hk,hn,hb⟩|⟨hk,h1,h7,u,hu,hn,hb⟩|hk
 ·refine hN ?_;rw[M.QI];unfold itemD;rw[hu] at hat hr|-;have i0:=mJ (ks:=[u]) (b:=b) (j:=0) (u:=u) rfl;rw[oQ] at i0;have h2:=hb.size;have h3:=hb.sz;rw[hu,sizes,sizes] at hks;have hblk:=aAu (o:=o) hl hb (hat 0 u rfl) (f:=6 * t.size+1) ak;have z1:∀s,sizes [mZ s,iR u]<=90000000:=λs=>by simp only[sizes,iw];omega
  have e0:Aq [u] 0=u:=rfl;rcases hk with hk|hk<;>simp only[jI,M.tu,hr,hk,NJ,PG,Pn,PI,JM,Int.reduceBEq,aK,bn,kH,i0,KT,hblk,ah,fz2,uZ _ (z1 _),og,e0]
 ·refine hN ?_;have h2:=acF _ true hb;have hru:=aIZ (o:=o) hl hb hat ak ak (f:=6 * t.size) ak t.kind t.op t.text t.other;rw[M.QI];unfold itemD;rcases hk with hk|hk<;>rw[hk] at hru<;>simp only[jI,M.tu,hr,hk,NJ,PG,Pn,PI,JM,Int.reduceBEq,aK,bn,M.agx,hru,ah,Bool.true_or,Bool.or_true]
 ·refine hN ?_;have hfu:=aI0 (o:=o) hl (aj7 hss) h1 h7 hu hb hat (f:=6 * t.size) ak t.kind t.op hts t.other;rw[M.QI];unfold itemD;rw[hk] at hfu;simp only[jI,M.tu,hr,hk,NJ,PG,Pn,PI,JM,Int.reduceBEq,aK,bn,M.aiP,hfu,ah,Bool.or_false,hn]
 ·have hS:=(aAt t hi.ok (by constructor<;>omega) hi.sm hi.sz).1;have h2:=aAs hS ak (o:=o) (f:=6 * t.size+2) hl hh ak;have e1:itemD t=iR t:=by unfold itemD;rw[hk];rfl
  rw[e1];exact hN h2
end
def awx{l:List Nd}{o:Bool}(hl:l.length<=1048576)(t:Tn):∀(f b:Nat),Lies l b t->t.size<=f->
  M.kD f (aZ o l) ((b+sizes t.kids:Nat):Int)=some (t.kind,t.op,t.text,t.other,fG true t.kids):=by
 refine Tn.ind (P:=λt=>∀(f b:Nat),Lies l b t->t.size<=f->M.kD f (aZ o l) ((b+sizes t.kids:Nat):Int)=some (t.kind,t.op,t.text,t.other,fG true t.kids)) ?_ t;intro k op x y ks ih f b h hf;cases f with
 |zero=>rw[Tn.size] at hf;omega
 |succ f=>
  have hroot:l[b+sizes ks]? =some ⟨k,op,x,y,ends ks b⟩:=h.root;have hlt:=h.lt;rw[Tn.size] at hf hlt;have hkl:=jC ks;simp only[jI,M.kD,M.II,bC,ql,Tn.kids,Tn.kind,Tn.op,Tn.text,Tn.other,hroot,O9,ah,NJ,PG,Pn,PI,JM,aV,eX];have hrec:∀j t,ks[j]? =some t->M.kD f (aZ o l) ((b+sizes (ks.take j)+sizes t.kids:Nat):Int)=some (t.kind,t.op,t.text,t.other,fG true t.kids):=λj t hj=>ih t (En hj) f _ (Lies.SQ h hj) (by have:=KA hj;omega)
  have hloop:=iY (b:=M.mY (M.kD f))
   (t:=if ks=[] then .inl (aZ o l,encI (ends ks b),(ks.length:Int),0,0,0,[],[],k,op,x,y) else .inr (aZ o l,encI (ends ks b),(ks.length:Int),(ks.length:Int),0,0,[],[],k,op,x,y,fG true ks))
   (λj=>if j=0 then .inl (aZ o l,encI (ends ks b),(ks.length:Int),0,0,0,[],[],k,op,x,y) else .inr (aZ o l,encI (ends ks b),(ks.length:Int),(j:Int),0,0,[],[],k,op,x,y,fG true (ks.take j))) ks.length
   (by
    intro j hj;obtain⟨t,ht⟩:∃t,ks[j]? =some t:=⟨ks[j],by simp⟩
    have hr:=hrec j t ht;have he:=YV (b:=b) ht;rw[if_neg (show¬j+1=0 by omega),atc ht,aIr]
    by_cases h0:j=0
    ·subst h0;rw[if_pos rfl];have hi:idx (encI (ends ks b)) 0=some [D.int .i64 ((b+sizes (ks.take 0)+sizes t.kids:Nat):Int)]:=by have:=bC (encI (ends ks b)) 0;rw[oQ] at this;rw[this,lC,he];rfl
     simp only[jI,M.mY,M.mX,hi,ah,KT,hr];rw[zdt ak,aK];rfl
    ·rw[if_neg h0];simp only[jI,M.mY,M.mX,bC,lC,he,O9,ah,KT,hr,gW,XE,IU];rw[zdt ak,aK,aN ak,aK,aN ak,aK,aB ak ak];rfl)
   (by
    by_cases h0:ks.length=0
    ·have he:ks=[]:=List.length_eq_zero_iff.1 h0;rw[if_pos h0,if_pos he];simp only[jI,M.mY,M.mX];rw[pq ak,bn]
    ·have he:¬ks=[]:=λe=>h0 (by rw[e];rfl)
     rw[if_neg h0,if_neg he,List.take_length];simp only[jI,M.mY,M.mX];rw[pq ak,bn]) 0 (Nat.zero_le _)
  rw[if_pos rfl] at hloop;rw[M.Ku,hloop,ah]
  by_cases he:ks=[]
  ·rw[if_pos he,he];rfl
  ·rw[if_neg he];rfl
def arQ{l:List Nd}{o:Bool}(hl:l.length<=1048576){t:Tn}{b:Nat}(h:Lies l b t):M.qW (aZ o l) ((b+sizes t.kids:Nat):Int)=some (t.kind,t.op,t.text,t.other,fG true t.kids):=
 M.ZY (awx hl t t.size b h (zaP _))
def awy{t:Tn}{o:Bool}(hl:t.size<=1048576):M.wX (aZ o (t.flat 0))=some (t.kind,t.op,t.text,t.other,fG true t.kids):=by have hs:=t.vk;simp only[M.wX,M.NU,jH,t.flat_length];have h:=arQ (o:=o) (by rw[t.flat_length];omega) (Lies.whole t);rw[Nat.zero_add] at h;rw[aB ak ak,show(t.size:Int) - 1=((sizes t.kids:Nat):Int) by omega,h,ah]
def aAv(t:Tn)(h:t.size<=90000000):M.wC t.kind t.op t.text (oG false t.kids) 0=some (dD true (t.flat 0)):=by have h1:=aX4 t t.size false [] (zaP _) (by simp only[uM];omega);have e0:dD true []=[]:=rfl;rw[e0,List.nil_append,uM] at h1;simp only[M.wC,M.O1,M.agL h1,ah]
def last_at{T:Tn}(hT:T.size<=1048576):i64.wrap (((T.flat 0).length:Int) - 1)=((0+sizes T.kids:Nat):Int):=by have:=T.vk;rw[T.flat_length,aB ak ak];omega
structure Pr(T:Tn):Prop where
 ok:I8 T
 k:T.kind=45
 sm:WH T
 sz:T.size<=1048576
def Pr.its{T:Tn}(h:Pr T):∀u,u∈T.kids->It u:=aIV h.ok h.k h.sm h.sz
def akg{T:Tn}(h:Pr T):(Ym T).size<=42000000:=by have h1:=afZ h.its;have h2:=T.vk;have h3:=h.sz;rw[Ym,qj];omega
def aI2{T:Tn}(h:Pr T):M.G8 (fG false T.kids) (T.kids.length:Int) (0,[])=some ((T.kids.length:Int),oG false (I4 T.kids)):=by
 have hks:=T.vk;have hz:=h.sz;obtain⟨ks,hk⟩:∃ks,T.kids=ks:=⟨_,rfl⟩
 have its:=h.its;rw[hk] at its hks|-;have hkl:=jC ks;exact iY (b:=M.CZ (fG false ks) (ks.length:Int)) (t:=((ks.length:Int),oG false (I4 ks))) (λj=>((j:Int),oG false (I4 (ks.take j)))) ks.length
  (by
   intro j hj;obtain⟨u,hu'⟩:∃u,ks[j]? =some u:=⟨ks[j],by simp[hj]⟩
   obtain⟨c0,c1,c2,c3,c4⟩:=kG false u;have hu:=its u (En hu');have h1:=aIU hu.ok hu.i hu.sm hu.sz false;have hl:=acG (ks.take j);rw[XE] at hl;have hw:i64.wrap ((j:Int)+1)=((j+1:Nat):Int):=by rw[aB ak ak];omega
   simp only[jI,M.CZ,M.xE,FP false hu',c0,c1,c2,c3,c4,ah,atx,h1,MW,MX,MZ,Nh,Nj,Nl,fO,yS,nS,uM,hw];rw[zdt ak,aK,aN ak,aK,aN ak,aK,gu hu',aaA,Hw];rfl)
  (by simp only[jI,M.CZ,M.xE];rw[pq ak,bn,List.take_length]) 0 (Nat.zero_le _)
def aI3{T:Tn}(h:Pr T):M.GR (aZ false (T.flat 0)) (aZ false (T.flat 0)) false (0,[])=some ((T.kids.length:Int),(I4 T.kids).map aaD):=by
 have hks:=T.vk;have hz:=h.sz;have hr:=WB (o:=false) (Lies.whole T);have hen:((aZ false (T.flat 0)).length:Int)=((T.flat 0).length:Int):=by rw[jH]
 have hla:=last_at hz;have its:=h.its;have hat:At (T.flat 0) 0 T.kids:=by obtain⟨k,op,x,y,ks⟩:=T;exact λj u hj=>Lies.SQ (Lies.whole _) hj
 have hfl:(T.flat 0).length<=1048576:=by rw[T.flat_length];exact hz
 obtain⟨ks,hk⟩:∃ks,T.kids=ks:=⟨_,rfl⟩
 rw[hk] at its hks hla hr hat|-;have hkl:=jC ks;have hel:(encI (ends ks 0)).length=ks.length:=by rw[aV,eX]
 exact iY (b:=M.Cm (aZ false (T.flat 0)) (aZ false (T.flat 0)) false) (t:=((ks.length:Int),(I4 ks).map aaD)) (λj=>((j:Int),(I4 (ks.take j)).map aaD)) ks.length
  (by
   intro j hj;obtain⟨u,hu'⟩:∃u,ks[j]? =some u:=⟨ks[j],by simp[hj]⟩
   have hi:=mJ (b:=0) hu';have h1:=aI1 (o:=false) hfl (its u (En hu')) (hat j u hu');have hl:=acG (ks.take j);rw[XE] at hl;have hw:i64.wrap ((j:Int)+1)=((j+1:Nat):Int):=by rw[aB ak ak];omega
   simp only[jI,M.Cm,M.xw,hen,hla,hr,JM,hel,hi,KT,h1,atz,ah,zaQ,nS,uM,hw];rw[zdt ak,aK,aN ak,aK,aN ak,aK,gu hu',aaA,List.map_append];rfl)
  (by simp only[jI,M.Cm,M.xw,hen,hla,hr,JM,hel,ah];rw[pq ak,bn,List.take_length]) 0 (Nat.zero_le _)
def ak3{l:List Nd}(h:Ok l):(M.oN (aZ false l)=some (dD true [])/\M.oO (aZ false l)=some (dD true []))\/∃T,Pr T/\M.oN (aZ false l)=some (dE (Ym T))/\M.oO (aZ false l)=some (dE (Ym T)):=by
 have a1:=ajv l false (by have:=h.len;omega) h.k h.sm;have a2:=ajw l false (by have:=h.len;omega) h.k h.sm;simp only[M.oN,M.Jr,M.oO,M.JD,M.zF,M.Lm,M.zI,M.L6,a1,a2,ah];cases pa:YT l with
 |false=>exact .inl ⟨rfl,rfl⟩
 |true=>
  obtain⟨T,rfl,hTs⟩:=asP (anU pa);have hT:T.size<=1048576:=by have:=h.len;rwa [T.flat_length] at this
  have hok:=atp pa h.sm;have hsm:=(auV T 0).2 h.sm;have hr:=WB (o:=false) (Lies.whole T);have hen:((aZ false (T.flat 0)).length:Int)=((T.flat 0).length:Int):=by rw[jH]
  have hb:=awy (t:=T) (o:=false) hT;simp only[aK,hen,last_at hT,hr,ah,NJ]
  by_cases hk:T.kind=45
  ·have hP:Pr T:=⟨hok,hk,hsm,hT⟩
   have e1:(T.kind==45)=true:=by rw[hk];rfl
   have hs:=akg hP;have h1:=aI2 hP;have h2:=aI3 hP;have h3:=aAv (Ym T) ak;have hz:sizes (I4 T.kids)<=90000000:=by rw[Ym,qj] at hs;omega
   refine .inr ⟨T,hP, ?_, ?_⟩
   ·simp only[e1,zaO,bn,h2,ah,Ur,uZ _ hz,og,aK];rfl
   ·simp only[e1,zaO,bn,hb,aip,gW,h1,ah,arJ,MW,MX,MZ,Nh,Nj,Nl];exact(by rw[h3];rfl:(M.wC (Ym T).kind (Ym T).op (Ym T).text (oG false (Ym T).kids) 0).bind (λr=>some r)=some (dE (Ym T)))
  ·have e1:(T.kind==45)=false:=by rw[KL];exact hk
   simp only[e1];exact .inl ⟨rfl,rfl⟩
def Za(k n:Int)(x:aC)(c:Nat):Bool:=
 bif(!(k==4) && !(n==0))||(!(k==1) && !(x==[])) then false else
 bif k==1 then !(hasB 10 x) && Nat.beq c 0 else bif k==2||k==3 then Nat.beq c 0 else bif k==4 then(decide (0<=n) && decide (n<=40)) && Nat.beq c 1 else
 bif k==5 then Nat.beq c 1 else k==6
mutual
def dOk:Tn->Bool
 | .mk k n x _ ks=>arR ks && Za k n x ks.length
def arR:List Tn->Bool
 |[]=>true
 |t::ts=>(dOk t) && arR ts
end
mutual
def Ei:Tn->Option (aC)
 | .mk k _ x _ ks=>bif k==1 then some x else bif k==2 then some [32] else bif k==3 then none else AP ks
def AP:List Tn->Option (aC)
 |[]=>some []
 |t::ts=>match(Ei t) with
  |none=>none
  |some a=>match AP ts with
   |none=>none
   |some b=>some (a++b)
end
mutual
def bh:Tn->Nat×Bool
 | .mk k _ x _ ks=>bif k==2||k==3 then(0,true) else((bif k==1 then x.length else 0)+(WC ks).1,(WC ks).2)
def WC:List Tn->Nat×Bool
 |[]=>(0,false)
 |t::ts=>bif(bh t).2 then(bh t) else((bh t).1+(WC ts).1,(WC ts).2)
end
abbrev Pc:=Tn×Int×Bool
def akh(w col:Int)(t:Tn)(st:List Pc):Bool:=match(Ei t) with
 |some s=>decide ((s.length:Int)+(WC (st.map (·.1))).1<=w - col)
 |none=>false
def brk(out:aC)(i:Int):aC:=out++(10::List.replicate i.toNat 32)
def lay(w:Int):Nat->List Pc->aC->Int->aC
 |0,_,out,_=>out
 |_+1,[],out,_=>out
 |n+1,(.mk k m x y ks,i,f)::st,out,col=>
  bif k==1 then lay w n st (out++x) (col+x.length) else
  bif k==2 && f then lay w n st (out++[32]) (col+1) else
  bif k==2||k==3 then lay w n st (brk out i) i else
  bif k==4 then lay w n (ks.map (λt=>(t,i+m,f))++st) out col else
  bif k==5 then lay w n (ks.map (λt=>(t,i,f||akh w col (.mk k m x y ks) st))++st) out col else
  lay w n (ks.map (λt=>(t,i,f))++st) out col
def render(t:Tn)(w:Int):Option (aC):=bif(Nat.ble t.size 4000 &&(dOk t)) &&(decide (0<=w) && decide (w<=10000)) then some (lay w t.size [(t,0,false)] [] 0) else none
def len_eq(n c:Nat):((n:Int)==(c:Int))=Nat.beq n c:=by rw[Bool.eq_iff_iff,beq_iff_eq,Nat.beq_eq];omega
def aFX(n:Nat):((n:Int)==0)=Nat.beq n 0:=len_eq n 0
def aFY(n:Nat):((n:Int)==1)=Nat.beq n 1:=len_eq n 1
def adX{P:Int->Prop}(h1:P 1)(h2:P 2)(h3:P 3)(h4:P 4)(h5:P 5)(h6:P 6)(h:∀k,k≠1->k≠2->k≠3->k≠4->k≠5->k≠6->P k)(k:Int):P k:=by
 by_cases e1:k=1
 ·rwa [e1]
 by_cases e2:k=2
 ·rwa [e2]
 by_cases e3:k=3
 ·rwa [e3]
 by_cases e4:k=4
 ·rwa [e4]
 by_cases e5:k=5
 ·rwa [e5]
 by_cases e6:k=6
 ·rwa [e6]
 exact h k e1 e2 e3 e4 e5 e6
def adY(k n:Int)(x:aC)(rows:au):M.wZ k n x rows=some (Za k n x rows.length):=by
 simp only[M.wZ,M.MG,M.xM,M.strings_Contains,al3,ah,Ry,Za,aFX,aFY];generalize hasB 10 x=hb;generalize (x==[])=xe;generalize Nat.beq rows.length 0=c0;generalize Nat.beq rows.length 1=c1;generalize (decide (0<=n) && decide (n<=40))=r
 by_cases hn:n=0
 ·subst hn;revert k;refine adX ?_ ?_ ?_ ?_ ?_ ?_ (λk e1 e2 e3 e4 e5 e6=> ?_)
  case refine_7=>rw[<-bne_iff_ne] at e1 e4;simp only[KL.2 e2,KL.2 e3,KL.2 e5,KL.2 e6,e1,e4,KL.2 (bne_iff_ne.1 e1),KL.2 (bne_iff_ne.1 e4)];cases xe<;>rfl
  all_goals cases xe<;>cases hb<;>cases r<;>rfl
 ·have hn':(n==0)=false:=KL.2 hn;have hn2:(n !=0)=true:=bne_iff_ne.2 hn;revert k;refine adX ?_ ?_ ?_ ?_ ?_ ?_ (λk e1 e2 e3 e4 e5 e6=> ?_)
  case refine_7=>rw[<-bne_iff_ne] at e1 e4;simp only[hn',hn2,KL.2 e2,KL.2 e3,KL.2 e5,KL.2 e6,e1,e4,KL.2 (bne_iff_ne.1 e1),KL.2 (bne_iff_ne.1 e4)];cases xe<;>rfl
  all_goals simp only[hn',hn2];cases xe<;>cases hb<;>cases r<;>rfl
def agP(k n:Int)(x:aC)(rows:au)(hx:x.length<=1000000000):M.BD k n x rows=some (Za k n x rows.length):=by
 simp only[M.BD,M.QJ,M.A8,ard x hx,ah,Rx,Za,aFX,aFY];generalize hasB 10 x=hb;generalize (x==[])=xe;generalize Nat.beq rows.length 0=c0;generalize Nat.beq rows.length 1=c1;generalize (decide (0<=n) && decide (n<=40))=r
 by_cases hn:n=0
 ·subst hn;revert k;refine adX ?_ ?_ ?_ ?_ ?_ ?_ (λk e1 e2 e3 e4 e5 e6=> ?_)
  case refine_7=>rw[<-bne_iff_ne] at e1 e4;simp only[KL.2 e2,KL.2 e3,KL.2 e5,KL.2 e6,e1,e4,KL.2 (bne_iff_ne.1 e1),KL.2 (bne_iff_ne.1 e4)];cases xe<;>rfl
  all_goals cases xe<;>cases hb<;>cases r<;>rfl
 ·have hn':(n==0)=false:=KL.2 hn;have hn2:(n !=0)=true:=bne_iff_ne.2 hn;revert k;refine adX ?_ ?_ ?_ ?_ ?_ ?_ (λk e1 e2 e3 e4 e5 e6=> ?_)
  case refine_7=>rw[<-bne_iff_ne] at e1 e4;simp only[hn',hn2,KL.2 e2,KL.2 e3,KL.2 e5,KL.2 e6,e1,e4,KL.2 (bne_iff_ne.1 e1),KL.2 (bne_iff_ne.1 e4)];cases xe<;>rfl
  all_goals simp only[hn',hn2];cases xe<;>cases hb<;>cases r<;>rfl
def aaE(l:List Nd)(o:Bool){i:Nat}{n:Nd}{st:List Int}(hi:l[i]? =some n)(hl:l.length<=90000000)(hst:Zt st)(hs:st.length=i):
  ∀(j:Nat) (a:Int),j<=n.kids.length->n.kids.length<=90000000->0<=a->a<=i->M.tC (dD o l) (i:Int) (encI st) (a,(j:Int) - 1)=some (match dV st (n.kids.take j).reverse (a - 1) with
   |none=> .inl ()
   |some r=> .inr (r+1, -1))
 |0,a,hj,hk,h0,h1=>by rw[M.tC];apply aY;simp only[M.Es,M.yA];rw[pq ak,bn,List.take_zero,List.reverse_nil,dV];simp
 |j+1,a,hj,hkl,h0,h1=>by
  have hlt:i<l.length:=(PU.1 hi).1;obtain⟨k,hk⟩:∃k,n.kids[j]? =some k:=⟨n.kids[j]'ak,by simp⟩
  have ht:(n.kids.take (j+1)).reverse=k::(n.kids.take j).reverse:=by rw[List.take_add_one,hk,Option.toList_some,List.reverse_append];rfl
  rw[ht,dV];have e1:(((j+1:Nat):Int) - 1)=(j:Int):=ak;rw[e1];have hstep:M.Es (dD o l) (i:Int) (encI st) (a,(j:Int))=if a - 1<0\/k≠a - 1 then some (.inr (.inl ())) else some (.inl (st[k.toNat]?.getD 0,(j:Int) - 1)):=by
   simp only[M.Es,M.yA,bC,vN,hi,O9,ah,cD3,lC,hk,KT];rw[zdt ak,aK,aB (n:=a - 1) ak ak]
   by_cases h2:k=a - 1
   ·have:(k !=a - 1)=false:=by simp[h2]
    rw[this,bn]
    by_cases h3:a=0
    ·have:(a==0)=true:=by simp[h3]
     rw[this,aK,if_pos (.inl ak)]
    ·have:(a==0)=false:=by simp[h3]
     rw[this,bn,if_neg ak];obtain⟨d,hd⟩:∃d:Nat,a - 1=(d:Int):=⟨(a - 1).toNat,ak⟩
     have hdl:d<st.length:=ak;rw[h2,hd];simp only[aie,bC,lC,Xm];rw[List.getElem?_eq_getElem hdl];simp only[O9,ah,KT,Option.getD_some];rw[aB ak ak]
   ·have:(k !=a - 1)=true:=by simp[h2]
    rw[this,aK,if_pos (.inr h2)]
  by_cases hc:a - 1<0\/k≠a - 1
  ·rw[if_pos hc];rw[if_pos hc] at hstep;exact aY hstep
  ·rw[if_neg hc];rw[if_neg hc] at hstep;rw[M.tC,cu hstep];have hz:=Qg hst k.toNat;have:=aaE l o hi hl hst hs j (st[k.toNat]?.getD 0) ak hkl hz.1 ak;rw[M.tC] at this;exact this
def Zp(l:List Nd)(o:Bool)(hl:l.length<=90000000)(hk:∀n,n∈l->n.kids.length<=90000000):∀(rest:List Nd) (i:Nat) (st:List Int),l.drop i=rest->st.length=i->i<=l.length->Zt st->
  M.tH (dD o l) ((i:Int),encI st)=some (match fU st (ks rest) with
   |none=> .inl ()
   |some r=> .inr ((l.length:Int),encI r))
 |[],i,st,hd,hs,hi,hst=>by have:l.length<=i:=List.drop_eq_nil_iff.1 hd;rw[M.tH];apply aY;simp only[jI,M.Et,M.yB,jv];rw[pq ak,bn];have:i=l.length:=ak;subst this;rfl
 |n::rest,i,st,hd,hs,hi,hst=>by
  have hn:l[i]? =some n:=by
   have:(l.drop i)[0]? =some n:=by rw[hd];rfl
   simpa using this
  have hlt:i<l.length:=(PU.1 hn).1;have hd':l.drop (i+1)=rest:=by rw[<-List.drop_drop,hd];rfl
  have hkn:=hk n (En hn);have hin:=aaE l o hn hl hst hs n.kids.length (i:Int) (zaP _) hkn ak ak;rw[List.take_length] at hin;have hks:ks (n::rest)=n.kids::ks rest:=rfl;rw[hks,fU,hs];have hstep:M.Et (dD o l) ((i:Int),encI st)=some (match dV st n.kids.reverse ((i:Int) - 1) with
    |none=> .inr (.inl ())
    |some a=> .inl (((i+1:Nat):Int),encI (st++[a+1]))):=by
   simp only[jI,M.Et,M.yB,jv,bC,vN,hn,O9,ah,cD3,aV];rw[zdt ak,aK,aB (n:=(n.kids.length:Int) - 1) ak ak,hin];cases hw:dV st n.kids.reverse ((i:Int) - 1) with
   |none=>rfl
   |some a=>simp only[ah,pz,letE,IU];rw[aN ak,aK,aN ak,aK,aB ak ak];simp[encI]
  cases hw:dV st n.kids.reverse ((i:Int) - 1) with
  |none=>rw[hw] at hstep;exact aY hstep
  |some a=>rw[hw] at hstep;rw[M.tH,cu hstep];have hr:=Dv hst _ _ _ ak ak hw;have:=Zp l o hl hk rest (i+1) (st++[a+1]) hd' (by simp[hs]) hlt (VD hst hr.1 hr.2);rw[M.tH] at this;exact this
def awz(st:List Int)(m i:Nat)(h:i<st.length):(st++List.replicate m 0)[i]? =some (st[i]?.getD 0):=by rw[List.getElem?_append_left h,List.getElem?_eq_getElem h];rfl
def aaF(v0 v1:au)(v2 v3:Int)(k1 k2:Int)(x:aC){kids st:List Int}(m:Nat)(hk:kids.length<=90000000)(hl:st.length<=90000000)(hst:Zt st):
  ∀(j:Nat) (a:Int),j<=kids.length-> -1<=a->a<st.length->M.tV v0 v2 v1 v3 v2 (encI (st++List.replicate m 0)) k1 k2 x (encI kids) (a,(j:Int) - 1)=some (match dV st (kids.take j).reverse a with
   |none=> .inl ()
   |some r=> .inr (r, -1))
 |0,a,hj,h0,h1=>by rw[M.tV];apply aY;simp only[M.Ez,M.yG];rw[pq ak,bn,List.take_zero,List.reverse_nil,dV];simp
 |j+1,a,hj,h0,h1=>by
  obtain⟨k,hkj⟩:∃k,kids[j]? =some k:=⟨kids[j]'ak,by simp⟩
  have ht:(kids.take (j+1)).reverse=k::(kids.take j).reverse:=by rw[List.take_add_one,hkj,Option.toList_some,List.reverse_append];rfl
  rw[ht,dV];have e1:(((j+1:Nat):Int) - 1)=(j:Int):=ak;rw[e1];have hstep:M.Ez v0 v2 v1 v3 v2 (encI (st++List.replicate m 0)) k1 k2 x (encI kids) (a,(j:Int))=if a<0\/k≠a then some (.inr (.inl ())) else some (.inl (st[k.toNat]?.getD 0 - 1,(j:Int) - 1)):=by
   simp only[M.Ez,M.yG];rw[zdt ak,aK]
   by_cases ha:a<0
   ·rw[zdt ha,aK,if_pos (.inl ha)]
   ·rw[pq ha,bn];simp only[bC,lC,hkj,O9,ah,KT]
    by_cases h2:k=a
    ·have:(k !=a)=false:=by simp[h2]
     obtain⟨d,rfl⟩:∃d:Nat,a=(d:Int):=⟨a.toNat,ak⟩
     rw[this,bn,if_neg ak];have hz:=Qg hst d;simp only[bC,Xm,lC,awz st m d ak,O9,ah,KT];rw[aB ak ak,aB ak ak,h2,Xm]
    ·have:(k !=a)=true:=by simp[h2]
     rw[this,aK,if_pos (.inr h2)]
  by_cases hc:a<0\/k≠a
  ·rw[if_pos hc];rw[if_pos hc] at hstep;exact aY hstep
  ·rw[if_neg hc];rw[if_neg hc] at hstep;rw[M.tV,cu hstep];have hz:=Qg hst k.toNat;have:=aaF v0 v1 v2 v3 k1 k2 x m hk hl hst j (st[k.toNat]?.getD 0 - 1) ak ak ak;rw[M.tV] at this;exact this
def Zq(l:List Nd)(o:Bool)(hl:l.length<=90000000)(hk:∀n,n∈l->n.kids.length<=90000000):∀(rest:List Nd) (i:Nat) (st:List Int),l.drop i=rest->st.length=i->i<=l.length->Zt st->
  M.tX (dD o l) (dD o l) (l.length:Int) ((i:Int),encI (st++List.replicate (l.length - i) 0))=some (match fU st (ks rest) with
   |none=> .inl ()
   |some r=> .inr ((l.length:Int),encI r))
 |[],i,st,hd,hs,hi,hst=>by have:l.length<=i:=List.drop_eq_nil_iff.1 hd;rw[M.tX];apply aY;simp only[M.EC,M.yH];rw[pq ak,bn];have:i=l.length:=ak;subst this;rw[Nat.sub_self,List.replicate_zero,List.append_nil];rfl
 |n::rest,i,st,hd,hs,hi,hst=>by
  have hn:l[i]? =some n:=by
   have:(l.drop i)[0]? =some n:=by rw[hd];rfl
   simpa using this
  have hlt:i<l.length:=(PU.1 hn).1;have hd':l.drop (i+1)=rest:=by rw[<-List.drop_drop,hd];rfl
  have hkn:=hk n (En hn);have hin:=aaF (dD o l) (dD o l) (i:Int) (l.length:Int) n.kind n.op n.text (kids:=n.kids) (l.length - i) hkn ak hst n.kids.length ((i:Int) - 1) (zaP _) ak ak;rw[List.take_length] at hin;have hks:ks (n::rest)=n.kids::ks rest:=rfl;rw[hks,fU,hs];have hstep:M.EC (dD o l) (dD o l) (l.length:Int) ((i:Int),encI (st++List.replicate (l.length - i) 0))=some (match dV st n.kids.reverse ((i:Int) - 1) with
    |none=> .inr (.inl ())
    |some a=> .inl (((i+1:Nat):Int),encI ((st++[a+1])++List.replicate (l.length - (i+1)) 0))):=by
   simp only[M.EC,M.yH,bC,vN,hn,O9,ah,cD0,cD1,cD2,cD3,aV];rw[zdt ak,aK,aB (n:=(n.kids.length:Int) - 1) ak ak,aB (n:=(i:Int) - 1) ak ak,hin];cases hw:dV st n.kids.reverse ((i:Int) - 1) with
   |none=>rfl
   |some a=>
    have hr:=Dv hst _ _ _ ak ak hw;have hg:(encI (st++List.replicate (l.length - i) 0))[i]? =some [D.int .i64 0]:=by rw[lC,List.getElem?_append_right ak,hs,Nat.sub_self,List.getElem?_replicate,if_pos ak];rfl
    have hsp:splice [D.int .i64 0] 0 [D.int .i64 (i64.wrap (a+1))]=[D.int .i64 (a+1)]:=by rw[aB ak ak];rfl
    simp only[ah,pz,letE,Xm,hg,hsp];rw[aB ak ak,axz,List.set_append_right i (a+1) ak,hs,Nat.sub_self];obtain⟨q,hq⟩:∃q,l.length - i=q+1:=⟨l.length - i - 1,ak⟩
    rw[hq,List.replicate_succ,List.set_cons_zero,show l.length - (i+1)=q by omega,NI,List.singleton_append];rfl
  cases hw:dV st n.kids.reverse ((i:Int) - 1) with
  |none=>rw[hw] at hstep;exact aY hstep
  |some a=>rw[hw] at hstep;rw[M.tX,cu hstep];have hr:=Dv hst _ _ _ ak ak hw;have:=Zq l o hl hk rest (i+1) (st++[a+1]) hd' (by simp[hs]) hlt (VD hst hr.1 hr.2);rw[M.tX] at this;exact this
mutual
def txs:Tn->Nat
 | .mk _ _ x _ ks=>x.length+vg ks
def vg:List Tn->Nat
 |[]=>0
 |t::ts=>txs t+vg ts
end
def UM:∀a b:List Tn,vg (a++b)=vg a+vg b
 |[],b=>by simp[vg]
 |t::a,b=>by rw[Yr,vg,vg,UM a b];omega
def arS:∀{ks:List Tn} {t:Tn},t∈ks->txs t<=vg ks
 |[],_,h=>by cases h
 |u::us,t,h=>by
  rw[vg];rcases List.mem_cons.1 h with rfl|h
  ·omega
  ·have:=arS h;omega
mutual
def atC(X:Nat):∀(t:Tn) (b:Nat),(∀n,n∈t.flat b->n.text.length<=X)->txs t<=X * t.size
 | .mk k o x y ks,b,h=>by
  rw[Tn.flat] at h;have h1:=au3 X ks b λn hn=>h n (List.mem_append_left _ hn)
  have h2:x.length<=X:=h ⟨k,o,x,y,ends ks b⟩ (by simp);rw[txs,Tn.size,Nat.mul_add,Nat.mul_one];omega
def au3(X:Nat):∀(ks:List Tn) (b:Nat),(∀n,n∈jF ks b->n.text.length<=X)->vg ks<=X * sizes ks
 |[],b,_=>by simp[vg]
 |t::ts,b,h=>by
  rw[jF] at h;have h1:=atC X t b λn hn=>h n (List.mem_append_left _ hn)
  have h2:=au3 X ts _ λn hn=>h n (List.mem_append_right _ hn)
  rw[vg,sizes,Nat.mul_add];omega
end
def aAw(n:Nd):Bool:=Za n.kind n.op n.text n.kids.length
mutual
def aki:∀(t:Tn) (b:Nat),(t.flat b).all aAw=(dOk t)
 | .mk k o x y ks,b=>by rw[Tn.flat,List.all_append,amE ks b,dOk];simp[aAw,eX]
def amE:∀(ks:List Tn) (b:Nat),(jF ks b).all aAw=arR ks
 |[],_=>rfl
 |t::ts,b=>by rw[jF,List.all_append,aki t b,amE ts _,arR]
end
def akj{α:Type}(f:α->Bool):∀(l:List α) (i:Nat),Yg (λ_ x=>f x) l i=l.all f
 |[],_=>rfl
 |x::l,i=>by rw[Yg,akj f l,List.all_cons]
section
variable {t:Tn} {o:Bool} (h:t.size<=90000000)
include h
theorem Zb:(t.flat 0).length<=90000000/\∀n,n∈t.flat 0->n.kids.length<=90000000:=
 ⟨by rw[t.flat_length];exact h,λn hn=>by have:=(Yi t 0 n hn).1;omega⟩
theorem arU:∃q:Nat,(t.size:Int) - 1=(q:Int)/\(t.sts 0)[q]? =some 0:=by obtain⟨u,hu,hul⟩:=t.aio 0;have hp:=t.size_pos;refine⟨u.length,ak, ?_⟩;rw[hu,List.getElem?_append_right (zaP _),Nat.sub_self];rfl
theorem adZ:(M.qx (dD o (t.flat 0))).map (·.2)=some (decide (t.size<=4000)):=by
 have hp:=t.size_pos;obtain⟨h1,h2⟩:=Zb h;have hout:=Zq (t.flat 0) o h1 h2 (t.flat 0) 0 [] rfl rfl (Nat.zero_le _) VW;simp only[M.qx,M.FI,Ry,ah,jv,t.flat_length]
 by_cases hs:t.size<=4000
 ·have e0:encI ([]++List.replicate ((t.flat 0).length - 0) 0)=List.replicate ((t.size:Int)).toNat [D.int .i64 0]:=by simp[encI,t.flat_length]
  rw[e0,oQ,ZT,t.flat_length] at hout;rw[zdt (show(1:Int)<=t.size by omega),zdt (show(t.size:Int)<=4000 by omega),Bool.true_and,zaO,bn,hout];have hg:(decide (0<=(t.size:Int)) && decide ((t.size:Int)<=(t.size:Int)) && decide ((t.size:Int) * 8<=140737488355328) && decide ((t.size:Int)<=140737488355328))=true:=by simp;omega
  obtain⟨q,hq1,hq2⟩:=arU h;simp only[hg,aK,ah,pz,letE];rw[aB ak ak,hq1];simp only[bC,lC,hq2,O9,ah,KT,Xm,Iy,aK];rw[zdt hs];rfl
 ·rw[pq (show¬(t.size:Int)<=4000 by omega),Bool.and_false,Bool.not_false,aK,pq hs];rfl
theorem ak4:M.D6 (dD o (t.flat 0))=some ((dOk t) && decide (t.size<=4000)):=by
 have hl:=Yh (t.flat 0) (λ_ n=>aAw n) (b:=M.O4 (dD o (t.flat 0)) (dD o (t.flat 0)) ((t.flat 0).length:Int))
  (λi n hi=>by have hil:=(PU.1 hi).1;rw[t.flat_length] at hil;simp only[M.O4,M.Io,t.flat_length,bC,vN,hi,O9,ah,cD0,cD1,cD2,cD3,adY,aV];rw[zdt ak,aK,aB ak ak];change _=some (bif Za n.kind n.op n.text n.kids.length then _ else _);cases Za n.kind n.op n.text n.kids.length<;>rfl)
  (by simp only[M.O4,M.Io];rw[pq ak,bn])
 rw[akj,aki] at hl;have hs:=adZ (o:=o) h;simp only[M.D6,M.Rk,M.IK,jv,hl,ah];cases hd:(dOk t) with
 |false=>rfl
 |true=>
  cases hx:M.qx (dD o (t.flat 0)) with
  |none=>rw[hx] at hs;cases hs
  |some r=>rw[hx] at hs;simp only[O9,je] at hs;simp only[aK,pz,letE,ah,hs,Bool.true_and]
theorem ad1:M.wS (dD o (t.flat 0))=some (encI (t.sts 0),true):=by obtain⟨h1,h2⟩:=Zb h;have hout:=Zp (t.flat 0) o h1 h2 (t.flat 0) 0 [] rfl rfl (Nat.zero_le _) VW;rw[oQ,ZT] at hout;have e0:encI []=[]:=rfl;rw[e0] at hout;simp only[M.wS,M.LJ,hout,ah,pz,letE,Iy,aK]
theorem ak5(hx:∀n,n∈t.flat 0->n.text.length<=1000000000):M.DY (dD o (t.flat 0))=some ((dOk t) && decide (t.size<=4000)):=by
 have hp:=t.size_pos;simp only[M.DY,M.QK,Rx,ah,jv,t.flat_length]
 by_cases hs:t.size<=4000
 ·have hl:=Yh (t.flat 0) (λ_ n=>aAw n) (b:=M.OD (dD o (t.flat 0)))
   (λi n hi=>by have hil:=(PU.1 hi).1;have hxn:=hx n (En hi);rw[t.flat_length] at hil;simp only[M.OD,M.Ih,jv,t.flat_length,bC,vN,hi,O9,ah,cD0,cD1,cD2,cD3,agP _ _ n.text _ ak,aV];rw[zdt ak,aK,aB ak ak];change _=some (bif Za n.kind n.op n.text n.kids.length then _ else _);cases Za n.kind n.op n.text n.kids.length<;>rfl)
   (by simp only[M.OD,M.Ih,jv];rw[pq ak,bn])
  rw[akj,aki] at hl;rw[zdt (show(1:Int)<=t.size by omega),zdt (show(t.size:Int)<=4000 by omega),Bool.true_and,zaO,bn,M.TW,hl,ah,zdt hs,Bool.and_true];cases hd:(dOk t) with
  |false=>rfl
  |true=>obtain⟨q,hq1,hq2⟩:=arU h;simp only[aK,pz,letE,ad1 (o:=o) h,ah];rw[aB ak ak,hq1];simp only[bC,lC,hq2,O9,ah,KT,Xm];rfl
 ·rw[pq (show¬(t.size:Int)<=4000 by omega),Bool.and_false,Bool.not_false,aK,pq hs,Bool.and_false]
end
def amF:M.D6 []=some false/\M.DY []=some false:=by
 constructor
 ·have:M.IK [] [] 0 0=some (.inr 0):=by rw[M.IK];exact aY rfl
  simp only[M.D6,M.Rk,uM,oQ,this,ah,pz,letE,M.qx,M.FI,Ry];rfl
 ·simp only[M.DY,M.QK,Rx,ah,uM,oQ];rfl
def grp(l:List Nd):Int:=((l.filter (·.kind==5)).length:Int)
def arV(l:List Nd)(o:Bool)(hl:l.length<=90000000):M.zk (dD o l)=some (grp l):=by
 have hg:∀i,((l.take i).filter (·.kind==5)).length<=l.length:=λi=>Nat.le_trans (List.length_filter_le _ _) (by rw[XE];omega)
 have hloop:=iY (b:=M.G9 (dD o l) (l.length:Int)) (t:=(grp l,(l.length:Int))) (λi=>(grp (l.take i),(i:Int))) l.length
  (by
   intro i hi;obtain⟨n,hn⟩:∃n,l[i]? =some n:=⟨l[i],by simp[hi]⟩
   have hgi:=hg i;simp only[M.G9,M.Aj,bC,vN,hn,O9,ah,cD0,cD1,cD2,cD3];rw[zdt ak,aK,gu hn,grp,grp,List.filter_append];cases hk:n.kind==5 with
   |true=>rw[aK,aB ak ak,aB ak ak];simp[hk]
   |false=>rw[bn,aB ak ak];simp[hk])
  (by simp only[M.G9,M.Aj];rw[pq ak,bn,List.take_length]) 0 (Nat.zero_le _)
 have e0:grp (l.take 0)=0:=rfl;rw[e0,oQ] at hloop;simp only[M.zk,M.O5,jv,M.MH,hloop,ah]
mutual
def arW(l:List Nd):Tn->Nat->Row
 | .mk k n x _ ks,b=>[.int .i64 k,.int .i64 n,.str x,.sl true 5 (Ar l ks b),.int .i64 (grp (l.take (b+sizes ks)))]
def Ar(l:List Nd):List Tn->Nat->au
 |[],_=>[]
 |t::ts,b=>arW l t b::Ar l ts (b+t.size)
end
def abB(l:List Nd):∀(a c:List Tn) (b:Nat),Ar l (a++c) b=Ar l a b++Ar l c (b+sizes a)
 |[],c,b=>by simp[Ar,sizes]
 |t::a,c,b=>by rw[Yr,Ar,Ar,abB l a c,sizes,Yr,Nat.add_assoc]
def arX{l:List Nd}{ks:List Tn}{j:Nat}{t:Tn}{b:Nat}(hj:ks[j]? =some t):Ar l (ks.take (j+1)) b=Ar l (ks.take j) b++[arW l t (b+sizes (ks.take j))]:=by rw[gu hj,abB];rfl
def abC(l:List Nd):∀(ks:List Tn) (b:Nat),(Ar l ks b).length=ks.length
 |[],_=>rfl
 |t::ts,b=>by rw[Ar,nS,abC l ts,nS]
def aAx(l:List Nd)(t:Tn)(b:Nat):arW l t b=[.int .i64 t.kind,.int .i64 t.op,.str t.text,.sl true 5 (Ar l t.kids b),.int .i64 (grp (l.take (b+sizes t.kids)))]:=by cases t;rfl
def aAy{l:List Nd}{o:Bool}(hl:l.length<=90000000)(t:Tn):∀(f b:Nat),Lies l b t->t.size<=f->
  M.o8 f (dD o l) ((b+sizes t.kids:Nat):Int)=some (t.kind,t.op,t.text,Ar l t.kids b,grp (l.take (b+sizes t.kids))):=by
 refine Tn.ind (P:=λt=>∀(f b:Nat),Lies l b t->t.size<=f->M.o8 f (dD o l) ((b+sizes t.kids:Nat):Int)=some (t.kind,t.op,t.text,Ar l t.kids b,grp (l.take (b+sizes t.kids)))) ?_ t;intro k op x y ks ih f b h hf;cases f with
 |zero=>rw[Tn.size] at hf;omega
 |succ f=>
  have hroot:l[b+sizes ks]? =some ⟨k,op,x,y,ends ks b⟩:=h.root;have hlt:=h.lt;rw[Tn.size] at hf hlt;have hkl:=jC ks;have hcut:cut (dD o l) 0 ((b+sizes ks:Nat):Int)=some (dD o (l.take (b+sizes ks))):=by rw[cut,zdt (Int.le_refl 0),zdt ak,zdt (by rw[jv];omega)];simp only[Bool.and_self,aK,Int.toNat_zero,List.drop_zero,Xm,Nat.sub_zero,dD,List.map_take]
  have hgr:=arV (l.take (b+sizes ks)) o (by rw[XE];omega);simp only[M.o8,M.Rl,bC,vN,Tn.kids,Tn.kind,Tn.op,Tn.text,hroot,O9,ah,cD0,cD1,cD2,cD3,aV,eX,hcut,hgr];generalize hG:grp (l.take (b+sizes ks))=gg;have hrec:∀j t,ks[j]? =some t->M.o8 f (dD o l) ((b+sizes (ks.take j)+sizes t.kids:Nat):Int)=some (t.kind,t.op,t.text,Ar l t.kids (b+sizes (ks.take j)),grp (l.take (b+sizes (ks.take j)+sizes t.kids))):=λj t hj=>ih t (En hj) f _ (Lies.SQ h hj) (by have:=KA hj;omega)
  have hloop:=iY (b:=M.Bf (M.o8 f))
   (t:=if ks=[] then .inl (dD o l,encI (ends ks b),(ks.length:Int),0,0,0,[],0,k,op,x,gg) else .inr (dD o l,encI (ends ks b),(ks.length:Int),(ks.length:Int),0,0,[],0,k,op,x,gg,Ar l ks b))
   (λj=>if j=0 then .inl (dD o l,encI (ends ks b),(ks.length:Int),0,0,0,[],0,k,op,x,gg) else .inr (dD o l,encI (ends ks b),(ks.length:Int),(j:Int),0,0,[],0,k,op,x,gg,Ar l (ks.take j) b)) ks.length
   (by
    intro j hj;obtain⟨t,ht⟩:∃t,ks[j]? =some t:=⟨ks[j],by simp⟩
    have hr:=hrec j t ht;have he:=YV (b:=b) ht;rw[if_neg (show¬j+1=0 by omega),arX ht,aAx]
    by_cases h0:j=0
    ·subst h0;rw[if_pos rfl];have hi:idx (encI (ends ks b)) 0=some [D.int .i64 ((b+sizes (ks.take 0)+sizes t.kids:Nat):Int)]:=by have:=bC (encI (ends ks b)) 0;rw[oQ] at this;rw[this,lC,he];rfl
     simp only[jI,M.Bf,M.yc,hi,ah,KT,hr];rw[zdt ak,aK];rfl
    ·rw[if_neg h0];simp only[jI,M.Bf,M.yc,bC,lC,he,O9,ah,KT,hr,abC,XE,IU];rw[zdt ak,aK,aN ak,aK,aN ak,aK,aB ak ak];rfl)
   (by
    by_cases h0:ks.length=0
    ·have he:ks=[]:=List.length_eq_zero_iff.1 h0;rw[if_pos h0,if_pos he];simp only[jI,M.Bf,M.yc];rw[pq ak,bn]
    ·have he:¬ks=[]:=λe=>h0 (by rw[e];rfl)
     rw[if_neg h0,if_neg he,List.take_length];simp only[jI,M.Bf,M.yc];rw[pq ak,bn]) 0 (Nat.zero_le _)
  rw[if_pos rfl] at hloop;rw[M.Uk,hloop,ah]
  by_cases he:ks=[]
  ·rw[if_pos he,he];rfl
  ·rw[if_neg he];rfl
def aAz{t:Tn}{o:Bool}(h:t.size<=90000000):M.J3 (dD o (t.flat 0))=some (t.kind,t.op,t.text,Ar (t.flat 0) t.kids 0,grp ((t.flat 0).take (sizes t.kids))):=by have hs:=t.vk;have h1:=M.akZ (aAy (o:=o) (Zb h).1 t t.size 0 (Lies.whole t) (zaP _));rw[Nat.zero_add] at h1;simp only[M.J3,M.Vx,jv,t.flat_length];rw[aB ak ak,show(t.size:Int) - 1=((sizes t.kids:Nat):Int) by omega,h1,ah]
end Go.Proofs.YtajjpadmdmehmaaGreatDoor
