import Derived.Test.YtbgadfelmhoheaaGreatDoorXDoc6
import Derived.Test.YtbgadfelmhoheaaGreatDoorXTok
import Derived.Test.YtbgadfelmhoheaaGreatDoorXLay
import Derived.Shelf.Strings.Builder1
import Derived.Shelf.Strings.Builder2
import Derived.Shelf.Strings.OnBuilder
import Derived.Shelf.Small.Strs
import Derived.Shelf.Strings.BuilderF
import Derived.Shelf.Strconv.Itoa0
import Derived.Shelf.Strconv.Itoa1
import Derived.Shelf.LaysM
import Derived.Shelf.Strconv.Itoa2
import Derived.Shelf.Strconv.Itoa3
import Derived.Shelf.Strings.Search1
import Derived.Shelf.Strings.Search2
import Derived.Shelf.Strings.Search3
import Derived.Shelf.Strings.Shaped
import Derived.Shelf.Strings.Prefix
import Derived.Shelf.Bits.Mul64
import Derived.Shelf.Strings.Repeat
import Derived.Test.YtbgadfelmhoheaaGreatDoorProg
import Derived.Test.YtbgadfelmhoheaaGreatDoorPPrim
import Derived.Test.YtbgadfelmhoheaaGreatDoorVm4
import Derived.Test.YtbgadfelmhoheaaGreatDoorPForms4
import Derived.Test.YtbgadfelmhoheaaGreatDoorZVal
import Derived.Test.YtbgadfelmhoheaaGreatDoorRows
set_option linter.defProp false
namespace Go.Proofs.YtbgadfelmhoheaaGreatDoor
set_option linter.unusedVariables false
set_option linter.unusedSimpArgs false
open Go Go.Vm
open Go.IntKind (i64)
def alq:∀(ks:List Tn) (b m:Nat),(ends ks b).take m=ends (ks.take m) b
 |[],b,m=>by simp[ends]
 |t::ts,b,0=>by simp[ends]
 |t::ts,b,m+1=>by rw[ends,List.take_succ_cons,List.take_succ_cons,ends,alq ts]
def aCu{l:List Nd}{b:Nat}{ks:List Tn}(hat:At l b ks)(m:Nat):At l b (ks.take m):=by
 intro j u hj;have hjm:j<m:=by have:=(Md.1 hj).1;rw[Ud] at this;omega
 rw[List.getElem?_take,if_pos hjm] at hj;have:=hat j u hj
 rwa [List.take_take,Nat.min_eq_left ak]
section
variable {o:Bool} {l:List Nd} {b:Nat} (hl:l.length<=1048576)
include hl
theorem aIr{u:Tn}(h:Ex' u)(hh:Lies l b u){p:Ps}(hp:nJ p=true):M.dY (aT o l) false ((b+sizes u.kids:Nat):Int) p.level p.ny p.tN p.tV p.lV=some (dE (C9 u p)):=
 M.ajG (aIi (ajc u h.ok h.e h.sm h.sz) (f:=5 * u.size+1) hl hh (Nat.le_refl _) hp)
theorem Yi{u:Tn}(h:Ex' u)(hh:Lies l b u):M.dY (aT o l) false ((b+sizes u.kids:Nat):Int) 1 false false false false=some (dE (Lr u)):=aIr (o:=o) hl h hh (p:=.top) rfl
theorem azA{ks:List Tn}(h:∀u,u∈ks->Ex' u)(hat:At l b ks)(hs:sizes ks<=1048575){p:Ps}(hp:nJ p=true):M.jD (aT o l) false (encI (ends ks b)) p.level p.ny p.tN p.tV p.lV=some (dE (Rf p ks)):=
 M.afB (ar0 (λu hu=>ajc u (h u hu).ok (h u hu).e (h u hu).sm (h u hu).sz) (f:=5 * sizes ks+2) hp hl hat (Nat.le_refl _) hs)
theorem ar5{u:Tn}(h:u.kind=16∨Ex' u)(hh:Lies l b u):M.oP (aT o l) false ((b+sizes u.kids:Nat):Int)=some (dE (Vz u)):=by
 simp only[M.oP,M.PW,VD hh,ah,Ji,Vz];rcases h with h|h
 ·rw[h];simp only[beq_self_eq_true,aI,kC,ah]
 ·have h1:(u.kind==16)=false:=by have:=h.e;unfold Yv at this;rw[JX];omega
  have h2:=Yi (o:=o) hl h hh;have h3:=nR u .top;have h4:=h.sz;have hs:sizes [mP [32],Lr u]<=90000000:=by simp only[sizes,gY,Lr];omega
  simp only[h1,aS,kC,DF.2,ah,h2,fz2,uP _ hs,nS,aI]
theorem aEs{ks:List Tn}(h:∀u,u∈ks->Ex' u)(hat:At l b ks)(wd:aB):M.x9 (aT o l) false wd (encI (ends ks b))=some (dE (aaL wd ks)):=by
 simp only[M.x9,M.PX,aU,dQ];cases ks with
 |nil=>rw[show(((([]:List Tn).length:Nat):Int)==0)=true from rfl];simp only[aI,kC,ah];rfl
 |cons u t=>
  have hu:=h u ZK;have hi:=lY (ks:=u::t) (b:=b) (j:=0) (u:=u) rfl;have h1:=ar5 (o:=o) hl (.inr hu) (hat 0 u rfl);have h3:=UZ u;have h4:=hu.sz;have e0:((((u::t).length:Nat):Int)==0)=false:=by rw[JX,lU];omega
  have hs:sizes [mP wd,Vz u]<=90000000:=by simp only[sizes,gY];omega
  rw[pz] at hi;simp only[e0,aS,kC,ah,hi,Lu,h1,fz2,uP _ hs,nS,aI];rfl
theorem a0B{ks:List Tn}(h:∀u,u∈ks->Ex' u)(hat:At l b ks)(hs:sizes ks<=1048575)(op:Int)(x y:aB)(hop:op=0∨op=1)(hy:y≠[]->1<=ks.length)(hyl:y.length<=1048576):
  M.yF (aT o l) false 21 op x y (encI (ends ks b))=some (dE (amI op y ks)):=by
 have hkl:=iZ ks;have key:∀wd:aB,(bif !(y==[]) then
   ((cut (encI (ends ks b)) 0 (i64.wrap (((encI (ends ks b)).length:Int) - 1))).bind λrows=>(bif decide ((rows.length:Int)>0) then
    ((M.aF [32]).bind λr2=>((M.jD (aT o l) false rows 1 false false true false).bind λr3=>(bif(1+y.length).ble 9223372036854775807 then(bif(([32]++y).length+1).ble 9223372036854775807 then((M.aF ([32]++y++[32])).bind λr4=>((idx (encI (ends ks b)) (i64.wrap (((encI (ends ks b)).length:Int) - 1))).bind λrow=>((aY IntKind.i64 row 0).bind λn=>((M.dY (aT o l) false n 9 false false false false).bind λr5=>((M.aH 6 0 (aP ([[D.sl true 4 (dE (mP wd))]]++[[D.sl true 4 r2],[D.sl true 4 r3]]++[[D.sl true 4 r4],[D.sl true 4 r5]]))).bind λr6=>(bif[[D.sl true 4 r6]].all bM then some r6 else none)))))) else none) else none))) else
    (bif(1+y.length).ble 9223372036854775807 then(bif(([32]++y).length+1).ble 9223372036854775807 then((M.aF ([32]++y++[32])).bind λr4=>((idx (encI (ends ks b)) (i64.wrap (((encI (ends ks b)).length:Int) - 1))).bind λrow=>((aY IntKind.i64 row 0).bind λn=>((M.dY (aT o l) false n 9 false false false false).bind λr5=>((M.aH 6 0 (aP ([[D.sl true 4 (dE (mP wd))]]++[[D.sl true 4 r4],[D.sl true 4 r5]]))).bind λr6=>(bif[[D.sl true 4 r6]].all bM then some r6 else none)))))) else none) else none))) else
   (bif decide (((encI (ends ks b)).length:Int)>0) then
    ((M.aF [32]).bind λr2=>((M.jD (aT o l) false (encI (ends ks b)) 1 false false true false).bind λr3=>((M.aH 6 0 (aP ([[D.sl true 4 (dE (mP wd))]]++[[D.sl true 4 r2],[D.sl true 4 r3]]))).bind λr6=>(bif[[D.sl true 4 r6]].all bM then some r6 else none)))) else
    ((M.aH 6 0 (aP [[D.sl true 4 (dE (mP wd))]])).bind λr6=>(bif[[D.sl true 4 r6]].all bM then some r6 else none))))=
   some (dE (o7 ([mP wd]++((bif Nat.blt 0 (bif y==[] then ks else ks.take (ks.length - 1)).length then[mP [32],Rf ⟨1,false,false,true,false⟩ (bif y==[] then ks else ks.take (ks.length - 1))] else[])++
    (bif y==[] then[] else[mP (([32]++y)++[32]),C9 (zS ks (ks.length - 1)) ⟨9,false,false,false,false⟩]))))):=by
  intro wd;have gt:∀L:List Tn,decide (((encI (ends L b)).length:Int)>0)=Nat.blt 0 L.length:=by intro L;rw[aU,dQ];exact V4 0 L.length
  by_cases hy0:y=[]
  ·have e0:(y==[])=true:=by simpa using hy0
   have l1:=azA (o:=o) hl h hat hs (p:=⟨1,false,false,true,false⟩) rfl;have l2:=OD ⟨1,false,false,true,false⟩ ks;have z1:sizes [mP wd,mP [32],Rf ⟨1,false,false,true,false⟩ ks]<=90000000:=by simp only[sizes,gY];omega
   have z2:sizes [mP wd]<=90000000:=by simp only[sizes,gY];omega
   simp only[e0,Bool.not_true,aI,aS,gt];cases Nat.blt 0 ks.length with
   |true=>simp only[aI,ah,kC,l1,VE,List.nil_append,fz3,uP _ z1,nS]
   |false=>simp only[aS,ah,fz1,uP _ z2,nS,aI];rfl
  ·have e0:(y==[])=false:=by simpa using hy0
   have hn:=hy hy0;have hw:i64.wrap (((encI (ends ks b)).length:Int) - 1)=((ks.length - 1:Nat):Int):=by rw[aU,dQ,aC ak ak];omega
   have hcut:cut (encI (ends ks b)) 0 ((ks.length - 1:Nat):Int)=some (encI (ends (ks.take (ks.length - 1)) b)):=by rw[auH _ _ (by rw[aU,dQ];omega),<-alq ks b,encI,encI,List.map_take]
   obtain⟨u,hu⟩:∃u,ks[ks.length - 1]? =some u:=⟨ks[ks.length - 1],by simp⟩
   have hnt:zS ks (ks.length - 1)=u:=by rw[zS,hu];rfl
   have hue:=h u (zZ hu);have he:=aIr (o:=o) hl hue (hat _ u hu) (p:=⟨9,false,false,false,false⟩) rfl;have hi:=lY (b:=b) hu;have s1:=nR u ⟨9,false,false,false,false⟩;have s2:=hue.sz;have s3:=take_size ks (ks.length - 1);have l1:=azA (o:=o) hl (ks:=ks.take (ks.length - 1)) (λv hv=>h v (List.mem_of_mem_take hv)) (aCu hat _) ak (p:=⟨1,false,false,true,false⟩) rfl;have l2:=OD ⟨1,false,false,true,false⟩ (ks.take (ks.length - 1));have z1:sizes [mP wd,mP [32],Rf ⟨1,false,false,true,false⟩ (ks.take (ks.length - 1)),mP ([32]++y++[32]),C9 u ⟨9,false,false,false,false⟩]<=90000000:=by simp only[sizes,gY];omega
   have z2:sizes [mP wd,mP ([32]++y++[32]),C9 u ⟨9,false,false,false,false⟩]<=90000000:=by simp only[sizes,gY];omega
   have r1:(1+y.length).ble 9223372036854775807=true:=Dh ak;have r2:(([32]++y).length+1).ble 9223372036854775807=true:=Dh (by simp only[pF,lU,qX];omega);simp only[e0,Bool.not_false,aI,aS,hw,hcut,ah,gt,hnt,r1,r2];cases Nat.blt 0 (ks.take (ks.length - 1)).length with
   |true=>rw[VE,List.nil_append] at z1 z2⊢;simp only[aI,ah,kC,l1,hi,Lu,he,VE,List.nil_append,fz5,nS] at z1⊢;rw[uP _ z1,ah,nS,aI]
   |false=>simp only[aI,aS,ah,kC,hi,Lu,he,VE,List.nil_append,fz3,nS] at z2⊢;rw[uP _ z2,ah,nS,aI]
 have hyy:∀{R:Type} (a c:R),(bif !(y==[]) then(bif !(y==[]) then a else c) else c)=bif !(y==[]) then a else c:=by intro R a c;cases(y==[])<;>rfl
 simp only[M.yF,M.NC,amI];rcases hop with rfl|rfl
 ·have k1:=key [112,114,105,110,116];rw[show((0:Int)==1)=false from rfl,aS,kC,ah];rw[show((0:Int)==0)=true from rfl,aI,<-k1];cases(y==[])<;>rfl
 ·have k1:=key [112,114,105,110,116,102];rw[show((1:Int)==1)=true from rfl,aI,kC,ah];rw[show((1:Int)==0)=false from rfl,aS,<-k1];cases(y==[])<;>rfl
end
def SS(u:Tn):Prop:=∀(o:Bool) (f:Nat) (l:List Nd) (b:Nat),l.length<=1048576->Lies l b u->6 * u.size<=f->M.Jy f (aT o l) false ((b+sizes u.kids:Nat):Int)=some (dE (iU u))
def BS(u:Tn):Prop:=∀(o:Bool) (f:Nat) (l:List Nd) (b:Nat),l.length<=1048576->Lies l b u->6 * u.size<=f+3->M.gZ f (aT o l) false ((b+sizes u.kids:Nat):Int)=some (dE (iU u))
def Yq:List Tn->aA
 |[]=>[]
 |d::l=>[D.sl true 4 (dE TU)]::[D.sl false 4 (dw false (d.flat 0))]::Yq l
def ajf:∀(L:List Tn) (x:Tn),Yq (L++[x])=Yq L++[[D.sl true 4 (dE TU)],[D.sl false 4 (dw false (x.flat 0))]]
 |[],x=>rfl
 |y::L,x=>by rw[VE,Yq,Yq,ajf L x];rfl
def alr:∀L:List Tn,(Yq L).length=2 * L.length
 |[]=>rfl
 |y::L=>by have:=alr L;rw[Yq,lU,lU,this,lU];omega
def aqL:∀L:List Tn,aP (Yq L)=tY (Gt L)
 |[]=>rfl
 |d::l=>by
  have h1:qg [D.sl true 4 (dE TU)]=[D.sl false 4 (dw false (TU.flat 0))]:=by simp[qg,D.fz,dE]
  have h2:qg [D.sl false 4 (dw false (d.flat 0))]=[D.sl false 4 (dw false (d.flat 0))]:=by simp[qg,D.fz]
  rw[Yq,aP,aP,h1,h2,aqL l];rfl
def aCv(L:List Tn)(hn:L.length<=1048576)(hs:sizes (Gt L)<=90000000):M.yE (tY L)=some (dE (o7 (Gt L))):=by
 have hpl:(tY L).length=L.length:=by simp[tY]
 have hloop:=fJ (b:=M.FU (tY L)) (t:=((L.length:Int),Yq L)) (λj=>((j:Int),Yq (L.take j))) L.length
  (by
   intro j hj;obtain⟨d,hd⟩:∃d,L[j]? =some d:=⟨L[j],by simp[hj]⟩
   have hr:idx (tY L) (j:Int)=some [.sl false 4 (dw false (d.flat 0))]:=by rw[aW];simp[tY,hd]
   have c0:OE 4 [D.sl false 4 (dw false (d.flat 0))] 0=some (dw false (d.flat 0)):=rfl;have hll:=alr (L.take j);rw[Ud] at hll;have hw:i64.wrap ((j:Int)+1)=((j+1:Nat):Int):=by rw[aC ak ak];omega
   simp only[iY,M.FU,M.zu,hpl,arZ,hr,ah,c0,lU,qX,hw];rw[zdt ak,aI,aJ ak,aI,aJ ak,aI,dP hd,ajf])
  (by simp only[iY,M.FU,M.zu,hpl];rw[nZ ak,aS,List.take_length]) 0 (Nat.zero_le _)
 have xA:M.Ky (tY L) (0,[])=some ((L.length:Int),Yq L):=hloop;simp only[M.yE,M.Nu,xA,ah,aqL,uP _ hs,nS,aI]
def azB{u:Tn}(hS:SS u)(hk:20<=u.kind∧u.kind<=34){o:Bool}{f:Nat}{l:List Nd}{b:Nat}(hl:l.length<=1048576)(h:Lies l b u)(hf:6 * u.size+1<=f):
  M.qy f (aT o l) false ((b+sizes u.kids:Nat):Int)=some (dE (iU u)):=by
 obtain⟨g,rfl⟩:∃g,f=g+1:=⟨f - 1,ak⟩
 have h1:=hS o g l b hl h ak;have n0:(u.kind==40)=false:=by rw[JX];omega
 have n1:(u.kind==41)=false:=by rw[JX];omega
 have n2:(u.kind==42)=false:=by rw[JX];omega
 have n3:(u.kind==43)=false:=by rw[JX];omega
 have n4:(u.kind==44)=false:=by rw[JX];omega
 rw[M.PZ];simp only[iY,M.sW,VD h,ah,Ji,Me,LV,MB,GI,n0,n1,n2,n3,n4,aS,h1]
def aIs{ks:List Tn}{o:Bool}{f:Nat}{l:List Nd}{b:Nat}{D':Tn->Tn}(ih:∀j u,ks[j]? =some u->M.qy f (aT o l) false ((b+sizes (ks.take j)+sizes u.kids:Nat):Int)=some (dE (D' u)))(hn:ks.length<=1048576):
  M.EC (f+1) (aT o l) false (encI (ends ks b))=some ((ks.map D').map ZF):=by
 have hloop:=fJ (b:=M.Iw (M.qy f) (encI (ends ks b)) (aT o l) false) (t:=((ks.length:Int),(ks.map D').map ZF)) (λj=>((j:Int),((ks.take j).map D').map ZF)) ks.length
  (by
   intro j hj;obtain⟨u,hu⟩:∃u,ks[j]? =some u:=⟨ks[j],by simp[hj]⟩
   have hi:=lY (b:=b) hu;have h1:=ih j u hu;have hw:i64.wrap ((j:Int)+1)=((j+1:Nat):Int):=by rw[aC ak ak];omega
   simp only[iY,M.Iw,M.BJ,aU,dQ,hi,ah,Lu,h1,List.length_map,Ud,lU,qX,hw];rw[zdt ak,aI,aJ ak,aI,aJ ak,aI,dP hu,List.map_append,List.map_append];rfl)
  (by simp only[iY,M.Iw,M.BJ,aU,dQ];rw[nZ ak,aS,List.take_length]) 0 (Nat.zero_le _)
 have xA:M.Np (M.qy f) (encI (ends ks b)) (aT o l) false (0,[])=some ((ks.length:Int),(ks.map D').map ZF):=hloop;rw[M.ahK];simp only[M.Ej,xA,ah]
def als:∀ks:List Tn,oL ks=ks.map iU
 |[]=>rfl
 |t::ts=>by rw[oL,als ts];rfl
def aCw{k op:Int}{x y:aB}{ks:List Tn}(ih:∀u,u∈ks->SS u∧(20<=u.kind∧u.kind<=34)){o:Bool}{f:Nat}{l:List Nd}{b:Nat}(hl:l.length<=1048576)(h:Lies l b (.mk k op x y ks))(hf:6 * sizes ks+3<=f)(hu:sizes ks<=1048575)(hz:sizes (oL ks)+2 * ks.length<=40 * sizes ks):
  M.gZ f (aT o l) false ((b+sizes ks:Nat):Int)=some (dE (amH (oL ks))):=by
 obtain⟨g,rfl⟩:∃g,f=g+1+1:=⟨f - 2,ak⟩
 have hkl:=iZ ks;have hr:idx (aT o l) ((b+sizes ks:Nat):Int)=some (TK o ⟨k,op,x,y,ends ks b⟩):=VD h;have hk:M.EC (g+1) (aT o l) false (encI (ends ks b))=some ((oL ks).map ZF):=by rw[als];refine aIs (λj u hj=> ?_) ak;obtain⟨h1,h2⟩:=ih u (zZ hj);have:=iw (zZ hj);exact azB h1 h2 hl (Lies.QM h hj) ak
 have hll:=ZB (oL ks);rw[QU] at hll;have hL:=aCv (oL ks) (by rw[QU];omega) ak;have z1:sizes [o7 (Gt (oL ks))]<=90000000:=by simp only[sizes,pX];omega
 have z2:sizes [mP [123],Ym (o7 (Gt (oL ks))),TU,mP [125]]<=90000000:=by simp only[sizes,pX,Xq,gY,ade];omega
 rw[M.afG];simp only[M.Ak,kC,arZ,hr,ah,GI,hk,TB,hL,nS,aI,fz1,am3 _ z1,fz4,uP _ z2];rfl
set_option maxHeartbeats 4000000 in
def azC(t:Tn):Gw t->isS t->Uu t->t.size<=1048576->SS t∧(t.kind=33->BS t):=by
 refine Tn.ind (P:=λt=>Gw t->isS t->Uu t->t.size<=1048576->SS t∧(t.kind=33->BS t)) ?_ t;intro k op x y ks ih hok hs hsm hsz;have hc:=RH hok;simp only[isS,Tn.kind] at hs;rw[Uu] at hsm;obtain⟨⟨hx,hy⟩,hss⟩:=hsm;rw[Tn.size] at hsz;have kE:∀{j:Nat} {u:Tn},ks[j]? =some u->cls k op ks.length j=0->Ex' u:=by intro j u hj hcl;obtain⟨h1,h2⟩:=Oz hok hj;rw[hcl] at h1;have:=iw (zZ hj);exact⟨h2,h1,yt hss (zZ hj),ak⟩
 have kE3:∀{j:Nat} {u:Tn},ks[j]? =some u->cls k op ks.length j=3->u.kind=16∨Ex' u:=by
  intro j u hj hcl;obtain⟨h1,h2⟩:=Oz hok hj;rw[hcl] at h1;have:=iw (zZ hj);rcases h1 with h1|h1
  ·exact .inl h1
  ·exact .inr ⟨h2,h1,yt hss (zZ hj),ak⟩
 have kB:∀{j:Nat} {u:Tn},ks[j]? =some u->cls k op ks.length j=1->BS u∧(iU u).size+2<=40 * u.size:=by intro j u hj hcl;obtain⟨h1,h2⟩:=Oz hok hj;rw[hcl] at h1;have h1':u.kind=33:=h1;have:=iw (zZ hj);exact⟨(ih u (zZ hj) h2 (by constructor<;>omega) (yt hss (zZ hj)) ak).2 h1',Yg u h2 (by constructor<;>omega)⟩
 have kS:k=33->∀u,u∈ks->SS u∧(20<=u.kind∧u.kind<=34):=by intro e u hu;subst e;obtain⟨j,hj⟩:=List.mem_iff_getElem?.1 hu;obtain⟨h1,h2⟩:=atu hok hj (.inr (by simp[cls]));have:=iw hu;exact⟨(ih u hu h2 h1 (yt hss hu) ak).1,h1⟩
 have hB:k=33->BS (.mk k op x y ks):=by
  intro e o f l b hl h hf;have hz:sizes (oL ks)+2 * ks.length<=40 * sizes ks:=abK λu hu=>by subst e;obtain⟨j,hj⟩:=List.mem_iff_getElem?.1 hu;obtain⟨h1,h2⟩:=atu hok hj (.inr (by simp[cls]));exact Yg u h2 h1
  have h1:=aCw (k:=k) (op:=op) (x:=x) (y:=y) (kS e) (o:=o) (f:=f) hl h (by rw[Tn.size] at hf;omega) ak hz;have h2:iU (.mk k op x y ks)=amH (oL ks):=by rw[iU,e];rfl
  rw[h2];exact h1
 refine⟨λo f l b hl h hf=> ?_,hB⟩;have hbk:∀f,6 * (sizes ks+1)<=f+3->k=33->M.gZ f (aT o l) false ((b+sizes ks:Nat):Int)=some (dE (iU (.mk k op x y ks))):=λf hf e=>hB e o f l b hl h (by rw[Tn.size];exact hf)
 rw[Tn.size] at hf;obtain⟨g,rfl⟩:∃g,f=g+1:=⟨f - 1,ak⟩
 have aE:∀(h:∀j,cls k op ks.length j=0),∀u,u∈ks->Ex' u:=by intro h u hu;obtain⟨j,hj⟩:=List.mem_iff_getElem?.1 hu;exact kE hj (h j)
 have hat:At l b ks:=λj u hj=>Lies.QM h hj
 have hr:idx (aT o l) ((b+sizes ks:Nat):Int)=some (TK o ⟨k,op,x,y,ends ks b⟩):=VD h;have hel:(encI (ends ks b)).length=ks.length:=by rw[aU,dQ]
 rw[M.ahM,Tn.kids];have hk:k=20∨k=21∨k=22∨k=25∨k=26∨k=23∨k=24∨k=27∨k=28∨k=29∨k=30∨k=31∨k=32∨k=33∨k=34:=ak;rcases hk with rfl|rfl|rfl|rfl|rfl|rfl|rfl|rfl|rfl|rfl|rfl|rfl|rfl|rfl|rfl
 ·obtain⟨u,rfl⟩:=zlo.1 (hc.one ak);have i0:=lY (ks:=[u]) (b:=b) (j:=0) (u:=u) rfl;have h0:=Yi (o:=o) hl (kE (j:=0) (u:=u) rfl (by simp[cls])) (hat 0 u rfl);rw[pz] at i0;simp only[iY,M.fG,hr,Ji,Me,LV,MB,GI,Int.reduceBEq,aI,aS,i0,Lu,ah,DF.2,h0];rw[iU];rfl
 ·have h0:=a0B (o:=o) hl (aE (λj=>by simp[cls])) hat ak op x y (hc.prn rfl).1 (hc.prn rfl).2 hy;simp only[iY,M.fG,hr,Ji,Me,LV,MB,GI,Int.reduceBEq,aI,aS,ah,h0];rw[iU];rfl
 ·simp only[iY,M.fG,hr,Ji,Me,LV,MB,GI,Int.reduceBEq,aI,aS,ah,kC];rw[iU];rfl
 ·simp only[iY,M.fG,hr,Ji,Me,LV,MB,GI,Int.reduceBEq,aI,aS,ah,kC];rw[iU];rfl
 ·simp only[iY,M.fG,hr,Ji,Me,LV,MB,GI,Int.reduceBEq,aI,aS,ah,kC];rw[iU];rfl
 ·have h0:=aEs (o:=o) hl (aE (λj=>by simp[cls])) hat [101,120,105,116];simp only[iY,M.fG,hr,Ji,Me,LV,MB,GI,Int.reduceBEq,aI,aS,ah,h0];rw[iU];rfl
 ·have h0:=aEs (o:=o) hl (aE (λj=>by simp[cls])) hat [114,101,116,117,114,110];simp only[iY,M.fG,hr,Ji,Me,LV,MB,GI,Int.reduceBEq,aI,aS,ah,h0];rw[iU];rfl
 ·have h0:=azA (o:=o) hl (aE (λj=>by simp[cls])) hat ak (p:=.top) rfl;have h1:=OD .top ks;simp only[Ps.top] at h0 h1;rw[iU];cases ks with
  |nil=>simp(disch:=omega) only[iY,M.fG,hr,Ji,Me,LV,MB,GI,Int.reduceBEq,aI,aS,hel,qX,ah,kC,Dh,show((((0:Nat):Int))==0)=true from rfl];rfl
  |cons u t=>
   have e0:((((u::t).length:Nat):Int)==0)=false:=by rw[JX,lU];omega
   have z1:sizes [mP ([100,101,108,101,116,101,32]++x++[91]),Rf ⟨1,false,false,false,false⟩ (u::t),mP [93]]<=90000000:=by simp only[sizes,gY] at *;omega
   have r1:(7+x.length).ble 9223372036854775807=true:=Dh ak;have r2:(([100,101,108,101,116,101,32]++x).length+1).ble 9223372036854775807=true:=Dh (by simp only[pF,lU,qX];omega);simp only[iY,M.fG,hr,Ji,Me,LV,MB,GI,Int.reduceBEq,aI,aS,hel,e0,r1,r2,ah,kC,DF.2,h0,fz3,uP _ z1,nS];rfl
 ·rw[iU];obtain⟨g',rfl⟩:∃g',g=g'+1:=⟨g - 1,ak⟩
  rcases hc.cnd rfl with h2|h3
  ·obtain⟨u,v,rfl⟩:=OA h2;have hs2:=sz2 u v;have i0:=lY (ks:=[u,v]) (b:=b) (j:=0) (u:=u) rfl;have i1:=lY (ks:=[u,v]) (b:=b) (j:=1) (u:=v) rfl;rw[pz] at i0;rw[Yf] at i1;have e0:=kE (j:=0) (u:=u) rfl (by simp[cls]);have h0:=Yi (o:=o) hl e0 (hat 0 u rfl);have s0:=nR u .top;obtain⟨h1,s1⟩:=kB (j:=1) (u:=v) rfl (by simp[cls]);have h1':=h1 o g' l _ hl (hat 1 v rfl) ak;have e2:((([u,v]:List Tn).length:Int)==2)=true:=rfl;have z1:sizes [mP [105,102,32,40],Lr u,mP [41,32],iU v]<=90000000:=by simp only[sizes,gY,Lr] at *;omega
   simp only[iY,M.fG,hr,Ji,Me,LV,MB,GI,Int.reduceBEq,aI,aS,M.acB,M.FY,hel,e2,i0,i1,Lu,ah,kC,DF.2,h0,h1',fz4,uP _ z1,nS];rfl
  ·obtain⟨u,v,z,rfl⟩:=Xp h3;have hs3:=sz3 u v z;have i0:=lY (ks:=[u,v,z]) (b:=b) (j:=0) (u:=u) rfl;have i1:=lY (ks:=[u,v,z]) (b:=b) (j:=1) (u:=v) rfl;have i2:=lY (ks:=[u,v,z]) (b:=b) (j:=2) (u:=z) rfl;rw[pz] at i0;rw[Yf] at i1;rw[auR] at i2;have e0:=kE (j:=0) (u:=u) rfl (by simp[cls]);have h0:=Yi (o:=o) hl e0 (hat 0 u rfl);have s0:=nR u .top;obtain⟨h1,s1⟩:=kB (j:=1) (u:=v) rfl (by simp[cls]);have h1':=h1 o g' l _ hl (hat 1 v rfl) ak;obtain⟨h2,s2⟩:=kB (j:=2) (u:=z) rfl (by simp[cls]);have h2':=h2 o g' l _ hl (hat 2 z rfl) ak;have e2:((([u,v,z]:List Tn).length:Int)==2)=false:=rfl;have z1:sizes [mP [105,102,32,40],Lr u,mP [41,32],iU v]<=90000000:=by simp only[sizes,gY,Lr] at *;omega
   have z2:sizes [o7 [mP [105,102,32,40],Lr u,mP [41,32],iU v],mP [32,101,108,115,101,32],iU z]<=90000000:=by simp only[sizes,gY,pX,Lr] at *;omega
   simp only[iY,M.fG,hr,Ji,Me,LV,MB,GI,Int.reduceBEq,aI,aS,M.acB,M.FY,hel,e2,i0,i1,i2,Lu,ah,kC,DF.2,h0,h1',h2',fz4,fz3,uP _ z1,uP _ z2,nS];rfl
 ·rw[iU];obtain⟨u,v,rfl⟩:=OA (hc.two ak);have hs2:=sz2 u v;have i0:=lY (ks:=[u,v]) (b:=b) (j:=0) (u:=u) rfl;have i1:=lY (ks:=[u,v]) (b:=b) (j:=1) (u:=v) rfl;rw[pz] at i0;rw[Yf] at i1;have e0:=kE (j:=0) (u:=u) rfl (by simp[cls]);have h0:=Yi (o:=o) hl e0 (hat 0 u rfl);have s0:=nR u .top;obtain⟨h1,s1⟩:=kB (j:=1) (u:=v) rfl (by simp[cls]);have h1':=h1 o g l _ hl (hat 1 v rfl) ak;have z1:sizes [mP [119,104,105,108,101,32,40],Lr u,mP [41,32],iU v]<=90000000:=by simp only[sizes,gY,Lr] at *;omega
  simp only[iY,M.fG,hr,Ji,Me,LV,MB,GI,Int.reduceBEq,aI,aS,i0,i1,Lu,ah,kC,DF.2,h0,h1',fz4,uP _ z1,nS];rfl
 ·rw[iU];obtain⟨u,v,rfl⟩:=OA (hc.two ak);have hs2:=sz2 u v;have i0:=lY (ks:=[u,v]) (b:=b) (j:=0) (u:=u) rfl;have i1:=lY (ks:=[u,v]) (b:=b) (j:=1) (u:=v) rfl;rw[pz] at i0;rw[Yf] at i1;have e0:=kE (j:=1) (u:=v) rfl (by simp[cls]);have h0:=Yi (o:=o) hl e0 (hat 1 v rfl);have s0:=nR v .top;obtain⟨h1,s1⟩:=kB (j:=0) (u:=u) rfl (by simp[cls]);have h1':=h1 o g l _ hl (hat 0 u rfl) ak;have z1:sizes [mP [100,111,32],iU u,mP [32,119,104,105,108,101,32,40],Lr v,mP [41]]<=90000000:=by simp only[sizes,gY,Lr] at *;omega
  simp only[iY,M.fG,hr,Ji,Me,LV,MB,GI,Int.reduceBEq,aI,aS,i0,i1,Lu,ah,kC,DF.2,h0,h1',fz5,uP _ z1,nS];rfl
 ·rw[iU];obtain⟨g',rfl⟩:∃g',g=g'+1:=⟨g - 1,ak⟩
  obtain⟨u,v,z,q,rfl⟩:=amX (hc.four rfl);have hs4:sizes [u,v,z,q]=u.size+(v.size+(z.size+q.size)):=by simp[sizes]
  have bb7:((3:Nat):Int)=3:=rfl;have i0:=lY (ks:=[u,v,z,q]) (b:=b) (j:=0) (u:=u) rfl;have i1:=lY (ks:=[u,v,z,q]) (b:=b) (j:=1) (u:=v) rfl;have i2:=lY (ks:=[u,v,z,q]) (b:=b) (j:=2) (u:=z) rfl;have i3:=lY (ks:=[u,v,z,q]) (b:=b) (j:=3) (u:=q) rfl;rw[pz] at i0;rw[Yf] at i1;rw[auR] at i2;rw[bb7] at i3;have s1:=UZ v;have s2:=UZ z;have h1:=ar5 (o:=o) hl (kE3 (j:=1) (u:=v) rfl (by simp[cls])) (hat 1 v rfl);have h2:=ar5 (o:=o) hl (kE3 (j:=2) (u:=z) rfl (by simp[cls])) (hat 2 z rfl);obtain⟨h3,s3⟩:=kB (j:=3) (u:=q) rfl (by simp[cls]);have h3':=h3 o g' l _ hl (hat 3 q rfl) ak;have hr0:=VD (o:=o) (hat 0 u rfl);rcases kE3 (j:=0) (u:=u) rfl (by simp[cls]) with h0|h0
  ·have n0:(u.kind !=16)=false:=by simp[h0]
   have ha:afY 31 op x y [u,v,z,q] (oL [u,v,z,q])=o7 [mP [102,111,114,32,40],mP [],mP [59],Vz v,mP [59],Vz z,mP [41,32],iU q]:=by simp[afY,zS,yZ,oL,h0]
   have z1:sizes [mP [102,111,114,32,40],mP [],mP [59],Vz v,mP [59],Vz z,mP [41,32],iU q]<=90000000:=by simp only[sizes,gY] at *;omega
   rw[ha];simp only[iY,M.fG,hr,Ji,Me,LV,MB,GI,Int.reduceBEq,aI,aS,M.aay,M.Dz,i0,i1,i2,i3,Lu,hr0,n0,ah,kC,h1,h2,h3',fz8,uP _ z1,nS]
  ·have n0:(u.kind !=16)=true:=by have:=h0.e;unfold Yv at this;simp only[bne_iff_ne];omega
   have n1:(u.kind==16)=false:=by simpa using n0
   have ha:afY 31 op x y [u,v,z,q] (oL [u,v,z,q])=o7 [mP [102,111,114,32,40],C9 u ⟨1,false,true,false,false⟩,mP [59],Vz v,mP [59],Vz z,mP [41,32],iU q]:=by simp[afY,zS,yZ,oL,n1]
   have s0:=nR u ⟨1,false,true,false,false⟩;have he:=aIr (o:=o) hl h0 (hat 0 u rfl) (p:=⟨1,false,true,false,false⟩) rfl;have z1:sizes [mP [102,111,114,32,40],C9 u ⟨1,false,true,false,false⟩,mP [59],Vz v,mP [59],Vz z,mP [41,32],iU q]<=90000000:=by simp only[sizes,gY] at *;omega
   rw[ha];simp only[iY,M.fG,hr,Ji,Me,LV,MB,GI,Int.reduceBEq,aI,aS,M.aay,M.Dz,i0,i1,i2,i3,Lu,hr0,n0,he,ah,kC,h1,h2,h3',fz8,uP _ z1,nS]
 ·rw[iU];obtain⟨u,rfl⟩:=zlo.1 (hc.one ak);have hs1:=sz1 u;have i0:=lY (ks:=[u]) (b:=b) (j:=0) (u:=u) rfl;rw[pz] at i0;obtain⟨h1,s1⟩:=kB (j:=0) (u:=u) rfl (by simp[cls]);have h1':=h1 o g l _ hl (hat 0 u rfl) ak;have z1:sizes [mP ([102,111,114,32,40]++x++[32,105,110,32]++y++[41,32]),iU u]<=90000000:=by simp only[sizes,gY] at *;omega
  simp(disch:=first|omega|(simp only[pF,lU,qX];omega)) only[iY,M.fG,hr,Ji,Me,LV,MB,GI,Int.reduceBEq,aI,aS,i0,Lu,ah,kC,h1',fz2,uP _ z1,nS,Dh];rfl
 ·have h0:=hbk g ak rfl;simp only[iY,M.fG,hr,Ji,Me,LV,MB,GI,Int.reduceBEq,aI,aS,ah,h0]
 ·simp only[iY,M.fG,hr,Ji,Me,LV,MB,GI,Int.reduceBEq,aI,aS,ah,kC];rw[iU];rfl
def azD(t:Tn)(h:t.size<=90000000):M.vK t.kind t.op t.text (nY false t.kids) 0=some (dw true (t.flat 0)):=by have h1:=a0q t t.size false [] (Nat.le_refl _) (by simp only[qX];omega);have e0:dw true []=[]:=rfl;rw[e0,List.nil_append,qX] at h1;simp only[M.vK,M.Oa,M.afV h1,ah]
def last_at{T:Tn}(hT:T.size<=1048576):i64.wrap (((T.flat 0).length:Int) - 1)=((0+sizes T.kids:Nat):Int):=by have:=T.tZ;rw[T.flat_length,aC ak ak];omega
structure Bk(u:Tn):Prop where
 ok:Gw u
 k:u.kind=33
 sm:Uu u
 sz:u.size<=1048576
def azE{u:Tn}(h:Bk u)(w:Bool):M.jf u.kind u.op u.text u.other (cZ w u.kids)=some (Gu (iU u)):=by have hk:=h.k;exact M.ad1 ((azz u h.ok (by constructor<;>omega) h.sm h.sz).2 hk w (4 * u.size) ak)
def Ex'.kne{u:Tn}(h:Ex' u):(u.kind==33)=false:=by have:=h.e;unfold Yv at this;rw[JX];omega
def Bk.keq{u:Tn}(h:Bk u):(u.kind==33)=true:=by rw[h.k];rfl
def alu(b:Bool)(u:Tn):Hq [u] b=bif u.kind==33 then(bif b then[iU u] else[mP [32],iU u]) else(bif b then[Lr u] else[mP [44,32],Lr u]):=by rw[Hq,Hq,List.append_nil]
def abO:∀(L:List Tn) (b:Bool) (x:Tn),Hq (L++[x]) b=Hq L b++Hq [x] (L.isEmpty && b)
 |[],b,x=>rfl
 |y::L,b,x=>by rw[VE,Hq,Hq,abO L false x,Bool.and_false,List.isEmpty_cons,Bool.false_and,Ad]
def aen:∀(L:List Tn) (b:Bool),(Hq L b).length<=2 * L.length
 |[],b=>Nat.le_refl _
 |y::L,b=>by have:=aen L false;rw[Hq,pF,lU];cases(y.kind==33)<;>cases b<;>simp only[aI,aS,lU,qX]<;>omega
def aIt{ks:List Tn}(h:∀u,u∈ks->Bk u∨Ex' u)(hn:ks.length<=1000)(k op:Int)(x y:aB)(w:Bool):M.yh k op x y (cZ w ks)=some (Gu (o7 (Hq ks true))):=by
 have hloop:=fJ (b:=M.IX (cZ w ks) (ks.length:Int) 0 0 [] 0) (t:=((ks.length:Int),nY false (Hq ks true))) (λj=>((j:Int),nY false (Hq (ks.take j) true))) ks.length
  (by
   intro j hj;obtain⟨u,hu'⟩:∃u,ks[j]? =some u:=⟨ks[j],by simp[hj]⟩
   obtain⟨c0,c1,c2,c3,c4⟩:=jO w u;have hl:=aen (ks.take j) true;rw[Ud] at hl;have hw:i64.wrap ((j:Int)+1)=((j+1:Nat):Int):=by rw[aC ak ak];omega
   have he:(ks.take j).isEmpty=decide (j=0):=by
    cases j with
    |zero=>rfl
    |succ j=>cases ks with
     |nil=>simp at hj
     |cons a l=>rfl
   simp only[iY,M.IX,M.CJ,Aw w hu',c0,c1,c2,c3,c4,ah];rw[zdt ak,aI,dP hu',abO,he,Bool.and_true,Gv,alu];rcases h u (zZ hu') with hb|hb
   ·have h1:=azE hb w;rw[hb.keq]
    by_cases h0:j=0
    ·subst h0;simp(disch:=omega) only[aI,aS,kN,h1,ah,LD,LG,LH,LJ,LK,LM,fE,yu,lU,qX,hw,aJ];rfl
    ·rw[zdt (show(j:Int)>0 by omega),nZ h0];simp(disch:=omega) only[aI,aS,kN,h1,ah,LD,LG,LH,LJ,LK,LM,fE,yu,lU,qX,hw,aJ];rfl
   ·have h1:=aiO hb w;rw[hb.kne]
    by_cases h0:j=0
    ·subst h0;simp(disch:=omega) only[aI,aS,kN,h1,ah,LD,LG,LH,LJ,LK,LM,fE,yu,lU,qX,hw,aJ];rfl
    ·rw[zdt (show(j:Int)>0 by omega),nZ h0];simp(disch:=omega) only[aI,aS,kN,h1,ah,LD,LG,LH,LJ,LK,LM,fE,yu,lU,qX,hw,aJ];rfl)
  (by simp only[iY,M.IX,M.CJ];rw[nZ ak,aS,List.take_length]) 0 (Nat.zero_le _)
 have xA:M.N8 (cZ w ks) (ks.length:Int) 0 0 [] 0 (0,[])=some ((ks.length:Int),nY false (Hq ks true)):=hloop;simp only[iY,M.yh,M.Qs,fB,xA,ah,aqw,LD,LG,LH,LJ,LK,LM,bT]
def ajg:∀(L:List (aB)) (b:Bool) (x:aB),JK (L++[x]) b=JK L b++(bif L.isEmpty && b then x else[44,32]++x)
 |[],b,x=>by simp[JK]
 |y::L,b,x=>by rw[VE,JK,JK,ajg L false x,Bool.and_false,List.isEmpty_cons,Bool.false_and,Ad]
def ZI:∀(l:List (aB)),joinL [44,32] l=JK l true∧∀x,[44,32]++joinL [44,32] (x::l)=JK (x::l) false
 |[]=>⟨rfl,λx=>by simp[joinL,JK]⟩
 |y::l=>by
  have ih:=(ZI l).2;constructor
  ·cases l with
   |nil=>simp[joinL,JK]
   |cons z l=>have h1:=(ZI l).2 z;rw[joinL,h1];rfl
  ·intro x;rw[joinL,ih y];simp[JK]
def aae{N:Nat}:∀(l:List (aB)) (b:Bool),(∀x,x∈l->x.length<=N)->(JK l b).length<=(N+2) * l.length
 |[],b,_=>by simp[JK]
 |x::l,b,h=>by have h1:=aae l false (λy hy=>h y (Yw _ hy));have h2:=h x ZK;rw[JK,pF,lU,Nat.mul_add,Nat.mul_one];cases b<;>simp only[aI,aS,pF,lU,qX]<;>omega
def alv:∀l:List (aB),arC (encS l)=some l
 |[]=>rfl
 |x::l=>by have h:=alv l;unfold encS at *;rw[Rh,arC];simp only[h]
def atE{N:Nat}:∀(l:List (aB)),(∀x,x∈l->x.length<=N)->anH l<=N * l.length
 |[],_=>Nat.le_refl _
 |x::l,h=>by have h1:=atE l (λy hy=>h y (Yw _ hy));have h2:=h x ZK;rw[anH,lU,Nat.mul_add,Nat.mul_one];omega
def aIu{ks:List Tn}(h:∀u,u∈ks->u.text.length<=1048576)(h0:1<=ks.length)(hn:ks.length<=1000)(k op:Int)(x y:aB)(hx:x.length<=1048576)(w:Bool):M.Fh k op x y (cZ w ks)=some (Yn x ks)∧(Yn x ks).length<=1060000000:=by
 obtain⟨A,hA⟩:∃A,ks.take (ks.length - 1)=A:=⟨_,rfl⟩
 have hAl:A.length+1=ks.length:=by rw[<-hA,Ud];omega
 have hAm:∀u,u∈A->u.text.length<=1048576:=λu hu=>h u (List.mem_of_mem_take (hA ▸ hu))
 have hmm:∀z,z∈A.map Tn.text->z.length<=1048576:=by intro z hz;obtain⟨u,hu,rfl⟩:=List.mem_map.1 hz;exact hAm u hu
 have hloop:=fJ (b:=M.La (cZ w A) (A.length:Int) k op x y (cZ w ks)) (t:=((A.length:Int),encS (A.map Tn.text))) (λj=>((j:Int),encS ((A.take j).map Tn.text))) A.length
  (by
   intro j hj;obtain⟨u,hu'⟩:∃u,A[j]? =some u:=⟨A[j],by simp[hj]⟩
   obtain⟨c0,c1,c2,c3,c4⟩:=jO w u;have hl:(encS ((A.take j).map Tn.text)).length=j:=by simp[encS];omega
   have hw:i64.wrap ((j:Int)+1)=((j+1:Nat):Int):=by rw[aC ak ak];omega
   simp only[iY,M.La,M.EO,Aw w hu',c0,c1,c2,c3,c4,ah,hl,lU,qX,hw];rw[zdt ak,aI,aJ ak,aI,aJ ak,aI,dP hu',List.map_append,encS,encS,List.map_append];rfl)
  (by simp only[iY,M.La,M.EO];rw[nZ ak,aS,List.take_length]) 0 (Nat.zero_le _)
 have xA:M.Qu (cZ w A) (A.length:Int) k op x y (cZ w ks) (0,[])=some ((A.length:Int),encS (A.map Tn.text)):=hloop;have hw:i64.wrap (((cZ w ks).length:Int) - 1)=((ks.length - 1:Nat):Int):=by rw[fB,aC ak ak];omega
 have hcut:cut (cZ w ks) 0 ((ks.length - 1:Nat):Int)=some (cZ w A):=by rw[auH _ _ (by rw[fB];omega),aiQ,hA]
 have hs:=atE _ hmm;rw[List.length_map] at hs;have hj:M.strings_Join (encS (A.map Tn.text)) [44,32]=some (JK (A.map Tn.text) true):=by simp only[M.strings_Join,alv];rw[aJ (by rw[List.length_map];simp only[lU,qX];omega),aI,(ZI _).1]
 have hjl:=aae _ true hmm;rw[List.length_map] at hjl;constructor
 ·rw[fB] at hw;simp only[M.Fh,M.Tq,fB,hw,hcut,ah,xA,hj];rw[aJ ak,aI,aJ (by simp only[pF,lU,qX];omega),aI,aJ (by simp only[pF,lU,qX];omega),aI,aJ (by simp only[pF,lU,qX];omega),aI,Yn,hA,Ad]
 ·rw[Yn,hA];simp only[pF,lU,qX];omega
def aeo(t:Tn):Prop:=(40<=t.kind∧t.kind<=44)∨t.kind=34
section
variable {k op:Int} {x y:aB} {ks:List Tn} (hok:Gw (.mk k op x y ks)) (hss:Ur ks) (hsz:sizes ks<=1048576)
include hok hss hsz
theorem aIv{j:Nat}{u:Tn}(hj:ks[j]? =some u)(hc:cls k op ks.length j=1):Bk u:=by obtain⟨h1,h2⟩:=Oz hok hj;rw[hc] at h1;have:=iw (zZ hj);exact⟨h2,h1,yt hss (zZ hj),ak⟩
theorem bb8{j:Nat}{u:Tn}(hj:ks[j]? =some u)(hc:cls k op ks.length j=0):Ex' u:=by obtain⟨h1,h2⟩:=Oz hok hj;rw[hc] at h1;have:=iw (zZ hj);exact⟨h2,h1,yt hss (zZ hj),ak⟩
theorem a0C(hk:k=42∨k=43):∀u,u∈ks->Bk u∨Ex' u:=by
 intro u hu;obtain⟨j,hj⟩:=List.mem_iff_getElem?.1 hu;have:cls k op ks.length j=1∨cls k op ks.length j=0:=by
  rcases hk with rfl|rfl
  ·have e:cls 42 op ks.length j=if op=2∨(op=3∧j+1=ks.length) then 1 else 0:=by simp[cls]
   rw[e];split
   ·exact .inl rfl
   ·exact .inr rfl
  ·have e:cls 43 op ks.length j=if j=2 then 1 else 0:=by simp[cls]
   rw[e];split
   ·exact .inl rfl
   ·exact .inr rfl
 rcases this with h|h
 ·exact .inl (aIv hok hss hsz hj h)
 ·exact .inr (bb8 hok hss hsz hj h)
end
def adn{t:Tn}(h:Uu t):t.text.length<=1048576:=by cases t;exact h.1.1
def ajh{ks:List Tn}(h:Ur ks):∀u,u∈ks->u.text.length<=1048576:=λu hu=>adn (yt h hu)
def Bk.size{u:Tn}(h:Bk u):(iU u).size+2<=40 * u.size:=by have hk:=h.k;exact Yg u h.ok (by constructor<;>omega)
def abP:∀(L:List Tn) (b:Bool),(∀u,u∈L->Bk u∨Ex' u)->sizes (Hq L b)<=40 * sizes L
 |[],b,_=>Nat.le_refl _
 |u::l,b,h=>by
  have h1:=abP l false (λv hv=>h v (Yw _ hv));have h2:=u.tZ;rw[Hq,jP,sizes];rcases h u ZK with hb|hb
  ·have h3:=hb.size;rw[hb.keq,aI];cases b<;>simp only[aI,aS,sizes,gY]<;>omega
  ·have h3:=nR u .top;rw[hb.kne,aS];cases b<;>simp only[aI,aS,sizes,gY,Lr]<;>omega
def alx:∀(L:List Tn) (b:Bool),Ur L->Di (Hq L b)
 |[],b,_=>trivial
 |u::l,b,h=>by have h1:=alx l false h.2;have h2:=aad u h.1;have h3:=RJ h.1 .top;rw[Hq,ZG];refine⟨?_,h1⟩;cases(u.kind==33)<;>cases b<;>simp only[aI,aS,Di,rQ,Lr]<;>simp[h2,h3]
def azF{ks:List Tn}(h:1<=ks.length):∃u,ks[ks.length - 1]? =some u∧zS ks (ks.length - 1)=u:=by have:ks.length - 1<ks.length:=ak;refine⟨ks[ks.length - 1],by simp[this], ?_⟩;simp[zS,this]
def Yj{t:Tn}(hok:Gw t)(hi:aeo t)(hs:Uu t)(hz:t.size<=1048576):
  (∃u,(t.kind=40∨t.kind=41)∧t.kids=[u]∧Bk u)∨((t.kind=42∨t.kind=43)∧t.kids.length<=7∧∀u,u∈t.kids->Bk u∨Ex' u)∨
  (t.kind=44∧1<=t.kids.length∧t.kids.length<=7∧∃u,t.kids[t.kids.length - 1]? =some u∧zS t.kids (t.kids.length - 1)=u∧Bk u)∨t.kind=34:=by
 have hss:=Zy hs;have hks:=t.tZ;obtain⟨k,op,x,y,ks⟩:=t;simp only[Tn.kids,Tn.kind] at *;have hc:=RH hok;unfold aeo at hi;simp only[Tn.kind] at hi;rcases hi with hi|hi
 ·have hk:(k=40∨k=41)∨(k=42∨k=43)∨k=44:=ak;rcases hk with hk|hk|hk
  ·obtain⟨u,rfl⟩:=zlo.1 (hc.one ak);refine .inl ⟨u,hk,rfl,aIv hok hss ak (j:=0) rfl ?_⟩;rcases hk with rfl|rfl<;>simp[cls]
  ·exact .inr (.inl ⟨hk,hc.few ak ak,a0C hok hss ak hk⟩)
  ·have h1:=hc.some_ ak;obtain⟨u,h2,h3⟩:=azF h1;refine .inr (.inr (.inl ⟨hk,h1,hc.few ak ak,u,h2,h3,aIv hok hss ak h2 ?_⟩));subst hk;simp[cls];omega
 ·exact .inr (.inr (.inr hi))
def aji{t:Tn}(hok:Gw t)(hi:aeo t)(hs:Uu t)(hz:t.size<=1048576):(itemD t).size+1<=40 * t.size:=by
 have hks:=t.tZ;unfold itemD;rcases Yj hok hi hs hz with⟨u,hk,hu,hb⟩|⟨hk,hn,hb⟩|⟨hk,h1,h7,u,hu,hn,hb⟩|hk
 ·have h2:=hb.size;rw[hu,sizes,sizes] at hks;rw[hu];rcases hk with hk|hk<;>rw[hk]<;>simp only[Int.reduceBEq,aI,aS,pX,sizes,gY,zS,List.getElem?_cons_zero,Option.getD_some]<;>omega
 ·have h2:=abP _ true hb;rcases hk with hk|hk<;>rw[hk]<;>simp only[Int.reduceBEq,aI,aS,Bool.true_or,Bool.or_true,pX]<;>omega
 ·have h2:=hb.size;have h3:=iw (zZ hu);rw[hk,hn];simp only[Int.reduceBEq,aI,aS,Bool.or_false,pX,sizes,gY];omega
 ·have h2:=Yg t hok (by constructor<;>omega);rw[hk];simp only[Int.reduceBEq,aS,Bool.or_false];omega
def aly{ks:List Tn}(h:∀u,u∈ks->u.text.length<=1048576)(h0:1<=ks.length)(hn:ks.length<=7){x:aB}(hx:x.length<=1048576):(Yn x ks).length<=10000000:=by
 have hmm:∀z,z∈(ks.take (ks.length - 1)).map Tn.text->z.length<=1048576:=by intro z hz;obtain⟨u,hu,rfl⟩:=List.mem_map.1 hz;exact h u (List.mem_of_mem_take hu)
 have h1:=aae _ true hmm;rw[List.length_map,Ud] at h1;rw[Yn];simp only[pF,lU,qX];have h2:min (ks.length - 1) ks.length<=6:=ak;have h3:(1048576+2) * min (ks.length - 1) ks.length<=(1048576+2) * 6:=Nat.mul_le_mul_left _ h2;omega
def au1{t:Tn}(hok:Gw t)(hi:aeo t)(hs:Uu t)(hz:t.size<=1048576):VG (itemD t):=by
 have hss:=Zy hs;have h0:=aad t hs;unfold itemD;rcases Yj hok hi hs hz with⟨u,hk,hu,hb⟩|⟨hk,hn,hb⟩|⟨hk,h1,h7,u,hu,hn,hb⟩|hk
 ·have h2:=aad u hb.sm;rw[hu];rcases hk with hk|hk<;>rw[hk]<;>simp only[Int.reduceBEq,aI,aS,yw,Di,rQ,zS,List.getElem?_cons_zero,Option.getD_some]<;>simp[h2]
 ·have h2:=alx _ true hss;rcases hk with hk|hk<;>rw[hk]<;>simp only[Int.reduceBEq,aI,aS,Bool.true_or,Bool.or_true,yw]<;>exact h2
 ·have h2:=aad u hb.sm;have h3:=aly (ajh hss) h1 h7 (adn hs);rw[hk,hn];simp only[Int.reduceBEq,aI,aS,Bool.or_false,yw,Di,rQ,pF,lU,qX];exact⟨ak,h2,trivial⟩
 ·rw[hk];simp only[Int.reduceBEq,aS,Bool.or_false];exact h0
def aIw{t:Tn}(hok:Gw t)(hi:aeo t)(hs:Uu t)(hz:t.size<=1048576)(w:Bool):M.Bg t.kind t.op t.text t.other (cZ w t.kids)=some (Gu (itemD t)):=by
 have hss:=Zy hs;simp only[iY,M.Bg,M.Qv,itemD];rcases Yj hok hi hs hz with⟨u,hk,hu,hb⟩|⟨hk,hn,hb⟩|⟨hk,h1,h7,u,hu,hn,hb⟩|hk
 ·have h2:=azE hb w;obtain⟨c0,c1,c2,c3,c4⟩:=jO w u;have i0:idx (cZ w [u]) 0=some (u.row w):=rfl;have e0:zS [u] 0=u:=rfl;rw[hu];rcases hk with hk|hk<;>rw[hk]<;>simp only[Int.reduceBEq,aI,aS,e0,i0,c0,c1,c2,c3,c4,h2,kN,ah,LD,LG,LH,LJ,LK,LM,fE,ajP,bT]
 ·have h2:=aIt hb ak t.kind t.op t.text t.other w;rcases hk with hk|hk<;>rw[hk] at h2⊢<;>simp only[Int.reduceBEq,aI,aS,Bool.true_or,Bool.or_true,h2,ah,LD,LG,LH,LJ,LK,LM,bT]
 ·have h2:=azE hb w;have h3:=aIu (ajh hss) h1 ak t.kind t.op t.text t.other (adn hs) w;obtain⟨c0,c1,c2,c3,c4⟩:=jO w u;have hw:i64.wrap (((cZ w t.kids).length:Int) - 1)=((t.kids.length - 1:Nat):Int):=by rw[fB,aC ak ak];omega
  have hr:((Yn t.text t.kids).length+1).ble 9223372036854775807=true:=aJ (by have:=h3.2;omega);rw[hk] at h3⊢;rw[hn];simp only[Int.reduceBEq,aI,aS,Bool.or_false,h3.1,hr,hw,Aw w hu,c0,c1,c2,c3,c4,h2,kN,ah,LD,LG,LH,LJ,LK,LM,fE,ajP,bT]
 ·have h2:=M.afT ((azz t hok (by constructor<;>omega) hs hz).1 w (4 * t.size) (Nat.le_refl _));rw[hk] at h2⊢;simp only[Int.reduceBEq,aS,Bool.or_false,h2,ah,LD,LG,LH,LJ,LK,LM,bT]
def ZJ:∀(L:List Tn) (x:Tn),H9 (L++[x])=H9 L++[itemD x,TU]
 |[],x=>rfl
 |y::L,x=>by rw[VE,H9,H9,ZJ L x];rfl
def abQ:∀(L:List Tn),(H9 L).length=2 * L.length
 |[]=>rfl
 |y::L=>by have:=abQ L;rw[H9,lU,lU,this,lU];omega
structure It(u:Tn):Prop where
 ok:Gw u
 i:aeo u
 sm:Uu u
 sz:u.size<=1048576
def afl:∀{L:List Tn},(∀u,u∈L->It u)->sizes (H9 L)<=40 * sizes L
 |[],_=>Nat.le_refl _
 |u::l,h=>by have h1:=afl (λv hv=>h v (Yw _ hv));have hu:=h u ZK;have h2:=aji hu.ok hu.i hu.sm hu.sz;rw[H9,sizes,sizes,sizes,ade];omega
def ajj:∀{L:List Tn},(∀u,u∈L->It u)->Di (H9 L)
 |[],_=>trivial
 |u::l,h=>by have h1:=ajj (λv hv=>h v (Yw _ hv));have hu:=h u ZK;exact⟨au1 hu.ok hu.i hu.sm hu.sz,ai6,h1⟩
def aIo{t:Tn}(hok:Gw t)(hk:t.kind=45)(hs:Uu t)(hz:t.size<=1048576):∀u,u∈t.kids->It u:=by
 intro u hu;have hss:=Zy hs;have hks:=t.tZ;obtain⟨k,op,x,y,ks⟩:=t;simp only[Tn.kids,Tn.kind] at *;obtain⟨j,hj⟩:=List.mem_iff_getElem?.1 hu;obtain⟨h1,h2⟩:=Oz hok hj;have hc:cls k op ks.length j=5:=by subst hk;simp[cls]
 rw[hc] at h1;have:=iw hu;exact⟨h2,h1,yt hss hu,ak⟩
section
variable {o:Bool} {l:List Nd} {b:Nat} (hl:l.length<=1048576)
include hl
theorem azG{u:Tn}(h:Bk u)(hh:Lies l b u){f:Nat}(hf:6 * u.size<=f+3):M.gZ f (aT o l) false ((b+sizes u.kids:Nat):Int)=some (dE (iU u)):=by have hk:=h.k;exact(azC u h.ok (by constructor<;>omega) h.sm h.sz).2 hk o f l b hl hh hf
theorem aIx{ks:List Tn}(h:∀u,u∈ks->Bk u∨Ex' u)(hat:At l b ks)(hn:ks.length<=1000)(hz:sizes (Hq ks true)<=90000000){f:Nat}(hf:6 * sizes ks<=f+3)(k op:Int)(x y:aB):
  M.xu (M.gZ f) (aT o l) false k op x y (encI (ends ks b)) some=some (dE (o7 (Hq ks true))):=by
 have hel:(encI (ends ks b)).length=ks.length:=by rw[aU,dQ]
 have hloop:=fJ (b:=M.FX (M.gZ f) (aT o l) false k op x y (encI (ends ks b))) (t:=((ks.length:Int),(Hq ks true).map ZF)) (λj=>((j:Int),(Hq (ks.take j) true).map ZF)) ks.length
  (by
   intro j hj;obtain⟨u,hu'⟩:∃u,ks[j]? =some u:=⟨ks[j],by simp[hj]⟩
   have hi:=lY (b:=b) hu';have hlu:=hat j u hu';have hr:=VD (o:=o) hlu;have hus:=iw (zZ hu');have hll:=aen (ks.take j) true;rw[Ud] at hll;have hw:i64.wrap ((j:Int)+1)=((j+1:Nat):Int):=by rw[aC ak ak];omega
   have he:(ks.take j).isEmpty=decide (j=0):=by
    cases j with
    |zero=>rfl
    |succ j=>cases ks with
     |nil=>simp at hj
     |cons a l=>rfl
   simp only[iY,M.FX,M.zA,hel,hi,hr,Lu,Ji,ah];rw[zdt ak,aI,dP hu',abO,he,Bool.and_true,List.map_append,alu];rcases h u (zZ hu') with hb|hb
   ·have h1:=azG (o:=o) hl hb hlu (f:=f) ak;rw[hb.keq]
    by_cases h0:j=0
    ·subst h0;simp(disch:=omega) only[aI,aS,kC,h1,ah,List.length_map,pF,lU,qX,hw,aJ];rfl
    ·rw[zdt (show(j:Int)>0 by omega),nZ h0];simp(disch:=omega) only[aI,aS,kC,h1,ah,List.length_map,pF,lU,qX,hw,aJ,Ad];rfl
   ·have h1:=Yi (o:=o) hl hb hlu;rw[hb.kne]
    by_cases h0:j=0
    ·subst h0;simp(disch:=omega) only[aI,aS,kC,DF.2,h1,ah,List.length_map,pF,lU,qX,hw,aJ];rfl
    ·rw[zdt (show(j:Int)>0 by omega),nZ h0];simp(disch:=omega) only[aI,aS,kC,DF.2,h1,ah,List.length_map,pF,lU,qX,hw,aJ,Ad];rfl)
  (by simp only[iY,M.FX,M.zA,hel];rw[nZ ak,aS,List.take_length]) 0 (Nat.zero_le _)
 have xA:M.KC (M.gZ f) (aT o l) false k op x y (encI (ends ks b)) (0,[])=some ((ks.length:Int),(Hq ks true).map ZF):=hloop;simp only[M.xu,xA,ah,TB,uP _ hz,nS,aI]
theorem aIy{ks:List Tn}(ht:∀u,u∈ks->u.text.length<=1048576)(h1:1<=ks.length)(h7:ks.length<=7){v:Tn}(hv:ks[ks.length - 1]? =some v)(hb:Bk v)(hat:At l b ks){f:Nat}(hf:6 * sizes ks<=f+3)(k op:Int){x:aB}(hx:x.length<=1048576)(y:aB):
  M.zB (M.gZ f) (aT o l) false k op x y (encI (ends ks b)) some=some (dE (o7 [mP (Yn x ks++[32]),iU v])):=by
 have hel:(encI (ends ks b)).length=ks.length:=by rw[aU,dQ]
 have hw0:i64.wrap ((ks.length:Int) - 1)=((ks.length - 1:Nat):Int):=by rw[aC ak ak];omega
 have hvs:=iw (zZ hv);have hhead:=aly ht h1 h7 hx;have hmm:∀m:Nat,∀z,z∈(ks.take m).map Tn.text->z.length<=1048576:=by intro m z hz;obtain⟨u,hu,rfl⟩:=List.mem_map.1 hz;exact ht u (List.mem_of_mem_take hu)
 have hjl:∀m:Nat,(JK ((ks.take m).map Tn.text) true).length<=8000000:=by intro m;have h2:=aae _ true (hmm m);rw[List.length_map,Ud] at h2;have h3:(1048576+2) * min m ks.length<=(1048576+2) * 7:=Nat.mul_le_mul_left _ ak;omega
 have hloop:=fJ (b:=M.IB (M.gZ f) ((ks.length - 1:Nat):Int) (aT o l) false k op x y (encI (ends ks b))) (t:=(([102,117,110,99,116,105,111,110,32]++x++[40])++JK ((ks.take (ks.length - 1)).map Tn.text) true,((ks.length - 1:Nat):Int))) (λj=>(([102,117,110,99,116,105,111,110,32]++x++[40])++JK ((ks.take j).map Tn.text) true,(j:Int))) (ks.length - 1)
  (by
   intro j hj;obtain⟨u,hu'⟩:∃u,ks[j]? =some u:=⟨ks[j],by simp[show j<ks.length by omega]⟩
   have hi:=lY (b:=b) hu';have hlu:=hat j u hu';have hr:=VD (o:=o) hlu;have hq:=hjl j;have htu:=ht u (zZ hu');have hw:i64.wrap ((j:Int)+1)=((j+1:Nat):Int):=by rw[aC ak ak];omega
   have he:((ks.take j).map Tn.text).isEmpty=decide (j=0):=by
    cases j with
    |zero=>rfl
    |succ j=>cases ks with
     |nil=>simp at hj
     |cons a l=>rfl
   simp only[M.IB,M.BO,hi,hr,Lu,LV,ah,hw];rw[zdt ak,aI,dP hu',List.map_append,Rh,List.map_nil,ajg,he,Bool.and_true]
   by_cases h0:j=0
   ·subst h0;rw[nZ ak,aS,aJ (by simp only[pF,lU,qX];omega),aI,zdt rfl,aI,Ad]
   ·rw[zdt ak,aI,aJ (by simp only[pF,lU,qX];omega),aI,aJ (by simp only[pF,lU,qX];omega),aI,nZ h0,aS];simp only[Ad])
  (by simp only[M.IB,M.BO];rw[nZ ak,aS]) 0 (Nat.zero_le _)
 have e0:([102,117,110,99,116,105,111,110,32]++x++[40])++JK ((ks.take 0).map Tn.text) true=[102,117,110,99,116,105,111,110,32]++x++[40]:=by rw[List.take_zero];simp[JK]
 rw[e0] at hloop;have xA:M.Nz (M.gZ f) ((ks.length - 1:Nat):Int) (aT o l) false k op x y (encI (ends ks b)) ([102,117,110,99,116,105,111,110,32]++x++[40],0)=some (([102,117,110,99,116,105,111,110,32]++x++[40])++JK ((ks.take (ks.length - 1)).map Tn.text) true,((ks.length - 1:Nat):Int)):=hloop;have hi:=lY (b:=b) hv;have hblk:=azG (o:=o) hl hb (hat _ v hv) (f:=f) ak;have hq:=hjl (ks.length - 1);have hbs:=hb.size;have hbz:=hb.sz;have eh:([102,117,110,99,116,105,111,110,32]++x++[40])++JK ((ks.take (ks.length - 1)).map Tn.text) true++[41,32]=Yn x ks++[32]:=by rw[Yn];simp
 have z1:sizes [mP (Yn x ks++[32]),iU v]<=90000000:=by simp only[sizes,gY];omega
 simp only[M.zB,hel,hw0,xA,ah];rw[aJ ak,aI,aJ (by simp only[pF,lU,qX];omega),aI,aJ (by simp only[pF,lU,qX];omega),aI,eh];simp only[kC,hi,Lu,hblk,ah,fz2,uP _ z1,nS,aI]
theorem aIz{t:Tn}(hi:It t)(hh:Lies l b t):M.nT (aT o l) false ((b+sizes t.kids:Nat):Int)=some (dE (itemD t)):=by
 have hss:=Zy hi.sm;have hks:=t.tZ;have hts:=adn hi.sm;have hz:=aji hi.ok hi.i hi.sm hi.sz;have htz:=hi.sz;have hr:=VD (o:=o) hh;have hat:At l b t.kids:=by obtain⟨k,op,x,y,ks⟩:=t;exact λj u hj=>Lies.QM hh hj
 have hN:∀{r:aA},M.qy (6 * t.size+2) (aT o l) false ((b+sizes t.kids:Nat):Int)=some r->M.nT (aT o l) false ((b+sizes t.kids:Nat):Int)=some r:=λh=>M.afI h
 rcases Yj hi.ok hi.i hi.sm hi.sz with⟨u,hk,hu,hb⟩|⟨hk,hn,hb⟩|⟨hk,h1,h7,u,hu,hn,hb⟩|hk
 ·refine hN ?_;rw[M.PZ];unfold itemD;rw[hu] at hat hr⊢;have i0:=lY (ks:=[u]) (b:=b) (j:=0) (u:=u) rfl;rw[pz] at i0;have h2:=hb.size;have h3:=hb.sz;rw[hu,sizes,sizes] at hks;have hblk:=azG (o:=o) hl hb (hat 0 u rfl) (f:=6 * t.size+1) ak;have z1:∀s,sizes [mP s,iU u]<=90000000:=λs=>by simp only[sizes,gY];omega
  have e0:zS [u] 0=u:=rfl;rcases hk with hk|hk<;>simp only[iY,M.sW,hr,hk,Ji,Me,LV,MB,GI,Int.reduceBEq,aI,aS,kC,i0,Lu,hblk,ah,fz2,uP _ (z1 _),nS,e0]
 ·refine hN ?_;have h2:=abP _ true hb;have hru:=aIx (o:=o) hl hb hat ak ak (f:=6 * t.size) ak t.kind t.op t.text t.other;rw[M.PZ];unfold itemD;rcases hk with hk|hk<;>rw[hk] at hru<;>simp only[iY,M.sW,hr,hk,Ji,Me,LV,MB,GI,Int.reduceBEq,aI,aS,M.afH,hru,ah,Bool.true_or,Bool.or_true]
 ·refine hN ?_;have hfu:=aIy (o:=o) hl (ajh hss) h1 h7 hu hb hat (f:=6 * t.size) ak t.kind t.op hts t.other;rw[M.PZ];unfold itemD;rw[hk] at hfu;simp only[iY,M.sW,hr,hk,Ji,Me,LV,MB,GI,Int.reduceBEq,aI,aS,M.ahL,hfu,ah,Bool.or_false,hn]
 ·have hS:=(azC t hi.ok (by constructor<;>omega) hi.sm hi.sz).1;have h2:=azB hS ak (o:=o) (f:=6 * t.size+2) hl hh ak;have e1:itemD t=iU t:=by unfold itemD;rw[hk];rfl
  rw[e1];exact hN h2
end
structure Pr(T:Tn):Prop where
 ok:Gw T
 k:T.kind=45
 sm:Uu T
 sz:T.size<=1048576
def Pr.its{T:Tn}(h:Pr T):∀u,u∈T.kids->It u:=aIo h.ok h.k h.sm h.sz
def ajk{T:Tn}(h:Pr T):(VZ T).size<=42000000:=by have h1:=afl h.its;have h2:=T.tZ;have h3:=h.sz;rw[VZ,pX];omega
def aIA{T:Tn}(h:Pr T):M.Gj (cZ false T.kids) (T.kids.length:Int) (0,[])=some ((T.kids.length:Int),nY false (H9 T.kids)):=by
 have hks:=T.tZ;have hz:=h.sz;obtain⟨ks,hk⟩:∃ks,T.kids=ks:=⟨_,rfl⟩
 have its:=h.its;rw[hk] at its hks⊢;have hkl:=iZ ks;exact fJ (b:=M.CO (cZ false ks) (ks.length:Int)) (t:=((ks.length:Int),nY false (H9 ks))) (λj=>((j:Int),nY false (H9 (ks.take j)))) ks.length
  (by
   intro j hj;obtain⟨u,hu'⟩:∃u,ks[j]? =some u:=⟨ks[j],by simp[hj]⟩
   obtain⟨c0,c1,c2,c3,c4⟩:=jO false u;have hu:=its u (zZ hu');have h1:=aIw hu.ok hu.i hu.sm hu.sz false;have hl:=abQ (ks.take j);rw[Ud] at hl;have hw:i64.wrap ((j:Int)+1)=((j+1:Nat):Int):=by rw[aC ak ak];omega
   simp only[iY,M.CO,M.wI,Aw false hu',c0,c1,c2,c3,c4,ah,ar4,h1,LD,LG,LH,LJ,LK,LM,fE,yu,lU,qX,hw];rw[zdt ak,aI,aJ ak,aI,aJ ak,aI,dP hu',ZJ,Gv];rfl)
  (by simp only[iY,M.CO,M.wI];rw[nZ ak,aS,List.take_length]) 0 (Nat.zero_le _)
def aIB{T:Tn}(h:Pr T):M.FZ (aT false (T.flat 0)) (aT false (T.flat 0)) false (0,[])=some ((T.kids.length:Int),(H9 T.kids).map ZF):=by
 have hks:=T.tZ;have hz:=h.sz;have hr:=VD (o:=false) (Lies.whole T);have hen:((aT false (T.flat 0)).length:Int)=((T.flat 0).length:Int):=by rw[dW]
 have hla:=last_at hz;have its:=h.its;have hat:At (T.flat 0) 0 T.kids:=by obtain⟨k,op,x,y,ks⟩:=T;exact λj u hj=>Lies.QM (Lies.whole _) hj
 have hfl:(T.flat 0).length<=1048576:=by rw[T.flat_length];exact hz
 obtain⟨ks,hk⟩:∃ks,T.kids=ks:=⟨_,rfl⟩
 rw[hk] at its hks hla hr hat⊢;have hkl:=iZ ks;have hel:(encI (ends ks 0)).length=ks.length:=by rw[aU,dQ]
 exact fJ (b:=M.BP (aT false (T.flat 0)) (aT false (T.flat 0)) false) (t:=((ks.length:Int),(H9 ks).map ZF)) (λj=>((j:Int),(H9 (ks.take j)).map ZF)) ks.length
  (by
   intro j hj;obtain⟨u,hu'⟩:∃u,ks[j]? =some u:=⟨ks[j],by simp[hj]⟩
   have hi:=lY (b:=0) hu';have h1:=aIz (o:=false) hfl (its u (zZ hu')) (hat j u hu');have hl:=abQ (ks.take j);rw[Ud] at hl;have hw:i64.wrap ((j:Int)+1)=((j+1:Nat):Int):=by rw[aC ak ak];omega
   simp only[iY,M.BP,M.wE,hen,hla,hr,GI,hel,hi,Lu,h1,arZ,ah,List.length_map,lU,qX,hw];rw[zdt ak,aI,aJ ak,aI,aJ ak,aI,dP hu',ZJ,List.map_append];rfl)
  (by simp only[iY,M.BP,M.wE,hen,hla,hr,GI,hel,ah];rw[nZ ak,aS,List.take_length]) 0 (Nat.zero_le _)
def ajU{l:List Nd}(h:Ok l):(M.oG (aT false l)=some (dw true [])∧M.oI (aT false l)=some (dw true []))∨∃T,Pr T∧M.oG (aT false l)=some (dE (VZ T))∧M.oI (aT false l)=some (dE (VZ T)):=by
 have a1:=Vx l false (by have:=h.len;omega) h.k h.sm;have a2:=Vy l false (by have:=h.len;omega) h.k h.sm;simp only[M.oG,M.IC,M.oI,M.IY,M.ou,M.Eh,M.oC,M.EI,a1,a2,ah];cases pa:JJ l with
 |false=>exact .inl ⟨rfl,rfl⟩
 |true=>
  obtain⟨T,rfl,hTs⟩:=ahs (ac2 pa);have hT:T.size<=1048576:=by have:=h.len;rwa [T.flat_length] at this
  have hok:=arS pa h.sm;have hsm:=(agA T 0).2 h.sm;have hr:=VD (o:=false) (Lies.whole T);have hen:((aT false (T.flat 0)).length:Int)=((T.flat 0).length:Int):=by rw[dW]
  have hb:=ak6 (t:=T) (o:=false) hT;simp only[aI,hen,last_at hT,hr,ah,Ji]
  by_cases hk:T.kind=45
  ·have hP:Pr T:=⟨hok,hk,hsm,hT⟩
   have e1:(T.kind==45)=true:=by rw[hk];rfl
   have hs:=ajk hP;have h1:=aIA hP;have h2:=aIB hP;have h3:=azD (VZ T) ak;have hz:sizes (H9 T.kids)<=90000000:=by rw[VZ,pX] at hs;omega
   refine .inr ⟨T,hP, ?_, ?_⟩
   ·simp only[e1,Bool.not_true,aS,h2,ah,TB,uP _ hz,nS,aI];rfl
   ·simp only[e1,Bool.not_true,aS,hb,W9,fB,h1,ah,aqw,LD,LG,LH,LJ,LK,LM];exact(by rw[h3];rfl:(M.vK (VZ T).kind (VZ T).op (VZ T).text (nY false (VZ T).kids) 0).bind (λr=>some r)=some (dE (VZ T)))
  ·have e1:(T.kind==45)=false:=by rw[JX];exact hk
   simp only[e1];exact .inl ⟨rfl,rfl⟩
section
variable (l:List Nd) (o:Bool) (hl:l.length<=1048576) (hk:∀n,n∈l->n.kids.length<=1048576) (hsm:∀n,n∈l->Small n)
include hl hk hsm
noncomputable def RN(l:List Nd):Bool:=JJ l &&(match l.getLast? with|some n=>n.kind==45|none=>false)
theorem ado:M.ou (aT o l)=some (RN l):=by
 simp only[M.ou,M.Eh,Vx l o hl hk hsm,ah,RN,dW];cases ht:JJ l with
 |false=>rfl
 |true=>obtain⟨n,h1,h2⟩:=afc l o hl hk hsm ht;rw[aI,h2,ah,h1,Bool.true_and];rfl
theorem adp:M.oC (aT o l)=some (RN l):=by
 simp only[M.oC,M.EI,Vy l o hl hk hsm,ah,RN,dW];cases ht:JJ l with
 |false=>rfl
 |true=>obtain⟨n,h1,h2⟩:=afc l o hl hk hsm ht;rw[aI,h2,ah,h1,Bool.true_and];rfl
end
def alz(l:List Tk):[[D.sl true 3 (bZ l)]].all bM=true:=by
 have:Az (bZ l)=true:=by
  induction l with
  |nil=>rfl
  |cons x l ih=>have e:bZ (x::l)=YU x::bZ l:=rfl;rw[e];simp only[Az,ih,Bool.and_true];rfl
 simp[bM,D.pure,this]
def azH{r:List Nd}(h:Ok r):∃d p,M.oG (aT false r)=some (dw true d)∧M.oI (aT false r)=some (dw true d)∧M.vY (dw false d) 10000=some p∧M.wB (dw false d) 10000=some p:=by
 rcases ajU h with⟨h1,h2⟩|⟨T,hP,h1,h2⟩
 ·exact⟨[],_,h1,h2,af5 10000,af4 10000⟩
 ·have hz:=ajk hP;have hx:VG (VZ T):=by rw[VZ,yw];exact ajj hP.its
  exact⟨(VZ T).flat 0,_,h1,h2,ai4 10000 ak (ai5 _ 0 hx),aiZ 10000 ak (ai5 _ 0 hx)⟩
def ar6{l:List Nd}(h:Ok l):∃q:aB,M.Bc (aT false l)=some q∧M.Bj (aT false l)=some q:=by
 have p1:=ado l false (by have:=h.len;omega) h.k h.sm;have p2:=adp l false (by have:=h.len;omega) h.k h.sm;simp only[M.Bc,M.Qe,M.Bj,M.QE,M.FK,M.QD,M.Ox,M.UM,M.zi,M.Lh,p1,p2,ah];rcases ajR h with⟨pa,h1,h2⟩|⟨r,hr,pa,h1,h2⟩
 ·have pf:RN l=false:=by unfold RN;rw[pa];rfl
  have h0:Ok []:=⟨Nat.zero_le _,λn hn=>(List.not_mem_nil hn).elim,λn hn=>(List.not_mem_nil hn).elim,by decide⟩
  obtain⟨d,p,d1,d2,d3,d4⟩:=azH h0;have e0:aT false []=[]:=rfl;rw[e0] at d1 d2;have f0:aP []=[]:=rfl;refine⟨[], ?_, ?_⟩
  ·rw[pf];rfl
  ·rw[h2,ah,f0,d2,ah,aqk,d4,ah,pf];cases hp:p.2 with
   |false=>rfl
   |true=>rw[Bool.not_true,aS];cases decide ((p.1.length:Int)>3000)<;>rfl
 ·obtain⟨d,p,d1,d2,d3,d4⟩:=azH hr;rw[h1,h2];simp only[ah,aho,d1,d2,aqk,ak1,aI,d3,d4];cases pf:RN l with
  |false=>
   refine⟨[],rfl, ?_⟩;cases hp:p.2 with
   |false=>rfl
   |true=>rw[Bool.not_true,aS];cases decide ((p.1.length:Int)>3000)<;>rfl
  |true=>
   rw[Bool.not_true,aS];cases hp:p.2 with
   |false=>exact⟨[],rfl,rfl⟩
   |true=>
    rw[Bool.not_true,aS,aS]
    by_cases hl:(p.1.length:Int)>3000
    ·rw[zdt hl];exact⟨[],rfl,rfl⟩
    ·rw[nZ hl];have hx:=aCa p.1;have hL:=aHS p.1;have hm:=aCd (n:=3000) ak hx.2;have hm1:=adb (l:=(ac1 p.1).1) ak hx.2;have hm2:=ada (l:=(ac1 p.1).1) ak hx.2;have hsp:=ay4 (l:=amV (ac1 p.1).1) ak hm.1;refine⟨JU none (amV (ac1 p.1).1), ?_, ?_⟩
     ·simp only[aS,hL.1,ah,hm1,alz,aI,hsp.1]
     ·simp only[aS,ah,Bool.not_true,hL.2,hm2,alz,aI,hsp.2]
def aqM(l:List Nd)(hl:l.length<=maxLen)(hf:∀n,n∈l->Fit n):M.pG (aT false l)=some true:=by
 simp only[M.pG,M.zY];rw[arG l false 1048576 ak ak hl hf,ah]
 by_cases hs:(l.length+wNs l:Int)<=1048576
 ·rw[if_pos hs,nZ ak,aS];have hkk:∀n,n∈l->n.kids.length<=1048576:=by intro n hn;have h1:=as8 hn;have h2:wN n=n.text.length+n.other.length+n.kids.length:=rfl;omega
  have ol:Ok l:=a0m hs hf ak hkk;obtain⟨q,h1,h2⟩:=ar6 ol;have a1:=arH l false ol.len ol.k;have a4:=amC l false false hl (λn hn=>(hf n hn).kids);have e1:(q==q)=true:=by simp
  simp only[a1,aho,h1,h2,a4,e1,ah,aI,aS,Bool.not_true]
 ·rw[if_neg hs];rfl
end Go.Proofs.YtbgadfelmhoheaaGreatDoor
namespace Go.Proofs
open Go.Shelf
open Go.IntKind (i64)
def Tryz.lays156_ren:Go.Shelf.Ren:=⟨fun|156=>58|165=>98|166=>99|169=>100|240=>155|241=>156|276=>211|277=>212|n=>n,fun|31=>24|9=>9|3=>3|4=>4|0=>0|20=>20|72=>118|76=>122|70=>116|37=>60|75=>121|127=>156|164=>181|5=>5|80=>124|n=>n,fun|n=>n⟩
def Tryz.lays156:Go.Proofs.Lays.n156 Tryz.prog Tryz.lays156_ren:={
 mixed:=by kernel_rfl
 f156:=Tryz.func58.trans (congrArg some (by kernel_rfl))
 f165:=Tryz.func98.trans (congrArg some (by kernel_rfl))
 f166:=Tryz.func99.trans (congrArg some (by kernel_rfl))
 f169:=Tryz.func100.trans (congrArg some (by kernel_rfl))
 f240:=Tryz.func155.trans (congrArg some (by kernel_rfl))
 f241:=Tryz.func156.trans (congrArg some (by kernel_rfl))
 f276:=Tryz.func211.trans (congrArg some (by kernel_rfl))
 f277:=Tryz.func212.trans (congrArg some (by kernel_rfl))
 t0:=Tryz.underlying0
 a0:=Tryz.isAgg0
 z0:=Tryz.sizeOf0
 v0:=Tryz.zeroValue0
 t3:=Tryz.underlying3
 a3:=Tryz.isAgg3
 z3:=Tryz.sizeOf3
 v3:=Tryz.zeroValue3
 t4:=Tryz.underlying4
 a4:=Tryz.isAgg4
 z4:=Tryz.sizeOf4
 v4:=Tryz.zeroValue4
 t9:=Tryz.underlying9
 a9:=Tryz.isAgg9
 z9:=Tryz.sizeOf9
 v9:=Tryz.zeroValue9
 t20:=Tryz.underlying20
 a20:=Tryz.isAgg20
 z20:=Tryz.sizeOf20
 v20:=Tryz.zeroValue20
 t31:=Tryz.underlying24
 a31:=Tryz.isAgg24
 z31:=Tryz.sizeOf24
 v31:=Tryz.zeroValue24
 t37:=Tryz.underlying60
 a37:=Tryz.isAgg60
 z37:=Tryz.sizeOf60
 v37:=Tryz.zeroValue60
 t70:=Tryz.underlying116
 a70:=Tryz.isAgg116
 z70:=Tryz.sizeOf116
 v70:=Tryz.zeroValue116
 t72:=Tryz.underlying118
 a72:=Tryz.isAgg118
 z72:=Tryz.sizeOf118
 v72:=Tryz.zeroValue118
 t75:=Tryz.underlying121
 a75:=Tryz.isAgg121
 z75:=Tryz.sizeOf121
 v75:=Tryz.zeroValue121
 t76:=Tryz.underlying122
 a76:=Tryz.isAgg122
 z76:=Tryz.sizeOf122
 v76:=Tryz.zeroValue122
 t127:=Tryz.underlying156
 a127:=Tryz.isAgg156
 z127:=Tryz.sizeOf156
 v127:=Tryz.zeroValue156
 t164:=Tryz.underlying181
 a164:=Tryz.isAgg181
 z164:=Tryz.sizeOf181
 v164:=Tryz.zeroValue181}
def Tryz.lays137_ren:Go.Shelf.Ren:=⟨fun|137=>225|217=>261|266=>275|n=>n,fun|9=>9|5=>5|3=>3|n=>n,fun|n=>n⟩
def Tryz.lays137:Go.Proofs.Lays.n137 Tryz.prog Tryz.lays137_ren:={
 mixed:=by kernel_rfl
 f137:=Tryz.func225.trans (congrArg some (by kernel_rfl))
 f217:=Tryz.func261.trans (congrArg some (by kernel_rfl))
 f266:=Tryz.func275.trans (congrArg some (by kernel_rfl))
 t3:=Tryz.underlying3
 a3:=Tryz.isAgg3
 z3:=Tryz.sizeOf3
 v3:=Tryz.zeroValue3
 t5:=Tryz.underlying5
 a5:=Tryz.isAgg5
 z5:=Tryz.sizeOf5
 v5:=Tryz.zeroValue5
 t9:=Tryz.underlying9
 a9:=Tryz.isAgg9
 z9:=Tryz.sizeOf9
 v9:=Tryz.zeroValue9}
def Tryz.lays144_ren:Go.Shelf.Ren:=⟨fun|144=>242|143=>265|219=>276|217=>261|225=>283|224=>284|267=>285|266=>275|314=>288|n=>n,fun|9=>9|4=>4|3=>3|5=>5|46=>206|146=>235|51=>204|n=>n,fun|1=>4|n=>n⟩
def Tryz.lays144:Go.Proofs.Lays.n144 Tryz.prog Tryz.lays144_ren:={
 mixed:=by kernel_rfl
 f143:=Tryz.func265.trans (congrArg some (by kernel_rfl))
 f144:=Tryz.func242.trans (congrArg some (by kernel_rfl))
 f217:=Tryz.func261.trans (congrArg some (by kernel_rfl))
 f219:=Tryz.func276.trans (congrArg some (by kernel_rfl))
 f224:=Tryz.func284.trans (congrArg some (by kernel_rfl))
 f225:=Tryz.func283.trans (congrArg some (by kernel_rfl))
 f266:=Tryz.func275.trans (congrArg some (by kernel_rfl))
 f267:=Tryz.func285.trans (congrArg some (by kernel_rfl))
 f314:=Tryz.func288.trans (congrArg some (by kernel_rfl))
 t3:=Tryz.underlying3
 a3:=Tryz.isAgg3
 z3:=Tryz.sizeOf3
 v3:=Tryz.zeroValue3
 t4:=Tryz.underlying4
 a4:=Tryz.isAgg4
 z4:=Tryz.sizeOf4
 v4:=Tryz.zeroValue4
 t5:=Tryz.underlying5
 a5:=Tryz.isAgg5
 z5:=Tryz.sizeOf5
 v5:=Tryz.zeroValue5
 t9:=Tryz.underlying9
 a9:=Tryz.isAgg9
 z9:=Tryz.sizeOf9
 v9:=Tryz.zeroValue9
 t46:=Tryz.underlying206
 a46:=Tryz.isAgg206
 z46:=Tryz.sizeOf206
 v46:=Tryz.zeroValue206
 t51:=Tryz.underlying204
 a51:=Tryz.isAgg204
 z51:=Tryz.sizeOf204
 v51:=Tryz.zeroValue204
 t146:=Tryz.underlying235
 a146:=Tryz.isAgg235
 z146:=Tryz.sizeOf235
 v146:=Tryz.zeroValue235
 g1:=by kernel_rfl}
def Tryz.lays105_ren:Go.Shelf.Ren:=⟨fun|105=>271|212=>281|99=>235|165=>98|166=>99|170=>282|169=>100|263=>286|264=>287|206=>264|240=>155|241=>156|276=>211|277=>212|n=>n,fun|9=>9|3=>3|4=>4|20=>20|0=>0|46=>206|109=>233|5=>5|72=>118|76=>122|51=>204|146=>235|53=>171|148=>237|70=>116|37=>60|75=>121|127=>156|164=>181|80=>124|n=>n,fun|n=>n⟩
def Tryz.lays105:Go.Proofs.Lays.n105 Tryz.prog Tryz.lays105_ren:={
 mixed:=by kernel_rfl
 f99:=Tryz.func235.trans (congrArg some (by kernel_rfl))
 f105:=Tryz.func271.trans (congrArg some (by kernel_rfl))
 f165:=Tryz.func98.trans (congrArg some (by kernel_rfl))
 f166:=Tryz.func99.trans (congrArg some (by kernel_rfl))
 f169:=Tryz.func100.trans (congrArg some (by kernel_rfl))
 f170:=Tryz.func282.trans (congrArg some (by kernel_rfl))
 f206:=Tryz.func264.trans (congrArg some (by kernel_rfl))
 f212:=Tryz.func281.trans (congrArg some (by kernel_rfl))
 f240:=Tryz.func155.trans (congrArg some (by kernel_rfl))
 f241:=Tryz.func156.trans (congrArg some (by kernel_rfl))
 f263:=Tryz.func286.trans (congrArg some (by kernel_rfl))
 f264:=Tryz.func287.trans (congrArg some (by kernel_rfl))
 f276:=Tryz.func211.trans (congrArg some (by kernel_rfl))
 f277:=Tryz.func212.trans (congrArg some (by kernel_rfl))
 t0:=Tryz.underlying0
 a0:=Tryz.isAgg0
 z0:=Tryz.sizeOf0
 v0:=Tryz.zeroValue0
 t3:=Tryz.underlying3
 a3:=Tryz.isAgg3
 z3:=Tryz.sizeOf3
 v3:=Tryz.zeroValue3
 t4:=Tryz.underlying4
 a4:=Tryz.isAgg4
 z4:=Tryz.sizeOf4
 v4:=Tryz.zeroValue4
 t5:=Tryz.underlying5
 a5:=Tryz.isAgg5
 z5:=Tryz.sizeOf5
 v5:=Tryz.zeroValue5
 t9:=Tryz.underlying9
 a9:=Tryz.isAgg9
 z9:=Tryz.sizeOf9
 v9:=Tryz.zeroValue9
 t20:=Tryz.underlying20
 a20:=Tryz.isAgg20
 z20:=Tryz.sizeOf20
 v20:=Tryz.zeroValue20
 t37:=Tryz.underlying60
 a37:=Tryz.isAgg60
 z37:=Tryz.sizeOf60
 v37:=Tryz.zeroValue60
 t46:=Tryz.underlying206
 a46:=Tryz.isAgg206
 z46:=Tryz.sizeOf206
 v46:=Tryz.zeroValue206
 t51:=Tryz.underlying204
 a51:=Tryz.isAgg204
 z51:=Tryz.sizeOf204
 v51:=Tryz.zeroValue204
 t53:=Tryz.underlying171
 a53:=Tryz.isAgg171
 z53:=Tryz.sizeOf171
 v53:=Tryz.zeroValue171
 t70:=Tryz.underlying116
 a70:=Tryz.isAgg116
 z70:=Tryz.sizeOf116
 v70:=Tryz.zeroValue116
 t72:=Tryz.underlying118
 a72:=Tryz.isAgg118
 z72:=Tryz.sizeOf118
 v72:=Tryz.zeroValue118
 t75:=Tryz.underlying121
 a75:=Tryz.isAgg121
 z75:=Tryz.sizeOf121
 v75:=Tryz.zeroValue121
 t76:=Tryz.underlying122
 a76:=Tryz.isAgg122
 z76:=Tryz.sizeOf122
 v76:=Tryz.zeroValue122
 t109:=Tryz.underlying233
 a109:=Tryz.isAgg233
 z109:=Tryz.sizeOf233
 v109:=Tryz.zeroValue233
 t127:=Tryz.underlying156
 a127:=Tryz.isAgg156
 z127:=Tryz.sizeOf156
 v127:=Tryz.zeroValue156
 t146:=Tryz.underlying235
 a146:=Tryz.isAgg235
 z146:=Tryz.sizeOf235
 v146:=Tryz.zeroValue235
 t148:=Tryz.underlying237
 a148:=Tryz.isAgg237
 z148:=Tryz.sizeOf237
 v148:=Tryz.zeroValue237
 t164:=Tryz.underlying181
 a164:=Tryz.isAgg181
 z164:=Tryz.sizeOf181
 v164:=Tryz.zeroValue181}
def Tryz.Builder_Extra_156:Builder.Extra Tryz.prog Tryz.lays156_ren:={
 sizeBuilder:=by kernel_rfl
 liesBuilder:=by kernel_rfl
 t5:=Tryz.underlying5
 a5:=Tryz.isAgg5
 z5:=Tryz.sizeOf5
 v5:=Tryz.zeroValue5
 infoByte:=by kernel_rfl
 cellsByte:=by kernel_rfl
 sizeByte:=by kernel_rfl
 neB5:=by decide}
open Go.RowKit in
open Go.IntKind (i64)
def Tryz.strings_Join_none(a:Option Addr)(c:Nat)(sep:ByteArray)(w:World):
  Calls Tryz.prog 58 #[.slice a 0 c,.string sep] w λe w'=>e=.returned (.string ⟨#[]⟩)∧w'=w:=Any.strings_Join_none Tryz.lays156 Tryz.Builder_Extra_156 a c sep w
open Go.RowKit in
open Go.IntKind (i64)
def Tryz.strings_Join(bk o c:Nat)(xs:List ByteArray)(sep:ByteArray)(w:World)(hcells:∀(j:Nat) x,xs[j]? =some x->w.cell? ⟨bk,o+j,none⟩=some (.string x))(hbk:bk<w.heap.size)(hN:xs.length<=140737488355328)(hcap:xs.length<=c)(hlen:(Lib.join (xs.map (·.data.toList)) sep.data.toList).length<=140737488355328):
  Calls Tryz.prog 58 #[.slice (some ⟨bk,o,none⟩) xs.length c,.string sep] w λe w'=>e=.returned (.string ⟨(Lib.join (xs.map (·.data.toList)) sep.data.toList).toArray⟩)∧Go.RowKit.Below w.heap.size w w':=Any.strings_Join Tryz.lays156 Tryz.Builder_Extra_156 bk o c xs sep w hcells hbk hN hcap hlen
open Go.RowKit in
open Go.IntKind (i64)
def Tryz.strings_IndexByte(s:ByteArray)(c:Int)(w:World):
  Calls Tryz.prog 225 #[.string s,.int .u8 c] w λe w'=>e=.returned (.int .i64 (Lib.indexByte s.data.toList c.toNat.toUInt8))∧w'=w:=Any.strings_IndexByte Tryz.lays137 s c w
open Go.RowKit Go.Lib in
open Go.IntKind (i64)
def Tryz.strings_Contains_one(s:ByteArray)(c:UInt8)(w:World):
  Calls Tryz.prog 242 #[.string s,.string ⟨#[c]⟩] w λe w'=>e=.returned (.bool (decide (0<=Lib.indexByte s.data.toList c)))∧w'=w:=Any.strings_Contains_one Tryz.lays144 s c w
def Tryz.Builder_Extra_105:Builder.Extra Tryz.prog Tryz.lays105_ren:={
 sizeBuilder:=by kernel_rfl
 liesBuilder:=by kernel_rfl
 t5:=Tryz.underlying5
 a5:=Tryz.isAgg5
 z5:=Tryz.sizeOf5
 v5:=Tryz.zeroValue5
 infoByte:=by kernel_rfl
 cellsByte:=by kernel_rfl
 sizeByte:=by kernel_rfl
 neB5:=by decide}
open Go.RowKit Go.Lib in
open Go.IntKind (i64)
def Tryz.strings_Repeat(s:ByteArray)(c:Nat)(w:World)(hc:c<=9223372036854775807)(hlen:s.size * c<=140737488355328):
  Calls Tryz.prog 271 #[.string s,.int .i64 c] w λe w'=>e=.returned (.string ⟨(Lib.repeatL s.data.toList c).toArray⟩)∧Go.RowKit.Below w.heap.size w w':=Any.strings_Repeat Tryz.lays105 Tryz.Builder_Extra_105 s c w hc hlen
end Go.Proofs
namespace Go.Proofs.YtbgadfelmhoheaaGreatDoor
set_option linter.unusedVariables false
set_option linter.unusedSimpArgs false
open Go Go.Vm
open Go.IntKind (i64)
def af6{X:Ctx}(hP:X.P=Tryz.prog)(hm:∀i,i<2->Fq X.OU 242 i=0)(fn:Func)(args:List V)(cells:List Cell)(rows:aA)(outs:List Cell)(hf:X.P.funcs[242]? =some fn)(h:Prim.strings_Contains args cells=some (rows,outs))
  (base:Nat) (U:Nat->Prop) (w:World) (gargs jB:List Value) (N1 N2:List Nat) (hG:Given X base U w 242 args cells gargs jB N1 N2):
  Calls X.P 242 gargs.toArray w λe w'=>∃gs M1 M2,e=.returned (abb gs)∧Did X.P U w w' (N1++N2) fn.resultTypes.toList cells outs jB rows gs M1 M2:=by
 unfold Prim.strings_Contains at h;split at h
 ·rename_i s t;unfold M.strings_Contains at h;split at h
  ·rename_i c;cases h;obtain⟨rfl,rfl,rfl,hs⟩:=acr hG hm;rw[arv hs];rw[hP] at hf⊢;have hfn:fn.resultTypes.toList=[4]:=by rw[Tryz.func242] at hf;cases hf;rfl
   refine(Tryz.strings_Contains_one ⟨⟨s⟩⟩ c w).mono ?_;rintro e w' ⟨rfl,rfl⟩;rw[hfn];exact⟨[_],[],[],rfl,Va (by kernel_rfl) (λ_ _=>⟨rfl,rfl⟩) (Keep.refl _ _)⟩
  ·cases h
 ·cases h
def cell_lt{w:World}{a:Addr}{v:Value}(h:w.cell? a=some v):a.block<w.heap.size:=by
 unfold World.cell? at h;cases hq:w.heap[a.block]? with
 |none=>rw[hq] at h;simp at h
 |some x=>exact(Array.getElem?_eq_some_iff.1 hq).1
def ajl{w w':World}(h:Go.RowKit.Below w.heap.size w w'):Keep [] w w':=⟨h.os,h.tape,h.output,h.size,λb hb _=>h.block b hb⟩
def afm{h:View}:∀{rows:aA} {l:List (aB)} {b o:Nat},arC rows=some l->oM h 1 rows b o->rows.length=l.length∧∀j x,l[j]? =some x->h b (o+j)=some (.string ⟨⟨x⟩⟩)
 |[],_,b,o,e,_=>by cases e;exact⟨rfl,λj x h=>by simp at h⟩
 |r::rs,l,b,o,e,q=>by
  simp only[arC] at e;split at e
  ·rename_i y;cases hd:arC rs with
   |none=>rw[hd] at e;cases e
   |some l'=>
    rw[hd] at e;cases e;simp only[oM,yx] at q;obtain⟨_,⟨⟨v,hv,hvv⟩,_⟩,q⟩:=q;simp only[ro] at hvv;subst hvv;obtain⟨e1,e2⟩:=afm hd q;refine⟨by simp[e1],λj x hj=> ?_⟩;cases j with
    |zero=>simp at hj;subst hj;exact hv
    |succ j=>have:=e2 j x (by simpa using hj);rw[show o+(j+1)=o+1+j by omega];exact this
  ·cases e
def ajm(sep:aB):∀l,joinL sep l=Lib.join l sep
 |[]=>rfl
 |[x]=>by rw[Lib.join_one];rfl
 |x::y::l=>by rw[joinL,ajm sep (y::l)];simp[Lib.join,List.intercalate,List.intersperse]
def alA(sep:aB):∀l,(joinL sep l).length<=anH l+l.length * sep.length
 |[]=>by simp[joinL]
 |[x]=>by simp only[joinL,anH];omega
 |x::y::l=>by have:=alA sep (y::l);simp only[joinL,anH,pF,lU] at *;rw[Nat.add_mul (l.length+1) 1];omega
def aqN{X:Ctx}(hP:X.P=Tryz.prog)(hm:∀i,i<2->Fq X.OU 58 i=0)(fn:Func)(args:List V)(cells:List Cell)(rows:aA)(outs:List Cell)(hf:X.P.funcs[58]? =some fn)(h:Prim.strings_Join args cells=some (rows,outs))
  (base:Nat) (U:Nat->Prop) (w:World) (gargs jB:List Value) (N1 N2:List Nat) (hG:Given X base U w 58 args cells gargs jB N1 N2):
  Calls X.P 58 gargs.toArray w λe w'=>∃gs M1 M2,e=.returned (abb gs)∧Did X.P U w w' (N1++N2) fn.resultTypes.toList cells outs jB rows gs M1 M2:=by
 unfold Prim.strings_Join at h;split at h
 ·rename_i rws s;unfold M.strings_Join at h;split at h
  ·rename_i l hl;cases hc:Nat.ble (anH l+l.length * (s.length+1)) 100000000000000 with
   |false=>rw[hc] at h;cases h
   |true=>
    rw[hc] at h;cases h;rw[Nat.ble_eq] at hc;obtain⟨rfl,rfl,rfl,hs⟩:=acr hG hm;simp only[bV,aO,ro] at hs;obtain⟨g,gs,rfl,⟨a,cap,rfl,hcap,hrow⟩,g',gs',rfl,rfl,rfl⟩:=hs;rw[hP] at hf⊢;have hfn:fn.resultTypes.toList=[9]:=by rw[Tryz.func58] at hf;cases hf;rfl
    rw[hfn];cases rws with
    |nil=>cases hl;refine(Tryz.strings_Join_none a cap ⟨⟨s⟩⟩ w).mono ?_;rintro e w' ⟨rfl,rfl⟩;exact⟨[_],[],[],rfl,Va (by kernel_rfl) (λ_ _=>⟨rfl,rfl⟩) (Keep.refl _ _)⟩
    |cons r rs=>
     obtain⟨b,o,rfl,hr⟩:=hrow (by simp);obtain⟨e1,e2⟩:=afm hl hr;have hbs:b<w.heap.size:=by
      have h0:∃x,l[0]? =some x:=by
       cases l with
       |nil=>simp at e1
       |cons x l=>exact⟨x,rfl⟩
      obtain⟨x,hx⟩:=h0;have:=(UU (e2 0 x hx)).2.2;exact cell_lt this
     have hlen:=alA s l;have hmap:(l.map λx=>(⟨⟨x⟩⟩:ByteArray)).map (·.data.toList)=l:=by rw[List.map_map];exact List.map_id' l
     have ll:l.length<=140737488355328:=by rw[Nat.mul_add,Nat.mul_one] at hc;omega
     have C:=Tryz.strings_Join b o cap (l.map λx=>(⟨⟨x⟩⟩:ByteArray)) ⟨⟨s⟩⟩ w
      (λj x hj=>by
       rw[List.getElem?_map] at hj;cases hq:l[j]? with
       |none=>rw[hq] at hj;cases hj
       |some y=>rw[hq] at hj;cases hj;exact(UU (e2 j y hq)).2.2)
      hbs (by rw[List.length_map];exact ll) (by rw[List.length_map,<-e1];exact hcap)
      (by rw[hmap,<-ajm];show(joinL s l).length<=_;rw[Nat.mul_add,Nat.mul_one] at hc;omega)
     rw[List.length_map,<-e1,hmap] at C;refine C.mono ?_;rintro e w' ⟨rfl,hb⟩;refine⟨[_],[],[],rfl,Va (by kernel_rfl) (λ_ _=>⟨?_,rfl⟩) (ajl hb)⟩;show Value.string ⟨(Lib.join l s).toArray⟩=.string ⟨⟨_⟩⟩;rw[<-ajm]
  ·cases h
 ·cases h
def ajn(s:aB):∀n,Lib.repeatL s n=(List.replicate n s).flatten
 |0=>rfl
 |n+1=>by rw[Lib.repeatL,ajn s n,List.replicate_succ,List.flatten_cons]
def ajV{X:Ctx}(hP:X.P=Tryz.prog)(hm:∀i,i<2->Fq X.OU 271 i=0)(fn:Func)(args:List V)(cells:List Cell)(rows:aA)(outs:List Cell)(hf:X.P.funcs[271]? =some fn)(h:Prim.strings_Repeat args cells=some (rows,outs))
  (base:Nat) (U:Nat->Prop) (w:World) (gargs jB:List Value) (N1 N2:List Nat) (hG:Given X base U w 271 args cells gargs jB N1 N2):
  Calls X.P 271 gargs.toArray w λe w'=>∃gs M1 M2,e=.returned (abb gs)∧Did X.P U w w' (N1++N2) fn.resultTypes.toList cells outs jB rows gs M1 M2:=by
 unfold Prim.strings_Repeat at h;split at h
 ·rename_i s n;unfold M.strings_Repeat at h;cases hc:((decide (0<=n) && decide (n<=1000000)) && Nat.ble s.length 1000000) with
  |false=>rw[hc] at h;cases h
  |true=>
   rw[hc] at h;cases h;simp only[EU,decide_eq_true_eq,Nat.ble_eq] at hc;obtain⟨⟨h0,h1⟩,h2⟩:=hc;obtain⟨c,rfl⟩:=Int.eq_ofNat_of_zero_le h0;obtain⟨rfl,rfl,rfl,hs⟩:=acr hG hm;have hg:gargs=[.string ⟨⟨s⟩⟩,.int .i64 (c:Int)]:=by simp only[bV,aO,ro] at hs;obtain⟨g,gs,rfl,rfl,g',gs',rfl,rfl,rfl⟩:=hs;rfl
   rw[hg];rw[hP] at hf⊢;have hfn:fn.resultTypes.toList=[9]:=by rw[Tryz.func271] at hf;cases hf;rfl
   have hlen:(⟨⟨s⟩⟩:ByteArray).size * c<=140737488355328:=by show s.length * c<=_;have:s.length * c<=1000000 * 1000000:=Nat.mul_le_mul h2 ak;omega
   refine(Tryz.strings_Repeat ⟨⟨s⟩⟩ c w ak hlen).mono ?_;rintro e w' ⟨rfl,hb⟩;rw[hfn];refine⟨[_],[],[],rfl,Va (by kernel_rfl) (λ_ _=>⟨?_,rfl⟩) (ajl hb)⟩;show Value.string ⟨(Lib.repeatL s c).toArray⟩=.string ⟨⟨_⟩⟩;rw[ajn];rfl
 ·cases h
def aep{X:Ctx}(hP:X.P=Tryz.prog)(hm:∀i,i<2->Fq X.OU 225 i=0)(fn:Func)(args:List V)(cells:List Cell)(rows:aA)(outs:List Cell)(hf:X.P.funcs[225]? =some fn)(h:Prim.strings_IndexByte args cells=some (rows,outs))
  (base:Nat) (U:Nat->Prop) (w:World) (gargs jB:List Value) (N1 N2:List Nat) (hG:Given X base U w 225 args cells gargs jB N1 N2):
  Calls X.P 225 gargs.toArray w λe w'=>∃gs M1 M2,e=.returned (abb gs)∧Did X.P U w w' (N1++N2) fn.resultTypes.toList cells outs jB rows gs M1 M2:=by
 unfold Prim.strings_IndexByte at h;split at h
 ·rename_i s b;unfold M.strings_IndexByte at h;cases h;obtain⟨rfl,rfl,rfl,hs⟩:=acr hG hm;have hg:gargs=[.string ⟨⟨s⟩⟩,.int .u8 b]:=by simp only[bV,aO,ro] at hs;obtain⟨g,gs,rfl,rfl,g',gs',rfl,rfl,rfl⟩:=hs;rfl
  rw[hg];rw[hP] at hf⊢;have hfn:fn.resultTypes.toList=[3]:=by rw[Tryz.func225] at hf;cases hf;rfl
  refine(Tryz.strings_IndexByte ⟨⟨s⟩⟩ b w).mono ?_;rintro e w' ⟨rfl,rfl⟩;rw[hfn];exact⟨[_],[],[],rfl,Va (by kernel_rfl) (λ_ _=>⟨rfl,rfl⟩) (Keep.refl _ _)⟩
 ·cases h
end Go.Proofs.YtbgadfelmhoheaaGreatDoor
namespace Go.Proofs.YtbgadfelmhoheaaGreatDoor
set_option linter.unusedVariables false
set_option linter.unusedSimpArgs false
open Go Go.Vm Go.RowKit
open Go.IntKind (i64)
def ar7{x:Int}(h:(Lit.int .i64 x).wf=true):I64 x:=bounds_i64 h
set_option maxRecDepth 100000 in
def open_ints'{n:Nat}{row:Row}(h:tyD Tryz.prog (n+2) 35 row):∃k:List Int,row=[.sl false 1 (Go.Vm.encI k)]∧k.length<=maxLen∧∀x,x∈k->I64 x:=by obtain⟨rows,rfl,hl,hr⟩:=avZ Tryz.underlying35 h;obtain⟨k,rfl,hk⟩:=ahy (f:=λx:Int=>[D.int .i64 x]) (p:=I64) (λr hr'=>by obtain⟨x,rfl,hx⟩:=al9 Tryz.underlying3 (hr r hr');exact⟨x,rfl,ar7 hx⟩);exact⟨k,rfl,by simpa using hl,hk⟩
set_option maxRecDepth 100000 in
def ar8{n:Nat}{row:Row}(h:tyD Tryz.prog (n+3) 37 row):∃x:Nd,row=TK false x∧Fit x:=by have h:=arw Tryz.underlying37 h;obtain⟨_,_,rfl,h1,h⟩:=Xa h;obtain⟨_,_,rfl,h2,h⟩:=Xa h;obtain⟨_,_,rfl,h3,h⟩:=Xa h;obtain⟨_,_,rfl,h4,h⟩:=Xa h;obtain⟨_,_,rfl,h5,h⟩:=Xa h;obtain rfl:=av1 h;obtain⟨a,rfl,wa⟩:=al9 Tryz.underlying3 h1;obtain⟨b,rfl,wb⟩:=al9 Tryz.underlying3 h2;obtain⟨c,rfl,wc⟩:=asE Tryz.underlying9 h3;obtain⟨d,rfl,wd⟩:=asE Tryz.underlying9 h4;obtain⟨k,rfl,wk,wk2⟩:=open_ints' h5;exact⟨⟨a,b,c,d,k⟩,rfl,⟨ar7 wa,ar7 wb,wc,wd,wk,wk2⟩⟩
set_option maxRecDepth 100000 in
def aqO{n:Nat}{row:Row}(h:tyD Tryz.prog (n+4) 22 row):∃l:List Nd,row=[.sl false 5 (aT false l)]∧l.length<=maxLen∧∀x,x∈l->Fit x:=by obtain⟨rows,rfl,hl,hr⟩:=avZ Tryz.underlying22 h;obtain⟨l,rfl,hk⟩:=ahy (f:=TK false) (p:=Fit) (λr hr'=>ar8 (hr r hr'));exact⟨l,rfl,by simpa using hl,hk⟩
def aIC:alT X0:=by
 intro f p fn args cells rows outs hx hf hb h base U w gargs jB N1 N2 hG;have hx':(bif Nat.beq f 94 then some Prim.kU else bif Nat.beq f 225 then some Prim.strings_IndexByte else bif Nat.beq f 271 then some Prim.strings_Repeat else bif Nat.beq f 58 then some Prim.strings_Join else bif Nat.beq f 242 then some Prim.strings_Contains else none)=some p:=hx;cases hq:Nat.beq f 94 with
 |true=>rw[hq] at hx';cases hx';have e:=Ac hq;subst e;exact ajz rfl rfl fn args cells rows outs hf h base U w gargs jB N1 N2 hG
 |false=>
 rw[hq,aS] at hx';cases hq:Nat.beq f 225 with
 |true=>rw[hq] at hx';cases hx';have e:=Ac hq;subst e;exact aep rfl (by decide) fn args cells rows outs hf h base U w gargs jB N1 N2 hG
 |false=>
 rw[hq,aS] at hx';cases hq:Nat.beq f 271 with
 |true=>rw[hq] at hx';cases hx';have e:=Ac hq;subst e;exact ajV rfl (by decide) fn args cells rows outs hf h base U w gargs jB N1 N2 hG
 |false=>
 rw[hq,aS] at hx';cases hq:Nat.beq f 58 with
 |true=>rw[hq] at hx';cases hx';have e:=Ac hq;subst e;exact aqN rfl (by decide) fn args cells rows outs hf h base U w gargs jB N1 N2 hG
 |false=>
 rw[hq,aS] at hx';cases hq:Nat.beq f 242 with
 |true=>rw[hq] at hx';cases hx';have e:=Ac hq;subst e;exact af6 rfl (by decide) fn args cells rows outs hf h base U w gargs jB N1 N2 hG
 |false=>rw[hq] at hx';cases hx'
def own:ownKnob Tryz.prog.godebug=none:=by kernel_rfl
def laidOut:laidOutB Tryz.prog=true:=by kernel_rfl
def gK : Tryz.prog.globalNamed "loop.example/g01543/impl.keywords" = some 1 := by kernel_rfl
def gS : Tryz.prog.globalNamed "loop.example/g01543/impl.signs" = some 0 := by kernel_rfl
def gB : Tryz.prog.globalNamed "loop.example/g01543/impl.builtins" = some 2 := by kernel_rfl
def tK:(Tryz.prog.globals[1]?).map (·.type)=some 196:=by kernel_rfl
def tS:(Tryz.prog.globals[0]?).map (·.type)=some 194:=by kernel_rfl
def tB:(Tryz.prog.globals[2]?).map (·.type)=some 201:=by kernel_rfl
def c9:Tryz.prog.cellsOf 9=1:=by kernel_rfl
def dK:(Rows.laid_loop_example_g01543_impl_keywords:DataW Unit)=.agg (Zh.map λs=> .lit (.string s)):=by kernel_rfl
def dS:(Rows.laid_loop_example_g01543_impl_signs:DataW Unit)=.agg (RF.map λs=> .lit (.string s)):=by kernel_rfl
def dB:(Rows.laid_loop_example_g01543_impl_builtins:DataW Unit)=.agg (apV.map λs=> .lit (.string s)):=by kernel_rfl
def rK:EY=Zh.map D.str:=by kernel_rfl
def rS:TM=RF.map D.str:=by kernel_rfl
def rB:OM=apV.map D.str:=by kernel_rfl
def azI{W:World}(hL:laidMetH Tryz.prog Rows.fnExactMinTextRow.laid W)(hS:W.ShapedOpen Tryz.prog):aew X0 (full W):=by
 rw[MakeChecks.laidMetH_plain _ _ _ (by kernel_rfl)] at hL;obtain⟨ps,⟨g0,t0,cs0,f0,p0,q0,hg0,ht0,hv0,hd0,⟨g1,t1,cs1,f1,p1,q1,hg1,ht1,hv1,hd1,⟨g2,t2,cs2,f2,p2,q2,hg2,ht2,hv2,hd2,_,_⟩,_⟩,_⟩,_,_⟩:=hL;obtain rfl:=Option.some.inj (gK.symm.trans hg0);obtain rfl:=Option.some.inj (gS.symm.trans hg1);obtain rfl:=Option.some.inj (gB.symm.trans hg2);obtain rfl:=Option.some.inj (tK.symm.trans ht0);obtain rfl:=Option.some.inj (tS.symm.trans ht1);obtain rfl:=Option.some.inj (tB.symm.trans ht2);rw[dK] at hd0;rw[dS] at hd1;rw[dB] at hd2;refine⟨λg row h=> ?_,λg h=> ?_⟩
 ·have h':(bif Nat.beq g 2 then some OM else bif Nat.beq g 1 then some EY else bif Nat.beq g 0 then some TM else none)=some row:=h;cases hq:Nat.beq g 2 with
  |true=>rw[hq] at h';cases h';have e:=Ac hq;subst e;rw[rB];exact adH Tryz.underlying201 Tryz.underlying9 c9 hg2 hv2 hd2
  |false=>
  rw[hq,aS] at h';cases hq:Nat.beq g 1 with
  |true=>rw[hq] at h';cases h';have e:=Ac hq;subst e;rw[rK];exact adH Tryz.underlying196 Tryz.underlying9 c9 hg0 hv0 hd0
  |false=>
  rw[hq,aS] at h';cases hq:Nat.beq g 0 with
  |true=>rw[hq] at h';cases h';have e:=Ac hq;subst e;rw[rS];exact adH Tryz.underlying194 Tryz.underlying9 c9 hg1 hv1 hd1
  |false=>rw[hq] at h';cases h'
 ·have h':(bif Nat.beq g 4 then true else false)=true:=h;cases hq:Nat.beq g 4 with
  |false=>rw[hq] at h';cases h'
  |true=>have e:=Ac hq;subst e;exact Go.Proofs.cell_of_shapedOpen_int (zero:=#[.int .i64 0]) hS (of_decide_eq_true (by kernel_rfl)) (by kernel_rfl) rfl (by kernel_rfl) (by kernel_rfl) Tryz.underlying3
end Go.Proofs.YtbgadfelmhoheaaGreatDoor
