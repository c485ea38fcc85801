import Derived.Test.YtbpldgeajbfgnaaGreatDoorXGap
import Derived.Test.YtbpldgeajbfgnaaGreatDoorXDsz2
set_option linter.defProp false
namespace Go.Proofs.YtbpldgeajbfgnaaGreatDoor
set_option linter.unusedVariables false
set_option linter.unusedSimpArgs false
open Go Go.Vm
open Go.IntKind (i64)
def Pz{α:Type}:List (List α)->Nat
 |[]=>0
 |x::l=>x.length+Pz l
def ald{α:Type}:∀(L:List (List α)) (j:Nat),(yN L j).length<=Pz L
 |[],j=>by simp[yN,Pz]
 |x::l,0=>by simp[yN,Pz]
 |x::l,j+1=>by have:=ald l j;simp only[yN,List.getElem?_cons_succ,Pz] at this⊢;omega
def TA:∀(L:List (List Tk)) (b:Bool),(Dq b L).length<=Pz L+L.length
 |[],b=>by simp[Dq,Pz]
 |x::l,b=>by have:=TA l false;cases b<;>simp only[Dq,Pz,cO,dO,uq,mZ]<;>omega
def asy{α:Type}:∀(L:List (List α)),(yN L 0).length+((yN L 1).length+(yN L 2).length)<=Pz L
 |[]=>by simp[yN,Pz]
 |[x]=>by simp[yN,Pz]
 |[x,y]=>by simp[yN,Pz]
 |x::y::z::l=>by simp[yN,Pz]
def Ec{α:Type}{a b:List α}{N:Nat}(c:Bool)(ha:a.length<=N)(hb:b.length<=N):(bif c then a else b).length<=N:=by cases c<;>assumption
def ap4(k op:Int)(n:Nat)(x:aC)(L:List (List Tk)):(Ee k op n x L).length<=Pz L+L.length+4:=by
 have h1:=TA L true;have h2:=ald L 0;have h3:=asy L;have h4:(bif Nat.blt 1 n then tok 32::(Dq true L++[tok 33]) else yN L 0:List Tk).length<=Pz L+L.length+2:=Ec _ (by simp only[mZ,uq,xq];omega) (by omega);have h5:(bif op==99 then[] else[tok op]:List Tk).length<=1:=Ec _ (by simp) (by simp);unfold Ee;refine Ec _ ?_ (Ec _ ?_ (Ec _ ?_ (Ec _ ?_ (Ec _ ?_ (Ec _ ?_ (Ec _ ?_ (Ec _ ?_ (Ec _ ?_ (Ec _ ?_ (Ec _ ?_ (Ec _ ?_ ?_)))))))))))
 all_goals(simp only[mZ,uq,xq];omega)
def F9(k op:Int)(n:Nat)(p:Ps):∀(ts:List Tn) (j:Nat),(jF k op n p ts j).length=ts.length
 |[],j=>by rw[jF];rfl
 |t::ts,j=>by rw[jF,mZ,F9 k op n p ts (j+1),mZ]
def su(k op:Int)(n:Nat)(p:Ps)(j:Nat)(u:Tn):List Tk:=bif oG k j||fits u.kind u.op (eP k op n j p) then tX u (eP k op n j p) else tok 32::(tX u .top++[tok 33])
def aeC(k op:Int)(n:Nat)(p:Ps):∀{ts:List Tn} {i j:Nat} {u:Tn},ts[j]? =some u->(jF k op n p ts i)[j]? =some (su k op n p (i+j) u)
 |[],_,_,_,h=>by simp at h
 |t::ts,i,0,u,h=>by cases h;rw[jF,List.getElem?_cons_zero];rfl
 |t::ts,i,j+1,u,h=>by rw[List.getElem?_cons_succ] at h;rw[jF,List.getElem?_cons_succ,aeC k op n p h,show i+1+j=i+(j+1) by omega]
def Ky{k op:Int}{n:Nat}{p:Ps}{j:Nat}{u:Tn}(h:∀q,(tX u q).length+4<=8 * u.size):(su k op n p j u).length+2<=8 * u.size:=by
 unfold su;cases(oG k j||fits u.kind u.op (eP k op n j p)) with
 |true=>have:=h (eP k op n j p);rw[cO];omega
 |false=>have:=h .top;simp only[dO,mZ,uq,xq];omega
def Ud{k op:Int}{n:Nat}{p:Ps}:∀{ts:List Tn} {j:Nat},(∀u,u∈ts->∀q,(tX u q).length+4<=8 * u.size)->Pz (jF k op n p ts j)+2 * ts.length<=8 * sizes ts
 |[],j,_=>by rw[jF,Pz,sizes];simp
 |t::ts,j,h=>by
  have h1:=Ky (k:=k) (op:=op) (n:=n) (p:=p) (j:=j) (h t zmf);have h2:=Ud (k:=k) (op:=op) (n:=n) (p:=p) (ts:=ts) (j:=j+1) λu hu=>h u (zmm _ hu)
  unfold su at h1;rw[jF,Pz,sizes,mZ];omega
def oQ(t:Tn):∀q,(tX t q).length+4<=8 * t.size:=by refine Tn.ind (P:=λt=>∀q,(tX t q).length+4<=8 * t.size) ?_ t;intro k op x y ks ih q;have h1:=ap4 k op ks.length x (jF k op ks.length q ks 0);have h2:=Ud (k:=k) (op:=op) (n:=ks.length) (p:=q) (ts:=ks) (j:=0) ih;rw[F9] at h1;rw[tX,Tn.size];omega
def aeD(t:Tn)(q:Ps):(UR t q).length+2<=8 * t.size:=by
 have h1:=oQ t q;have h2:=oQ t .top;unfold UR;cases fits t.kind t.op q with
 |true=>rw[cO];omega
 |false=>simp only[dO,mZ,uq,xq];omega
@[simp] theorem dU(l:List Tk):aA (kY l)=true:=by simp only[aA,kY,List.all_map,List.all_eq_true];intro x _;rfl
def lT(a b:List Tk):kY (a++b)=kY a++kY b:=by simp[kY]
def Gz(a toks:List Tk)(sp:au)(f:Bool)(hs:aA sp=true)(hl:toks.length+a.length<=1000000000):M.bZ (kY a) (kY toks) sp f=some (kY (toks++a),sp,f):=by simp only[M.bZ,M.BO,iJ,<-lT,dU,hs,cO];rw[dP (by omega),cO,dP (by omega),cO]
def iota(n:Nat):List Int:=(List.range n).map fun(i:Nat)=>((i:Nat):Int)
def MS(n:Nat):(iota n).length=n:=by simp[iota]
def amv(n:Nat):iota (n+1)=iota n++[(n:Int)]:=by simp[iota,List.range_succ]
def aat(k op:Int)(x y:aC)(rows:au)(h:rows.length<=1048576):M.jS k op x y rows=some (k,op,x,y,encI (iota rows.length)):=by
 obtain⟨n,hn⟩:∃n,n=rows.length:=⟨_,rfl⟩
 simp only[M.jS,M.FM];rw[<-hn] at h⊢;have hloop:=iV (b:=M.qB)
  (t:=if n=0 then .inl ((n:Int),0,0,0,[],[],k,op,x,y) else .inr ((n:Int),(n:Int),0,0,[],[],k,op,x,y,encI (iota n)))
  (λj=>if j=0 then .inl ((n:Int),0,0,0,[],[],k,op,x,y) else .inr ((n:Int),(j:Int),0,0,[],[],k,op,x,y,encI (iota j))) n
  (by
   intro j hj;rw[if_neg (show¬j+1=0 by omega),amv]
   by_cases h0:j=0
   ·subst h0;rw[if_pos rfl];simp only[jY,M.qB,M.nI];rw[zdt (by omega),cO];rfl
   ·rw[if_neg h0];simp only[jY,M.qB,M.nI,dh,MS,OJ];rw[zdt (by omega),cO,dP (by omega),cO,dP (by omega),cO,aJ (by omega) (by omega)];simp[encI])
  (by
   by_cases h0:n=0
   ·simp only[if_pos h0];simp only[jY,M.qB,M.nI];rw[uw (by omega),dO]
   ·simp only[if_neg h0];simp only[jY,M.qB,M.nI];rw[uw (by omega),dO]) 0 (Nat.zero_le _)
 rw[if_pos rfl] at hloop;rw[M.DX,hloop,ah]
 by_cases h0:n=0
 ·rw[if_pos h0,h0];rfl
 ·rw[if_neg h0];simp only[yS,letE,Ja,cO]
def Wr(toks:List Tk)(sp:au)(N:Nat)(out:List Tk)(r:Option (au×au×Bool)):Prop:=
 ∃sp',r=some (kY (toks++out),sp',false)∧aA sp'=true∧sp'.length<=sp.length+N
def PT(u:Tn):Prop:=∀(w:Bool) (f:Nat) (p:Ps) (toks:List Tk) (sp:au),5 * u.size<=f->l9 p=true->aA sp=true->toks.length+16 * u.size<=900000000->sp.length+u.size<=900000000->u.size<=1048576->
 Wr toks sp u.size (tX u p) (M.qG f u.kind u.op u.text u.other (fE w u.kids) p.level p.lQ p.qp p.qw p.kU (kY toks) sp false)
def ale{u:Tn}(h:u.size<=1048576)(w:Bool):(fE w u.kids).length<=1048576:=by have h1:=u.wV;have h2:=lW u.kids;rw[gG];omega
def uS(k:Int):([[D.int .i64 k,D.str (spell k),D.int .i64 0]]:au)=kY [tok k]:=rfl
def axY{u:Tn}(hP:PT u){w:Bool}{f:Nat}{p:Ps}{toks:List Tk}{sp:au}(hf:5 * u.size+1<=f)(hp:l9 p=true)(hs:aA sp=true)(ht:toks.length+16 * u.size+1<=900000000)(hl:sp.length+u.size<=900000000)(hu:u.size<=1048576):
  Wr toks sp u.size (UR u p) (M.uG f u.kind u.op u.text u.other (fE w u.kids) p.level p.lQ p.qp p.qw p.kU (kY toks) sp false):=by
 obtain⟨g,rfl⟩:∃g,f=g+1:=⟨f - 1,by omega⟩
 have hz:=u.size_pos;have hb:=oQ u .top;rw[M.Ul];simp only[M.qE,aat u.kind u.op u.text u.other _ (ale hu w),ah,(aar u.kind u.op u.text u.other _ p).1,dO,Bool.not_not,UR];cases fits u.kind u.op p with
 |true=>obtain⟨sp',h1,h2,h3⟩:=hP w g p toks sp (by omega) hp hs (by omega) hl hu;simp only[cO,dU,hs,h1,ah,h2];exact⟨sp',rfl,h2,h3⟩
 |false=>obtain⟨sp',h1,h2,h3⟩:=hP w g .top (toks++[tok 32]) sp (by omega) rfl hs (by rw[uq,OJ];omega) hl hu;have e1:=(lH 32 (by constructor<;>decide)).1;have e2:=(lH 33 (by constructor<;>decide)).1;have p1:=Gz [tok 32] toks sp false hs (by simp;omega);have p2:=Gz [tok 33] (toks++[tok 32]++tX u .top) sp' false h2 (by simp only[uq,OJ];omega);simp only[Ps.top] at h1 p2;simp only[dO,e1,e2,zi.1,ah,uS,dU,hs,cO,p1,h1,h2,p2];refine⟨sp', ?_,h2,h3⟩;simp[Ps.top]
def jO(w:Bool)(u:Tn):fB .i64 (u.row w) 0=some u.kind∧fB .i64 (u.row w) 1=some u.op∧cStr (u.row w) 2=some u.text∧cStr (u.row w) 3=some u.other∧TL 5 (u.row w) 4=some (fE w u.kids):=by cases u;exact⟨rfl,rfl,rfl,rfl,rfl⟩
def Aq(w:Bool){ks:List Tn}{j:Nat}{u:Tn}(hj:ks[j]? =some u):idx (fE w ks) (j:Int)=some (u.row w):=by rw[fQ,Qb];simp[hj]
section
variable {k op:Int} {x y:aC} {ks:List Tn} (ih:∀u,u∈ks->PT u)
include ih
theorem MV{w:Bool}{f:Nat}{p:Ps}{toks:List Tk}{sp:au}{j:Nat}{u:Tn}(hj:ks[j]? =some u)(hf:5 * u.size+2<=f)(hp:l9 p=true)(hlv:lvl k op≠0)(hs:aA sp=true)(ht:toks.length+16 * u.size+1<=900000000)(hl:sp.length+u.size<=900000000)(hu:sizes ks<=1048575):
  Wr toks sp u.size (su k op ks.length p j u) (M.kT f k op x y (fE w ks) (j:Int) p.level p.lQ p.qp p.qw p.kU (kY toks) sp false):=by
 obtain⟨g,rfl⟩:∃g,f=g+1:=⟨f - 1,by omega⟩
 have hkl:=lW ks;have hju:=(MG.1 hj).1;have hus:=iW (Au hj);have hg:=Aq w hj;obtain⟨c0,c1,c2,c3,c4⟩:=jO w u;have hn:=aat k op x y (fE w ks) (by rw[gG];omega);rw[gG] at hn;have hkp:=Tz k op x y (encI (iota ks.length)) j p (by rw[dh,MS];omega);rw[dh,MS] at hkp;have hq:=tY (n:=ks.length) (j:=j) hp hju hlv;have e1:=ih u (Au hj);rw[M.VK];simp only[jY,M.rD,hn,ah,hg,c0,c1,c2,c3,c4,hkp,Ps.zo,Zh,dU,hs,cO,su];cases htg:oG k j with
 |true=>obtain⟨sp',h1,h2,h3⟩:=e1 w g (eP k op ks.length j p) toks sp (by omega) hq hs (by omega) hl (by omega);simp only[cO,Bool.true_or,h1,ah,dU,h2];exact⟨sp',rfl,h2,h3⟩
 |false=>obtain⟨sp',h1,h2,h3⟩:=axY e1 (w:=w) (f:=g) (p:=eP k op ks.length j p) (toks:=toks) (sp:=sp) (by omega) hq hs ht hl (by omega);unfold UR at h1;simp only[dO,Bool.false_or,h1,ah,dU,h2,cO];exact⟨sp',rfl,h2,h3⟩
theorem Yl{w:Bool}{f:Nat}{p:Ps}{shut:Int}(hf:5 * sizes ks+2<=f)(hp:l9 p=true)(hlv:lvl k op≠0)(hu:sizes ks<=1048575):∀(d j:Nat) (toks:List Tk) (sp:au),j+d=ks.length->aA sp=true->toks.length+16 * sizes (ks.drop j)+2<=900000000->sp.length+sizes (ks.drop j)<=900000000->
  ∃sp',M.kM (M.kT f) shut (ks.length:Int) k op x y (fE w ks) p.level p.lQ p.qp p.qw p.kU ((j:Int),false,kY toks,sp)=some ((ks.length:Int),false,kY (toks++Dq (Nat.beq j 0) ((jF k op ks.length p ks 0).drop j)),sp')∧aA sp'=true∧sp'.length<=sp.length+sizes (ks.drop j)
 |0,j,toks,sp,hj,hs,ht,hl=>by
  have hjn:j=ks.length:=by omega
  refine⟨sp, ?_,hs,by omega⟩;have hd:(jF k op ks.length p ks 0).drop j=[]:=List.drop_eq_nil_iff.2 (by rw[F9];omega);rw[hd,Dq,List.append_nil,M.kM];apply jq;simp only[M.nG,M.nD];rw[uw (by omega),dO,hjn]
 |d+1,j,toks,sp,hj,hs,ht,hl=>by
  have hlt:j<ks.length:=by omega
  have hkl:=lW ks;obtain⟨u,hu'⟩:∃u,ks[j]? =some u:=⟨ks[j],by simp[hlt]⟩
  have hd1:ks.drop j=u::ks.drop (j+1):=by rw[List.drop_eq_getElem_cons hlt];rw[List.getElem?_eq_getElem hlt] at hu';rw[Option.some.inj hu']
  have hus:=iW (Au hu');have hz:=u.size_pos;have hb:=Ky (k:=k) (op:=op) (n:=ks.length) (p:=p) (j:=j) (oQ u);have hdl:j<(jF k op ks.length p ks 0).length:=by rw[F9];exact hlt
  have hkd:(jF k op ks.length p ks 0).drop j=su k op ks.length p j u::(jF k op ks.length p ks 0).drop (j+1):=by have hg:=aeC k op ks.length p (i:=0) hu';rw[Nat.zero_add,List.getElem?_eq_getElem hdl] at hg;rw[List.drop_eq_getElem_cons hdl,Option.some.inj hg]
  rw[hd1,sizes] at ht hl⊢;rw[hkd];have hw:i64.wrap ((j:Int)+1)=((j+1:Nat):Int):=by rw[aJ (by omega) (by omega)];omega
  by_cases h0:j=0
  ·subst h0;obtain⟨sp1,a1,a2,a3⟩:=MV ih (w:=w) (f:=f) (p:=p) (toks:=toks) (sp:=sp) (x:=x) (y:=y) (op:=op) (k:=k) hu' (by omega) hp hlv hs (by omega) (by omega) hu;obtain⟨sp2,b1,b2,b3⟩:=Yl hf hp hlv hu d (0+1) (toks++su k op ks.length p 0 u) sp1 (by omega) a2 (by rw[uq];omega) (by omega);have hstep:M.nG (M.kT f) shut (ks.length:Int) k op x y (fE w ks) p.level p.lQ p.qp p.qw p.kU (((0:Nat):Int),false,kY toks,sp)=some (.inl (((0+1:Nat):Int),false,kY (toks++su k op ks.length p 0 u),sp1)):=by simp only[M.nG,M.nD,dU,hs,cO];rw[zdt (by omega),cO,uw (by omega),dO,a1,ah,hw]
   refine⟨sp2, ?_,b2,by omega⟩;rw[M.kM,kQ hstep];rw[M.kM] at b1;have z0:Nat.beq 0 0=true:=rfl;have z1:Nat.beq (0+1) 0=false:=rfl;rw[b1,z0,z1,Dq,cO];simp
  ·have e1:=(lH 36 (by constructor<;>decide)).1;have p1:=Gz [tok 36] toks sp false hs (by simp;omega);obtain⟨sp1,a1,a2,a3⟩:=MV ih (w:=w) (f:=f) (p:=p) (toks:=toks++[tok 36]) (sp:=sp) (x:=x) (y:=y) (op:=op) (k:=k) hu' (by omega) hp hlv hs (by rw[uq,OJ];omega) (by omega) hu;obtain⟨sp2,b1,b2,b3⟩:=Yl hf hp hlv hu d (j+1) (toks++[tok 36]++su k op ks.length p j u) sp1 (by omega) a2 (by rw[uq,uq,OJ];omega) (by omega);have hstep:M.nG (M.kT f) shut (ks.length:Int) k op x y (fE w ks) p.level p.lQ p.qp p.qw p.kU ((j:Int),false,kY toks,sp)=some (.inl (((j+1:Nat):Int),false,kY (toks++[tok 36]++su k op ks.length p j u),sp1)):=by simp only[M.nG,M.nD,e1,ah,uS,dU,hs,cO,p1];rw[zdt (by omega),cO,zdt (by omega),cO,a1,ah,hw]
   refine⟨sp2, ?_,b2,by omega⟩;rw[M.kM,kQ hstep];rw[M.kM] at b1;rw[b1];have hb0:Nat.beq j 0=false:=by cases j with
    |zero=>exact absurd rfl h0
    |succ j=>rfl
   have hb1:Nat.beq (j+1) 0=false:=rfl;rw[hb0,hb1,Dq,dO];simp
theorem afS{w:Bool}{f:Nat}{p:Ps}{toks:List Tk}{sp:au}{open' shut:Int}(ho:I64 open')(hsh:I64 shut)(hf:5 * sizes ks+3<=f)(hp:l9 p=true)(hlv:lvl k op≠0)(hs:aA sp=true)(ht:toks.length+16 * sizes ks+3<=900000000)(hl:sp.length+sizes ks<=900000000)(hu:sizes ks<=1048575):
  Wr toks sp (sizes ks) (tok open'::(Dq true (jF k op ks.length p ks 0)++[tok shut])) (M.qF f k op x y (fE w ks) open' shut p.level p.lQ p.qp p.qw p.kU (kY toks) sp false):=by
 obtain⟨g,rfl⟩:∃g,f=g+1:=⟨f - 1,by omega⟩
 have hkl:=lW ks;have e1:=(lH open' ho).1;have e2:=(lH shut hsh).1;have p1:=Gz [tok open'] toks sp false hs (by simp;omega);obtain⟨sp1,a1,a2,a3⟩:=Yl ih (x:=x) (y:=y) (op:=op) (k:=k) (w:=w) (f:=g) (p:=p) (shut:=shut) (by omega) hp hlv hu ks.length 0 (toks++[tok open']) sp (by omega) hs (by rw[uq,OJ,List.drop_zero];omega) (by rw[List.drop_zero];omega);rw[List.drop_zero] at a3;rw[List.drop_zero,qP] at a1;have hlen:(Dq true (jF k op ks.length p ks 0)).length<=9 * sizes ks:=by
  have h1:=TA (jF k op ks.length p ks 0) true;have h2:=Ud (k:=k) (op:=op) (n:=ks.length) (p:=p) (ts:=ks) (j:=0) λu _=>oQ u
  rw[F9] at h1;omega
 have p2:=Gz [tok shut] (toks++[tok open']++Dq (Nat.beq 0 0) (jF k op ks.length p ks 0)) sp1 false a2 (by simp only[uq,OJ];have:Nat.beq 0 0=true:=rfl;rw[this];omega);rw[M.Uj];simp only[M.qC,e1,e2,ah,uS,dU,hs,cO,p1,gG,a1,a2,p2];refine⟨sp1, ?_,a2,a3⟩;simp
end
def Ns(k op:Int)(n:Nat)(p:Ps)(u:Tn):jF k op n p [u] 0=[su k op n p 0 u]:=by rw[jF,jF];rfl
def TB(k op:Int)(n:Nat)(p:Ps)(u v:Tn):jF k op n p [u,v] 0=[su k op n p 0 u,su k op n p 1 v]:=by rw[jF,jF,jF];rfl
def ap5(k op:Int)(n:Nat)(p:Ps)(u v z:Tn):jF k op n p [u,v,z] 0=[su k op n p 0 u,su k op n p 1 v,su k op n p 2 z]:=by rw[jF,jF,jF,jF];rfl
def Zj(u:Tn):sizes [u]=u.size:=by simp[sizes]
def sz2(u v:Tn):sizes [u,v]=u.size+v.size:=by simp[sizes]
def sz3(u v z:Tn):sizes [u,v,z]=u.size+(v.size+z.size):=by simp[sizes]
def IY{α:Type}{l:List α}(h:l.length=2):∃a b,l=[a,b]:=by
 match l,h with
 |[a,b],_=>exact⟨a,b,rfl⟩
def Qp{α:Type}{l:List α}(h:l.length=3):∃a b c,l=[a,b,c]:=by
 match l,h with
 |[a,b,c],_=>exact⟨a,b,c,rfl⟩
def aau{op:Int}(h:wP op≠0):I64 op:=by
 by_cases hr:0<=op∧op<=99
 ·constructor<;>omega
 ·exfalso;apply h;have e:∀z:Int,0<=z->z<=99->(op==z)=false:=λz h1 h2=>by rw[VZ];omega
  simp only[wP,e 44 (by decide) (by decide),e 45 (by decide) (by decide),e 67 (by decide) (by decide),e 46 (by decide) (by decide),e 63 (by decide) (by decide),e 48 (by decide) (by decide),e 47 (by decide) (by decide),e 50 (by decide) (by decide),e 62 (by decide) (by decide),e 49 (by decide) (by decide),e 99 (by decide) (by decide),e 55 (by decide) (by decide),e 56 (by decide) (by decide),e 57 (by decide) (by decide),e 58 (by decide) (by decide),e 59 (by decide) (by decide),e 60 (by decide) (by decide),Bool.or_false,dO]
def Q8:((1:Nat):Int)=1:=rfl
def amw:((2:Nat):Int)=2:=rfl
section
variable {k op:Int} {x y:aC} {ks:List Tn} (ih:∀u,u∈ks->PT u)
include ih
theorem axZ{w:Bool}{f:Nat}{p:Ps}{toks:List Tk}{sp:au}(hc:Cnt k op y ks.length)(hk:k=6∨k=9∨k=10∨k=11∨k=12∨k=13∨k=14∨k=15)(hf:5 * sizes ks+4<=f)(hp:l9 p=true)(hs:aA sp=true)(ht:toks.length+16 * sizes ks+3<=900000000)(hl:sp.length+sizes ks<=900000000)(hu:sizes ks<=1048575):
  Wr toks sp (sizes ks) (Ee k op ks.length x (jF k op ks.length p ks 0)) (M.oO f k op x y (fE w ks) p.level p.lQ p.qp p.qw p.kU (kY toks) sp false):=by
 obtain⟨g,rfl⟩:∃g,f=g+1:=⟨f - 1,by omega⟩
 have hlv:lvl k op≠0:=by have:=Pg (y:=y) (n:=ks.length) (k:=k) (op:=op) (by omega) hc;omega
 rw[M.Qh];rcases hk with rfl|rfl|rfl|rfl|rfl|rfl|rfl|rfl
 ·obtain⟨u,rfl⟩:=Xx.1 (hc.one (by omega));rw[Zj] at *;have e1:=(lH 68 (by constructor<;>decide)).1;have p1:=Gz [tok 68] toks sp false hs (by simp;omega);obtain⟨sp1,a1,a2,a3⟩:=MV ih (w:=w) (f:=g) (p:=p) (toks:=toks++[tok 68]) (sp:=sp) (x:=x) (y:=y) (op:=op) (k:=6) (j:=0) (u:=u) rfl (by omega) hp hlv hs (by simp only[uq,mZ,xq,Nat.zero_add] at *;omega) hl (by rw[Zj];exact hu);rw[qP] at a1;simp only[M.eu,Int.reduceBEq,cO,dO,e1,ah,uS,dU,hs,p1,a1,a2];refine⟨sp1, ?_,a2,a3⟩;rw[Ns];simp[Ee,yN]
 ·obtain⟨u,rfl⟩:=Xx.1 (hc.one (by omega));rw[Zj] at *;have e1:=(lH op (by rcases hc.stp (by omega) with rfl|rfl<;>constructor<;>decide)).1;have p1:=Gz [tok op] toks sp false hs (by simp;omega);obtain⟨sp1,a1,a2,a3⟩:=MV ih (w:=w) (f:=g) (p:=p) (toks:=toks++[tok op]) (sp:=sp) (x:=x) (y:=y) (op:=op) (k:=9) (j:=0) (u:=u) rfl (by omega) hp hlv hs (by simp only[uq,mZ,xq,Nat.zero_add] at *;omega) hl (by rw[Zj];exact hu);rw[qP] at a1;simp only[M.eu,Int.reduceBEq,cO,dO,e1,ah,uS,dU,hs,p1,a1,a2];refine⟨sp1, ?_,a2,a3⟩;rw[Ns];simp[Ee,yN]
 ·obtain⟨u,rfl⟩:=Xx.1 (hc.one (by omega));rw[Zj] at *;have hb:=Ky (k:=10) (op:=op) (n:=[u].length) (p:=p) (j:=0) (oQ u);have e1:=(lH op (by rcases hc.stp (by omega) with rfl|rfl<;>constructor<;>decide)).1;obtain⟨sp1,a1,a2,a3⟩:=MV ih (w:=w) (f:=g) (p:=p) (toks:=toks) (sp:=sp) (x:=x) (y:=y) (op:=op) (k:=10) (j:=0) (u:=u) rfl (by omega) hp hlv hs (by omega) hl (by rw[Zj];exact hu);rw[qP] at a1;have p1:=Gz [tok op] (toks++su 10 op [u].length p 0 u) sp1 false a2 (by simp only[uq,mZ,xq,Nat.zero_add] at *;omega);simp only[M.eu,Int.reduceBEq,cO,dO,e1,ah,uS,dU,hs,p1,a1,a2];refine⟨sp1, ?_,a2,a3⟩;rw[Ns];simp[Ee,yN]
 ·obtain⟨u,rfl⟩:=Xx.1 (hc.one (by omega));rw[Zj] at *;have e1:=(lH op (by rcases hc.una (by omega) with rfl|rfl|rfl<;>constructor<;>decide)).1;have p1:=Gz [tok op] toks sp false hs (by simp;omega);obtain⟨sp1,a1,a2,a3⟩:=MV ih (w:=w) (f:=g) (p:=p) (toks:=toks++[tok op]) (sp:=sp) (x:=x) (y:=y) (op:=op) (k:=11) (j:=0) (u:=u) rfl (by omega) hp hlv hs (by simp only[uq,mZ,xq,Nat.zero_add] at *;omega) hl (by rw[Zj];exact hu);rw[qP] at a1;simp only[M.eu,Int.reduceBEq,cO,dO,e1,ah,uS,dU,hs,p1,a1,a2];refine⟨sp1, ?_,a2,a3⟩;rw[Ns];simp[Ee,yN]
 ·obtain⟨u,v,rfl⟩:=IY (hc.two (by omega));rw[sz2] at *;have hb:=Ky (k:=12) (op:=op) (n:=[u,v].length) (p:=p) (j:=0) (oQ u);obtain⟨sp1,a1,a2,a3⟩:=MV ih (w:=w) (f:=g) (p:=p) (toks:=toks) (sp:=sp) (x:=x) (y:=y) (op:=op) (k:=12) (j:=0) (u:=u) rfl (by omega) hp hlv hs (by omega) (by omega) (by rw[sz2];exact hu);rw[qP] at a1
  by_cases h99:op=99
  ·have e99:(op !=99)=false:=by simp[h99]
   obtain⟨sp2,b1,b2,b3⟩:=MV ih (w:=w) (f:=g) (p:=p) (toks:=toks++su 12 op [u,v].length p 0 u) (sp:=sp1) (x:=x) (y:=y) (op:=op) (k:=12) (j:=1) (u:=v) rfl (by omega) hp hlv a2 (by simp only[uq,mZ,xq,Nat.zero_add] at *;omega) (by omega) (by rw[sz2];exact hu);rw[Q8] at b1;simp only[M.eu,Int.reduceBEq,cO,dO,e99,ah,uS,dU,hs,a1,a2,b1,b2];refine⟨sp2, ?_,b2,by omega⟩;rw[TB];simp[Ee,yN,h99]
  ·have e99:(op !=99)=true:=by simpa using h99
   have e98:(op==99)=false:=by simpa using h99
   have e1:=(lH op (aau (hc.bin rfl).1)).1;have p1:=Gz [tok op] (toks++su 12 op [u,v].length p 0 u) sp1 false a2 (by simp only[uq,mZ,xq,Nat.zero_add] at *;omega);obtain⟨sp2,b1,b2,b3⟩:=MV ih (w:=w) (f:=g) (p:=p) (toks:=toks++su 12 op [u,v].length p 0 u++[tok op]) (sp:=sp1) (x:=x) (y:=y) (op:=op) (k:=12) (j:=1) (u:=v) rfl (by omega) hp hlv a2 (by simp only[uq,mZ,xq,Nat.zero_add] at *;omega) (by omega) (by rw[sz2];exact hu);rw[Q8] at b1;simp only[M.eu,Int.reduceBEq,cO,dO,e99,e1,p1,ah,uS,dU,hs,a1,a2,b1,b2];refine⟨sp2, ?_,b2,by omega⟩;rw[TB];simp[Ee,yN,e98]
 ·have e1:=(lH 24 (by constructor<;>decide)).1;have hr:∀z:aC,([[D.int .i64 24,D.str (spell 24),D.int .i64 0],[D.int .i64 6,D.str z,D.int .i64 0]]:au)=kY [tok 24,⟨6,z,0⟩]:=λz=>rfl
  cases hm:Nat.blt 1 ks.length with
  |true=>
   obtain⟨sp1,a1,a2,a3⟩:=afS ih (w:=w) (f:=g) (p:=p) (toks:=toks) (sp:=sp) (x:=x) (y:=y) (op:=op) (k:=13) (open':=32) (shut:=33) (by constructor<;>decide) (by constructor<;>decide) (by omega) hp hlv hs (by omega) hl hu;have hlen:(Dq true (jF 13 op ks.length p ks 0)).length<=9 * sizes ks:=by
    have h1:=TA (jF 13 op ks.length p ks 0) true;have h2:=Ud (k:=13) (op:=op) (n:=ks.length) (p:=p) (ts:=ks) (j:=0) λu _=>oQ u
    rw[F9] at h1;omega
   have p1:=Gz [tok 24,⟨6,x,0⟩] (toks++tok 32::(Dq true (jF 13 op ks.length p ks 0)++[tok 33])) sp1 false a2 (by simp only[uq,mZ,xq,Nat.zero_add] at *;omega);simp only[M.eu,Int.reduceBEq,cO,dO,gG,many,hm,e1,p1,ah,hr,dU,hs,a1,a2];refine⟨sp1, ?_,a2,a3⟩;simp[Ee,hm]
  |false=>
   have h1:ks.length=1:=by
    have h2:=hc.some_ (by omega);have h3:¬1<ks.length:=by rw[<-Nat.blt_eq,hm];simp
    omega
   obtain⟨u,rfl⟩:=Xx.1 h1;rw[Zj] at *;have hb:=Ky (k:=13) (op:=op) (n:=[u].length) (p:=p) (j:=0) (oQ u);obtain⟨sp1,a1,a2,a3⟩:=MV ih (w:=w) (f:=g) (p:=p) (toks:=toks) (sp:=sp) (x:=x) (y:=y) (op:=op) (k:=13) (j:=0) (u:=u) rfl (by omega) hp hlv hs (by omega) hl (by rw[Zj];exact hu);rw[qP] at a1;have p1:=Gz [tok 24,⟨6,x,0⟩] (toks++su 13 op [u].length p 0 u) sp1 false a2 (by simp only[uq,mZ,xq,Nat.zero_add] at *;omega);simp only[M.eu,Int.reduceBEq,cO,dO,gG,many,hm,e1,p1,ah,hr,dU,hs,a1,a2];refine⟨sp1, ?_,a2,a3⟩;rw[Ns];simp[Ee,yN,show Nat.blt 1 1=false from rfl]
 ·obtain⟨u,v,z,rfl⟩:=Qp (hc.three rfl);rw[sz3] at *;have hb:=Ky (k:=14) (op:=op) (n:=[u,v,z].length) (p:=p) (j:=0) (oQ u);have hb2:=Ky (k:=14) (op:=op) (n:=[u,v,z].length) (p:=p) (j:=1) (oQ v);have e1:=(lH 65 (by constructor<;>decide)).1;have e2:=(lH 66 (by constructor<;>decide)).1;obtain⟨sp1,a1,a2,a3⟩:=MV ih (w:=w) (f:=g) (p:=p) (toks:=toks) (sp:=sp) (x:=x) (y:=y) (op:=op) (k:=14) (j:=0) (u:=u) rfl (by omega) hp hlv hs (by omega) (by omega) (by rw[sz3];exact hu);rw[qP] at a1;have p1:=Gz [tok 65] (toks++su 14 op [u,v,z].length p 0 u) sp1 false a2 (by simp only[uq,mZ,xq,Nat.zero_add] at *;omega);obtain⟨sp2,b1,b2,b3⟩:=MV ih (w:=w) (f:=g) (p:=p) (toks:=toks++su 14 op [u,v,z].length p 0 u++[tok 65]) (sp:=sp1) (x:=x) (y:=y) (op:=op) (k:=14) (j:=1) (u:=v) rfl (by omega) hp hlv a2 (by simp only[uq,mZ,xq,Nat.zero_add] at *;omega) (by omega) (by rw[sz3];exact hu);rw[Q8] at b1;have p2:=Gz [tok 66] (toks++su 14 op [u,v,z].length p 0 u++[tok 65]++su 14 op [u,v,z].length p 1 v) sp2 false b2 (by simp only[uq,mZ,xq,Nat.zero_add] at *;omega);obtain⟨sp3,c1,c2,c3⟩:=MV ih (w:=w) (f:=g) (p:=p) (toks:=toks++su 14 op [u,v,z].length p 0 u++[tok 65]++su 14 op [u,v,z].length p 1 v++[tok 66]) (sp:=sp2) (x:=x) (y:=y) (op:=op) (k:=14) (j:=2) (u:=z) rfl (by omega) hp hlv b2 (by simp only[uq,mZ,xq,Nat.zero_add] at *;omega) (by omega) (by rw[sz3];exact hu);rw[amw] at c1;simp only[M.eu,Int.reduceBEq,cO,dO,e1,e2,p1,p2,ah,uS,dU,hs,a1,a2,b1,b2,c1,c2];refine⟨sp3, ?_,c2,by omega⟩;rw[ap5];simp[Ee,yN]
 ·obtain⟨u,v,rfl⟩:=IY (hc.two (by omega));rw[sz2] at *;have hb:=Ky (k:=15) (op:=op) (n:=[u,v].length) (p:=p) (j:=0) (oQ u);obtain⟨sp1,a1,a2,a3⟩:=MV ih (w:=w) (f:=g) (p:=p) (toks:=toks) (sp:=sp) (x:=x) (y:=y) (op:=op) (k:=15) (j:=0) (u:=u) rfl (by omega) hp hlv hs (by omega) (by omega) (by rw[sz2];exact hu);rw[qP] at a1
  by_cases h99:op=99
  ·have e99:(op !=99)=false:=by simp[h99]
   obtain⟨sp2,b1,b2,b3⟩:=MV ih (w:=w) (f:=g) (p:=p) (toks:=toks++su 15 op [u,v].length p 0 u) (sp:=sp1) (x:=x) (y:=y) (op:=op) (k:=15) (j:=1) (u:=v) rfl (by omega) hp hlv a2 (by simp only[uq,mZ,xq,Nat.zero_add] at *;omega) (by omega) (by rw[sz2];exact hu);rw[Q8] at b1;simp only[M.eu,Int.reduceBEq,cO,dO,e99,ah,uS,dU,hs,a1,a2,b1,b2];refine⟨sp2, ?_,b2,by omega⟩;rw[TB];simp[Ee,yN,h99]
  ·have e99:(op !=99)=true:=by simpa using h99
   have e98:(op==99)=false:=by simpa using h99
   have e1:=(lH op (by rcases hc.asg rfl with rfl|h<;>constructor<;>omega)).1;have p1:=Gz [tok op] (toks++su 15 op [u,v].length p 0 u) sp1 false a2 (by simp only[uq,mZ,xq,Nat.zero_add] at *;omega);obtain⟨sp2,b1,b2,b3⟩:=MV ih (w:=w) (f:=g) (p:=p) (toks:=toks++su 15 op [u,v].length p 0 u++[tok op]) (sp:=sp1) (x:=x) (y:=y) (op:=op) (k:=15) (j:=1) (u:=v) rfl (by omega) hp hlv a2 (by simp only[uq,mZ,xq,Nat.zero_add] at *;omega) (by omega) (by rw[sz2];exact hu);rw[Q8] at b1;simp only[M.eu,Int.reduceBEq,cO,dO,e99,e1,p1,ah,uS,dU,hs,a1,a2,b1,b2];refine⟨sp2, ?_,b2,by omega⟩;rw[TB];simp[Ee,yN,e98]
end
def alf(sp:au)(a b:Int)(hs:aA sp=true):aA (sp++[[D.int .i64 a,D.int .i64 b]])=true:=by simp only[aA,List.all_append,GH] at hs⊢;exact⟨hs,rfl⟩
def ax0(t:Tn):CJ t->Rw t->PT t:=by
 refine Tn.ind (P:=λt=>CJ t->Rw t->PT t) ?_ t;intro k op x y ks ih hok he w f p toks sp hf hp hs ht hl hu;have hc:=KZ hok;have ih':∀u,u∈ks->PT u:=λu hm=>by obtain⟨i,hi⟩:=List.mem_iff_getElem?.1 hm;obtain⟨h1,h2⟩:=Xo hok he hi;exact ih u hm h2 h1
 have he':1<=k∧k<=15:=he;have hlv:lvl k op≠0:=by have:=Pg he' hc;omega
 rw[Tn.size] at hf ht hl hu⊢;obtain⟨g,rfl⟩:∃g,f=g+1:=⟨f - 1,by omega⟩
 simp only[Tn.kind,Tn.op,Tn.text,Tn.other,Tn.kids];rw[M.Uk,tX];have done:∀(out:List Tk) (sp':au) (c:Option (au×au×Bool)),aA sp'=true->sp'.length<=sp.length+sizes ks->c=some (kY (toks++out),sp'++[[D.int .i64 (toks.length:Int),D.int .i64 ((toks++out).length:Int)]],false)->Wr toks sp (sizes ks+1) out c:=by intro out sp' c h1 h2 h3;exact⟨_,h3,alf _ _ _ h1,by rw[uq,OJ];omega⟩
 have leaf:∀(z:Int) (h:Ee k op ks.length x (jF k op ks.length p ks 0)=([⟨z,x,0⟩]:List Tk)),Wr toks sp (sizes ks+1) (Ee k op ks.length x (jF k op ks.length p ks 0)) (some (kY (toks++([⟨z,x,0⟩]:List Tk)),sp++[[D.int .i64 (toks.length:Int),D.int .i64 ((toks++([⟨z,x,0⟩]:List Tk)).length:Int)]],false)):=by intro z h;rw[h];exact done _ sp _ hs (by omega) rfl
 have hrow:∀z:Int,([[D.int .i64 z,D.str x,D.int .i64 0]]:au)=kY [⟨z,x,0⟩]:=λz=>rfl
 have hput:∀z:Int,M.bZ (kY [⟨z,x,0⟩]) (kY toks) sp false=some (kY (toks++[⟨z,x,0⟩]),sp,false):=λz=>Gz [⟨z,x,0⟩] toks sp false hs (by simp;omega)
 have sps:∀(s:au) (a b:Int),aA s=true->aA (s++[[D.int .i64 a,D.int .i64 b]])=true:=alf;have hk:k=1∨k=2∨k=3∨k=4∨k=5∨k=7∨k=8∨(k=6∨k=9∨k=10∨k=11∨k=12∨k=13∨k=14∨k=15):=by omega
 rcases hk with rfl|rfl|rfl|rfl|rfl|rfl|rfl|hk
 ·simp only[jY,M.iQ,Int.reduceBEq,cO,dO,hrow,hput,ah,dU,hs,iJ,OJ,sps sp _ _ hs];rw[dP (by omega),cO,dP (by omega),cO];exact leaf 6 rfl
 ·simp only[jY,M.iQ,Int.reduceBEq,cO,dO,hrow,hput,ah,dU,hs,iJ,OJ,sps sp _ _ hs];rw[dP (by omega),cO,dP (by omega),cO];exact leaf 3 rfl
 ·simp only[jY,M.iQ,Int.reduceBEq,cO,dO,hrow,hput,ah,dU,hs,iJ,OJ,sps sp _ _ hs];rw[dP (by omega),cO,dP (by omega),cO];exact leaf 4 rfl
 ·simp only[jY,M.iQ,Int.reduceBEq,cO,dO,hrow,hput,ah,dU,hs,iJ,OJ,sps sp _ _ hs];rw[dP (by omega),cO,dP (by omega),cO];exact leaf 5 rfl
 ·obtain⟨sp1,a1,a2,a3⟩:=afS ih' (w:=w) (f:=g) (p:=p) (toks:=toks++[⟨6,x,0⟩]) (sp:=sp) (x:=x) (y:=y) (op:=op) (k:=5) (open':=34) (shut:=35) (by constructor<;>decide) (by constructor<;>decide) (by omega) hp hlv hs (by rw[uq,OJ];omega) (by omega) (by omega);simp only[jY,M.iQ,Int.reduceBEq,cO,dO,hrow,hput,ah,dU,hs,a1,a2,iJ,OJ,sps sp1 _ _ a2];rw[dP (by omega),cO,dP (by omega),cO];have ha:Ee 5 op ks.length x (jF 5 op ks.length p ks 0)=⟨6,x,0⟩::tok 34::(Dq true (jF 5 op ks.length p ks 0)++[tok 35]):=rfl;rw[ha];refine done _ sp1 _ a2 a3 ?_;simp
 ·obtain⟨sp1,a1,a2,a3⟩:=afS ih' (w:=w) (f:=g) (p:=p) (toks:=toks++[⟨7,x,0⟩]) (sp:=sp) (x:=x) (y:=y) (op:=op) (k:=7) (open':=32) (shut:=33) (by constructor<;>decide) (by constructor<;>decide) (by omega) hp hlv hs (by rw[uq,OJ];omega) (by omega) (by omega);simp only[jY,M.iQ,Int.reduceBEq,cO,dO,hrow,hput,ah,dU,hs,a1,a2,iJ,OJ,sps sp1 _ _ a2];rw[dP (by omega),cO,dP (by omega),cO];have ha:Ee 7 op ks.length x (jF 7 op ks.length p ks 0)=⟨7,x,0⟩::tok 32::(Dq true (jF 7 op ks.length p ks 0)++[tok 33]):=rfl;rw[ha];refine done _ sp1 _ a2 a3 ?_;simp
 ·obtain⟨sp1,a1,a2,a3⟩:=afS ih' (w:=w) (f:=g) (p:=p) (toks:=toks++[⟨8,x,0⟩]) (sp:=sp) (x:=x) (y:=y) (op:=op) (k:=8) (open':=32) (shut:=33) (by constructor<;>decide) (by constructor<;>decide) (by omega) hp hlv hs (by rw[uq,OJ];omega) (by omega) (by omega);simp only[jY,M.iQ,Int.reduceBEq,cO,dO,hrow,hput,ah,dU,hs,a1,a2,iJ,OJ,sps sp1 _ _ a2];rw[dP (by omega),cO,dP (by omega),cO];have ha:Ee 8 op ks.length x (jF 8 op ks.length p ks 0)=⟨8,x,0⟩::tok 32::(Dq true (jF 8 op ks.length p ks 0)++[tok 33]):=rfl;rw[ha];refine done _ sp1 _ a2 a3 ?_;simp
 ·obtain⟨sp1,a1,a2,a3⟩:=axZ ih' (w:=w) (f:=g) (p:=p) (toks:=toks) (sp:=sp) (x:=x) (y:=y) (op:=op) (k:=k) hc hk (by omega) hp hs (by omega) (by omega) (by omega);have n1:(k==1)=false:=by rw[VZ];omega
  have n2:(k==2)=false:=by rw[VZ];omega
  have n3:(k==3)=false:=by rw[VZ];omega
  have n4:(k==4)=false:=by rw[VZ];omega
  have n5:(k==5)=false:=by rw[VZ];omega
  have n7:(k==7)=false:=by rw[VZ];omega
  have n8:(k==8)=false:=by rw[VZ];omega
  simp only[jY,M.iQ,n1,n2,n3,n4,n5,n7,n8,cO,dO,ah,dU,hs,a1,a2,iJ,OJ,sps sp1 _ _ a2];rw[dP (by omega),cO,dP (by omega),cO];exact done _ sp1 _ a2 a3 rfl
mutual
def Ue:Tn->Prop
 | .mk _ _ x y ks=>(x.length<=1048576∧y.length<=1048576)∧adz ks
def adz:List Tn->Prop
 |[]=>True
 |t::ts=>Ue t∧adz ts
end
mutual
def alg:∀(t:Tn) (b:Nat),Ue t↔∀n,n∈t.flat b->Small n
 | .mk k o x y ks,b=>by
  rw[Ue,ai6 ks b,Tn.flat];constructor
  ·rintro⟨⟨h1,h2⟩,h3⟩ n hn;rcases List.mem_append.1 hn with hn|hn
   ·exact h3 n hn
   ·simp only[List.mem_singleton] at hn;subst hn;exact⟨h1,h2⟩
  ·intro h;have h1:=h ⟨k,o,x,y,ends ks b⟩ (by simp);exact⟨⟨h1.text,h1.other⟩,λn hn=>h n (List.mem_append_left _ hn)⟩
def ai6:∀(ks:List Tn) (b:Nat),adz ks↔∀n,n∈lV ks b->Small n
 |[],b=>by simp[adz,lV]
 |t::ts,b=>by
  rw[adz,alg t b,ai6 ts (b+t.size),lV];constructor
  ·rintro⟨h1,h2⟩ n hn;rcases List.mem_append.1 hn with hn|hn
   ·exact h1 n hn
   ·exact h2 n hn
  ·intro h;exact⟨λn hn=>h n (List.mem_append_left _ hn),λn hn=>h n (List.mem_append_right _ hn)⟩
end
def zB:∀{ks:List Tn} {u:Tn},adz ks->u∈ks->Ue u
 |[],_,_,h=>by cases h
 |t::ts,u,h,hu=>by
  rw[adz] at h;rcases List.mem_cons.1 hu with rfl|hu
  ·exact h.1
  ·exact zB h.2 hu
def Xt:∀{t:Tn},Ue t->adz t.kids
 | .mk _ _ _ _ _,h=>by rw[Ue] at h;exact h.2
def atD(l:List (aC))(h:∀g,g∈l->g.length<=9)(i:Nat):(l[i]?.getD []).length<=9:=by
 cases hx:l[i]? with
 |none=>simp
 |some g=>exact h g (Au hx)
def aM9:∀g,g∈Td->g.length<=9:=by decide+kernel
def aNa:∀g,g∈Qj->g.length<=9:=by decide+kernel
def La(k:Int):(spell k).length<=9:=by
 unfold spell;split
 ·simp
 ·split
  ·exact atD _ aM9 _
  ·split
   ·exact atD _ aNa _
   ·simp
def Sm(l:List Tk):Prop:=∀t,t∈l->t.text.length<=1048576
def TD:Sm []:=λt h=>by cases h
def tZ{t:Tk}{l:List Tk}(h:t.text.length<=1048576)(hl:Sm l):Sm (t::l):=by
 intro u hu;rcases List.mem_cons.1 hu with rfl|hu
 ·exact h
 ·exact hl u hu
def Lc{a b:List Tk}(ha:Sm a)(hb:Sm b):Sm (a++b):=by
 intro u hu;rcases List.mem_append.1 hu with hu|hu
 ·exact ha u hu
 ·exact hb u hu
def IZ(k:Int):(tok k).text.length<=1048576:=by have:=La k;show(spell k).length<=1048576;omega
def ER{a b:List Tk}(c:Bool)(ha:Sm a)(hb:Sm b):Sm (bif c then a else b):=by cases c<;>assumption
def ap6:∀{L:List (List Tk)} (b:Bool),(∀l,l∈L->Sm l)->Sm (Dq b L)
 |[],b,_=>by rw[Dq];exact TD
 |x::l,b,h=>by have h1:=h x zmf;rw[Dq];exact Lc (ER _ h1 (tZ (IZ _) h1)) (ap6 false λl hl=>h l (zmm _ hl))
def ax1{L:List (List Tk)}(h:∀l,l∈L->Sm l)(j:Nat):Sm (yN L j):=by
 unfold yN;cases hx:L[j]? with
 |none=>exact TD
 |some l=>exact h l (Au hx)
def ax2{k op:Int}{n:Nat}{x:aC}{L:List (List Tk)}(hx:x.length<=1048576)(h:∀l,l∈L->Sm l):Sm (Ee k op n x L):=by
 have t1:∀z:Int,Sm [⟨z,x,0⟩]:=λz=>tZ hx TD
 have t2:∀z:Int,Sm [tok z]:=λz=>tZ (IZ z) TD
 have n1:=ax1 h;have c1:=ap6 true h;unfold Ee;refine ER _ (t1 _) (ER _ (t1 _) (ER _ (t1 _) (ER _ (t1 _) (ER _ ?_ (ER _ ?_ (ER _ ?_ (ER _ ?_ (ER _ ?_ (ER _ ?_ (ER _ ?_ (ER _ ?_ ?_)))))))))))
 ·exact tZ hx (tZ (IZ _) (Lc c1 (t2 _)))
 ·exact tZ hx (tZ (IZ _) (Lc c1 (t2 _)))
 ·exact tZ hx (tZ (IZ _) (Lc c1 (t2 _)))
 ·exact tZ (IZ _) (n1 _)
 ·exact tZ (IZ _) (n1 _)
 ·exact Lc (n1 _) (t2 _)
 ·exact Lc (ER _ (tZ (IZ _) (Lc c1 (t2 _))) (n1 _)) (tZ (IZ _) (tZ hx TD))
 ·exact Lc (n1 _) (tZ (IZ _) (Lc (n1 _) (tZ (IZ _) (n1 _))))
 ·exact Lc (n1 _) (Lc (ER _ TD (t2 _)) (n1 _))
def alh{k op:Int}{n:Nat}{p:Ps}:∀{ts:List Tn} {j:Nat},(∀u,u∈ts->∀q,Sm (tX u q))->∀l,l∈jF k op n p ts j->Sm l
 |[],j,_,l,hl=>by rw[jF] at hl;cases hl
 |t::ts,j,h,l,hl=>by
  rw[jF] at hl;rcases List.mem_cons.1 hl with rfl|hl
  ·exact ER _ (h t zmf _) (tZ (IZ _) (Lc (h t zmf _) (tZ (IZ _) TD)))
  ·exact alh (λu hu=>h u (zmm _ hu)) l hl
def ali(t:Tn):Ue t->∀p,Sm (tX t p):=by refine Tn.ind (P:=λt=>Ue t->∀p,Sm (tX t p)) ?_ t;intro k op x y ks ih h p;rw[Ue] at h;rw[tX];exact ax2 h.1.1 (alh λu hu q=>ih u hu (zB h.2 hu) q)
def ap7{k op:Int}{n:Nat}{p:Ps}{j:Nat}{u:Tn}(h:Ue u):Sm (su k op n p j u):=
 ER _ (ali u h _) (tZ (IZ _) (Lc (ali u h _) (tZ (IZ _) TD)))
def ap8(t:Tn):CJ t->Rw t->∀p,tX t p≠[]:=by
 refine Tn.ind (P:=λt=>CJ t->Rw t->∀p,tX t p≠[]) ?_ t;intro k op x y ks ih hok he p;have hc:=KZ hok;have he':=he;simp only[Rw,Tn.kind] at he';have ih':∀i u,ks[i]? =some u->∀q,tX u q≠[]:=λi u e q=>by obtain⟨h1,h2⟩:=Xo hok he' e;exact ih u (Au e) h2 h1 q
 have kne:∀i u,ks[i]? =some u->su k op ks.length p i u≠[]:=by
  intro i u e;unfold su;cases(oG k i||fits u.kind u.op (eP k op ks.length i p)) with
  |true=>exact ih' i u e _
  |false=>simp
 rw[tX];have hk:k=1∨k=2∨k=3∨k=4∨k=5∨k=7∨k=8∨k=6∨k=9∨k=10∨k=11∨k=13∨k=14∨(k=12∨k=15):=by omega
 rcases hk with rfl|rfl|rfl|rfl|rfl|rfl|rfl|rfl|rfl|rfl|rfl|rfl|rfl|hk
 iterate 13 simp[Ee]
 obtain⟨u,v,rfl⟩:=IY (hc.two (by omega));have h0:su k op 2 p 0 u≠[]:=kne 0 u rfl;rcases hk with rfl|rfl
 ·rw[TB];simp[Ee,yN,h0]
 ·rw[TB];simp[Ee,yN,h0]
def alj{k op:Int}{n:Nat}{p:Ps}{j:Nat}{u:Tn}(h1:CJ u)(h2:Rw u):su k op n p j u≠[]:=by
 unfold su;cases(oG k j||fits u.kind u.op (eP k op n j p)) with
 |true=>exact ap8 u h1 h2 _
 |false=>simp
def Cm(t:Tn):Int×Int×aC×au×Int:=(t.kind,t.op,t.text,mQ false t.kids,0)
section
variable (t:Tn) (s:aC) (L:List Tn) (a b c d e f g h:Tn)
def Gg:(Cm t).1=t.kind:=rfl
def Gi:(Cm t).2.1=t.op:=rfl
def Gj:(Cm t).2.2.1=t.text:=rfl
def Gl:(Cm t).2.2.2.1=mQ false t.kids:=rfl
def Gm:(Cm t).2.2.2.2=0:=rfl
def Gn:bM (mQ false L)=mQ false L:=acF false L
def fJ:([D.int .i64 t.kind,D.int .i64 t.op,D.str t.text,D.sl false 5 (mQ false t.kids),D.int .i64 0]:Row)=yP false t:=by cases t;rfl
def dL:(t.kind,t.op,t.text,mQ false t.kids,(0:Int))=Cm t:=rfl
def jT:M.aX s=some (Cm (lI s)):=rfl
def Ym:M.tH=some (Cm Rj):=rfl
def ai7:M.dD (mQ false L)=some (Cm (nV L)):=rfl
def adA:M.dD [yP false a,yP false b]=some (Cm (nV [a,b])):=rfl
def adB:M.dD [yP false a,yP false b,yP false c]=some (Cm (nV [a,b,c])):=rfl
def amx:M.dD [yP false a,yP false b,yP false c,yP false d]=some (Cm (nV [a,b,c,d])):=rfl
def aNb:M.dD [yP false a,yP false b,yP false c,yP false d,yP false e]=some (Cm (nV [a,b,c,d,e])):=rfl
def acG:M.qy t.kind t.op t.text (mQ false t.kids) 0=some (Cm (UU t)):=by cases t;rfl
def aav:M.pW t.kind t.op t.text (mQ false t.kids) 0=some (Cm (amn t)):=by cases t;rfl
end
def CB:∀a b:List Tn,mQ false (a++b)=mQ false a++mQ false b:=λa b=>by simp[Ub]
def Yn:∀(L:List Tn) (b:Bool) (x:Tn),OL b (L++[x])=OL b L++(bif L.isEmpty && b then[x] else[lI [44],Rj,x])
 |[],b,x=>by cases b<;>simp[OL]
 |y::L,b,x=>by rw[Ru,OL,OL,Yn L false x];simp
def acH:∀(L:List Tn) (b:Bool),(OL b L).length<=3 * L.length
 |[],b=>by simp[OL]
 |y::L,b=>by have:=acH L false;cases b<;>simp only[OL,cO,dO,uq,mZ,xq]<;>omega
def V4(p:Ps)(ks:List Tn):List Tn:=ks.map λu=>Ap u p
def Xu(p:Ps)(ks:List Tn):(V4 p ks).length=ks.length:=by simp[V4]
def ai8(p:Ps)(ks:List Tn):MQ p ks=acp (V4 p ks):=rfl
def acI{ks:List Tn}{p:Ps}{b:Int×au->Option ((Int×au)⊕(Int×au))}(hu:ks.length<=1048576)
  (hb:∀(j:Nat) u (L:List Tn),ks[j]? =some u->L.length<=4000000->b ((j:Int),mQ false L)=some (.inl (((j+1:Nat):Int),mQ false (L++(if j=0 then[Ap u p] else[lI [44],Rj,Ap u p])))))
  (he:∀r,b ((ks.length:Int),r)=some (.inr ((ks.length:Int),r))):
  iT b (0,[])=some ((ks.length:Int),mQ false (OL true (V4 p ks))):=by
 have:=iV (b:=b) (t:=((ks.length:Int),mQ false (OL true (V4 p ks)))) (λj=>((j:Int),mQ false (OL true (V4 p (ks.take j))))) ks.length
  (by
   intro j hj;obtain⟨u,hu'⟩:∃u,ks[j]? =some u:=⟨ks[j],by simp[hj]⟩
   have hl:=acH (V4 p (ks.take j)) true;rw[Xu,PE] at hl;rw[hb j u _ hu' (by omega),jo hu'];have e:V4 p (ks.take j++[u])=V4 p (ks.take j)++[Ap u p]:=by simp[V4]
   rw[e,Yn]
   by_cases h0:j=0
   ·subst h0;rfl
   ·have z:(V4 p (ks.take j)).isEmpty=false:=by
     cases hq:V4 p (ks.take j) with
     |nil=>have:=Xu p (ks.take j);rw[hq,xq,PE] at this;omega
     |cons _ _=>rfl
    rw[if_neg h0,z,Bool.false_and,dO])
  (by rw[he,List.take_length]) 0 (Nat.zero_le _)
 exact this
def ap9{k op:Int}{x y:aC}{ks:List Tn}(w:Bool)(hu:sizes ks<=1048575):M.jS k op x y (fE w ks)=some (k,op,x,y,encI (iota ks.length)):=by
 have hkl:=lW ks;have hn:=aat k op x y (fE w ks) (by rw[gG];omega)
 rwa [gG] at hn
def DT(u:Tn):Prop:=∀(w:Bool) (f:Nat) (p:Ps),5 * u.size<=f->l9 p=true->
 M.Ag f u.kind u.op u.text u.other (fE w u.kids) p.level p.lQ p.qp p.qw p.kU=some (Cm (qL u p))
def akf{u:Tn}(hD:DT u){w:Bool}{f:Nat}{p:Ps}(hf:5 * u.size+1<=f)(hp:l9 p=true)(hu:u.size<=1048576):
  M.wu f u.kind u.op u.text u.other (fE w u.kids) p.level p.lQ p.qp p.qw p.kU=some (Cm (Ap u p)):=by
 obtain⟨g,rfl⟩:∃g,f=g+1:=⟨f - 1,by omega⟩
 have h1:=hD w g p (by omega) hp;have h2:=hD w g .top (by omega) rfl;simp only[Ps.top] at h2;rw[M.abQ];simp only[jY,M.Ae,aat u.kind u.op u.text u.other _ (ale hu w),ah,(aar u.kind u.op u.text u.other _ p).1,Ap];cases fits u.kind u.op p with
 |true=>simp only[cO,h1,ah,Gg,Gi,Gj,Gl,Gm,Gn,dL]
 |false=>simp only[dO,jT,zi.1,h2,ah,Gg,Gi,Gj,Gl,Gm,Gn,fJ,adB,dL,Ps.top]
section
variable {k op:Int} {x y:aC} {ks:List Tn} (ih:∀u,u∈ks->DT u)
include ih
theorem atE{w:Bool}{f:Nat}{p:Ps}{j:Nat}{u:Tn}(hj:ks[j]? =some u)(hf:5 * u.size+2<=f)(hp:l9 p=true)(hlv:lvl k op≠0)(hu:sizes ks<=1048575):
  M.zf f k op x y (fE w ks) (j:Int) p.level p.lQ p.qp p.qw p.kU=some (Cm (Ku k op ks.length p j u)):=by
 obtain⟨g,rfl⟩:∃g,f=g+1:=⟨f - 1,by omega⟩
 have hkl:=lW ks;have hju:=(MG.1 hj).1;have hus:=iW (Au hj);have hg:=Aq w hj;obtain⟨c0,c1,c2,c3,c4⟩:=jO w u;have hkp:=Tz k op x y (encI (iota ks.length)) j p (by rw[dh,MS];omega);rw[dh,MS] at hkp;have hq:=tY (n:=ks.length) (j:=j) hp hju hlv;have e1:=ih u (Au hj);have h1:=e1 w g (eP k op ks.length j p) (by omega) hq;have h2:=akf e1 (w:=w) (f:=g) (p:=eP k op ks.length j p) (by omega) hq (by omega);rw[M.ads];simp only[jY,M.Dk,ap9 w hu,ah,hg,c0,c1,c2,c3,c4,hkp,Ps.zo,Zh,Ku];unfold Ap at h2;cases htg:oG k j with
 |true=>simp only[cO,Bool.true_or,h1,ah,Gg,Gi,Gj,Gl,Gm,Gn,dL]
 |false=>simp only[dO,Bool.false_or,h2,ah,Gg,Gi,Gj,Gl,Gm,Gn,dL]
theorem aqa{w:Bool}{f:Nat}(hf:5 * sizes ks+2<=f)(hu:sizes ks<=1048575):
  M.Af f (fE w ks)=some (Cm (MQ .top ks)):=by
 obtain⟨g,rfl⟩:∃g,f=g+1:=⟨f - 1,by omega⟩
 have hkl:=lW ks;rw[M.abR];simp only[jY,M.Ad,M.Ih,gG];rw[acI (ks:=ks) (p:=.top) (by omega) (λj u L hj hL=> ?_) (λr=> ?_)]
 ·simp only[ah,ai7,Gg,Gi,Gj,Gl,Gm,Gn,acG,aav,dL];rfl
 ·have hjl:=(MG.1 hj).1;have hus:=iW (Au hj);obtain⟨c0,c1,c2,c3,c4⟩:=jO w u;have h1:=akf (ih u (Au hj)) (w:=w) (f:=g) (p:=.top) (by omega) rfl (by omega);simp only[Ps.top] at h1;have hw:i64.wrap ((j:Int)+1)=((j+1:Nat):Int):=by rw[aJ (by omega) (by omega)];omega
  simp only[jY,M.JY,M.yD,Aq w hj,c0,c1,c2,c3,c4,ah,jT,Ym,M.Et,M.NQ,zi.1,h1,Gg,Gi,Gj,Gl,Gm,Gn,fJ,uQ,uq,mZ,xq,hw];rw[zdt (by omega),cO]
  by_cases h0:j=0
  ·subst h0;rw[uw (by omega),dO,dP (by omega),cO,dP (by omega),cO,if_pos rfl,CB];rfl
  ·rw[zdt (by omega),cO,dP (by omega),cO,dP (by omega),cO,dP (by omega),cO,dP (by omega),cO,if_neg h0,CB,Gp];rfl
 ·simp only[jY,M.JY,M.yD];rw[uw (by omega),dO]
end
def yQ{n:Nat}(h:n<=8000000):n.ble 9223372036854775807=true:=dP (by omega)
def PD(k op:Int)(n:Nat)(p:Ps)(u:Tn):rF k op n p [u] 0=[Ku k op n p 0 u]:=by rw[rF,rF];rfl
def afT(k op:Int)(n:Nat)(p:Ps)(u v:Tn):rF k op n p [u,v] 0=[Ku k op n p 0 u,Ku k op n p 1 v]:=by rw[rF,rF,rF];rfl
def aqb(k op:Int)(n:Nat)(p:Ps)(u v z:Tn):rF k op n p [u,v,z] 0=[Ku k op n p 0 u,Ku k op n p 1 v,Ku k op n p 2 z]:=by rw[rF,rF,rF,rF];rfl
def acJ{k op:Int}{n:Nat}{p:Ps}(ht:∀j,oG k j=false)(hq:∀j,j<n->eP k op n j p=.top):∀(ts:List Tn) (j:Nat),j+ts.length=n->rF k op n p ts j=V4 .top ts
 |[],j,_=>by rw[rF];rfl
 |t::ts,j,hj=>by rw[mZ] at hj;rw[rF,hq j (by omega),ht j,acJ ht hq ts (j+1) (by omega),Bool.false_or];rfl
def MW{k op:Int}{ks:List Tn}{p:Ps}(hp:l9 p=true)(h:(lvl k op=15)∨(k=13∧Nat.blt 1 ks.length=true∧lvl k op≠0))(ht:∀j,oG k j=false):rF k op ks.length p ks 0=V4 .top ks:=by
 refine acJ ht (λj hj=> ?_) ks 0 (by omega);rcases h with h|⟨h1,h2,h3⟩
 ·exact EP hp hj h
 ·have hb:Nat.blt j ks.length=true:=by rw[Nat.blt_eq];exact hj
  have h4:(lvl k op==0)=false:=by simpa using h3
  subst h1;unfold eP;rw[hp,hb,h4,h2];simp
def asz{op:Int}{x y:aC}{u:Tn}(hD:DT u)(hT:PT u)(hok:CJ u)(he:Rw u)(hs:Ue u){w:Bool}{f:Nat}{p:Ps}(hc:Cnt 11 op y 1)(hf:5 * u.size+3<=f)(hp:l9 p=true)(hu:u.size<=1048575):
  M.CZ f 11 op x y (fE w [u]) p.level p.lQ p.qp p.qw p.kU=some (Cm (qL (.mk 11 op x y [u]) p)):=by
 obtain⟨g,rfl⟩:∃g,f=g+1:=⟨f - 1,by omega⟩
 have ihD:∀v,v∈[u]->DT v:=by intro v hv;rw[List.mem_singleton.1 hv];exact hD
 have ihT:∀v,v∈[u]->PT v:=by intro v hv;rw[List.mem_singleton.1 hv];exact hT
 have hs1:=Zj u;have hlv:lvl 11 op≠0:=by simp[lvl]
 have hI:I64 op:=by rcases hc.una rfl with rfl|rfl|rfl<;>constructor<;>decide
 have h1:=atE ihD (w:=w) (f:=g) (p:=p) (x:=x) (y:=y) (k:=11) (op:=op) (j:=0) (u:=u) rfl (by omega) hp hlv (by omega);obtain⟨sp,h2,h3,h4⟩:=MV ihT (w:=w) (f:=5 * u.size+2) (p:=p) (toks:=[]) (sp:=[]) (x:=x) (y:=y) (op:=op) (k:=11) (j:=0) (u:=u) rfl (by omega) hp hlv rfl (by simp only[xq];omega) (by simp only[xq];omega) (by omega);have h2':=M.Um h2;rw[qP] at h1 h2';have e0:kY []=[]:=rfl;rw[e0,List.nil_append] at h2';rw[qL,PD,Ns,M.ZR];have hne:=alj (k:=11) (op:=op) (n:=[u].length) (p:=p) (j:=0) hok he;have hsm:=ap7 (k:=11) (op:=op) (n:=[u].length) (p:=p) (j:=0) hs;generalize su 11 op [u].length p 0 u=K at *;cases K with
 |nil=>exact absurd rfl hne
 |cons b K=>have hsl:=La op;have hg:M.rV op (spell op) 0 b.kind b.text b.at_=some (EL (tok op) b):=Yk (tok op) b (by show(spell op).length<=_;omega) (by have:=hsm b zmf;omega);have i0:idx (kY (b::K)) 0=some (abl b):=rfl;have i1:(kY (b::K))[0]? =some (abl b):=rfl;simp(disch:=omega) only[jY,M.wZ,h2',ah,(mX op hI).2,(lH op hI).1,i0,i1,cT0,cT1,cT2,hg,h1,jT,Gg,Gi,Gj,Gl,Gm,Gn,fJ,adA,dL,yQ];have ha:VO 11 op [u].length x (aex op [b::K]) [Ku 11 op [u].length p 0 u]=nV [lI (bif EL (tok op) b then spell op++[32] else spell op),Ku 11 op [u].length p 0 u]:=rfl;rw[ha];cases EL (tok op) b<;>rfl
set_option maxHeartbeats 2000000 in
def aqc(t:Tn):CJ t->Rw t->Ue t->t.size<=1048576->DT t:=by
 refine Tn.ind (P:=λt=>CJ t->Rw t->Ue t->t.size<=1048576->DT t) ?_ t;intro k op x y ks ih hok he hsm hsz;intro w f p hf hp;have hc:=KZ hok;have he':=he;simp only[Rw,Tn.kind] at he';rw[Ue] at hsm;obtain⟨⟨hx,hy⟩,hss⟩:=hsm;rw[Tn.size] at hsz hf;have hkE:∀u,u∈ks->CJ u∧Rw u∧Ue u:=by intro u hu;obtain⟨i,hi⟩:=List.mem_iff_getElem?.1 hu;obtain⟨h1,h2⟩:=Xo hok he' hi;exact⟨h2,h1,zB hss hu⟩
 have ih':∀u,u∈ks->DT u:=by intro u hu;obtain⟨h1,h2,h3⟩:=hkE u hu;have:=iW hu;exact ih u hu h1 h2 h3 (by omega)
 obtain⟨g,rfl⟩:∃g,f=g+1:=⟨f - 1,by omega⟩
 have hlv:lvl k op≠0:=by have:=Pg he' hc;omega
 have hL:=aqa ih' (w:=w) (f:=g) (by omega) (by omega);have hK:∀(j:Nat) u,ks[j]? =some u->M.zf g k op x y (fE w ks) (j:Int) p.level p.lQ p.qp p.qw p.kU=some (Cm (Ku k op ks.length p j u)):=by intro j u hj;have:=iW (Au hj);exact atE ih' (w:=w) (f:=g) (p:=p) (x:=x) (y:=y) (k:=k) (op:=op) hj (by omega) hp hlv (by omega)
 simp only[Tn.kind,Tn.op,Tn.text,Tn.other,Tn.kids];rw[M.abS];have hk:k=1∨k=2∨k=3∨k=4∨k=5∨k=7∨k=8∨k=9∨k=10∨k=6∨k=11∨k=14∨k=13∨k=12∨k=15:=by omega
 rcases hk with rfl|rfl|rfl|rfl|rfl|rfl|rfl|rfl|rfl|rfl|rfl|rfl|rfl|rfl|rfl
 ·simp only[jY,M.fF,Int.reduceBEq,cO,dO,jT,ah,Gg,Gi,Gj,Gl,Gm,Gn,dL];rfl
 ·simp only[jY,M.fF,Int.reduceBEq,cO,dO,jT,ah,Gg,Gi,Gj,Gl,Gm,Gn,dL];rfl
 ·simp only[jY,M.fF,Int.reduceBEq,cO,dO,jT,ah,Gg,Gi,Gj,Gl,Gm,Gn,dL];rfl
 ·simp only[jY,M.fF,Int.reduceBEq,cO,dO,jT,ah,Gg,Gi,Gj,Gl,Gm,Gn,dL];rfl
 ·simp(disch:=omega) only[jY,M.fF,Int.reduceBEq,cO,dO,jT,ah,hL,Gg,Gi,Gj,Gl,Gm,Gn,fJ,adB,dL,yQ];rw[qL,MW hp (.inl rfl) (λj=>by simp[oG])];rfl
 ·simp(disch:=omega) only[jY,M.fF,Int.reduceBEq,cO,dO,jT,ah,hL,Gg,Gi,Gj,Gl,Gm,Gn,fJ,adB,dL,yQ];rw[qL,MW hp (.inl rfl) (λj=>by simp[oG])];rfl
 ·simp(disch:=omega) only[jY,M.fF,Int.reduceBEq,cO,dO,jT,ah,hL,Gg,Gi,Gj,Gl,Gm,Gn,fJ,adB,dL,yQ];rw[qL,MW hp (.inl rfl) (λj=>by simp[oG])];rfl
 ·obtain⟨u,rfl⟩:=Xx.1 (hc.one (by omega));have hI:I64 op:=by rcases hc.stp (by omega) with rfl|rfl<;>constructor<;>decide
  have k0:=hK 0 u rfl;rw[qP] at k0;simp only[jY,M.fF,Int.reduceBEq,cO,dO,jT,ah,(mX op hI).2,k0,Gg,Gi,Gj,Gl,Gm,Gn,fJ,adA,dL];rw[qL,PD];rfl
 ·obtain⟨u,rfl⟩:=Xx.1 (hc.one (by omega));have hI:I64 op:=by rcases hc.stp (by omega) with rfl|rfl<;>constructor<;>decide
  have k0:=hK 0 u rfl;rw[qP] at k0;simp only[jY,M.fF,Int.reduceBEq,cO,dO,jT,ah,(mX op hI).2,k0,Gg,Gi,Gj,Gl,Gm,Gn,fJ,adA,dL];rw[qL,PD];rfl
 ·obtain⟨u,rfl⟩:=Xx.1 (hc.one (by omega));have k0:=hK 0 u rfl;rw[qP] at k0;simp only[jY,M.fF,Int.reduceBEq,cO,dO,jT,ah,k0,Gg,Gi,Gj,Gl,Gm,Gn,fJ,adA,dL];rw[qL,PD];rfl
 ·obtain⟨u,rfl⟩:=Xx.1 (hc.one (by omega));obtain⟨h1,h2,h3⟩:=hkE u (by simp);rw[Zj] at hf hsz;have a1:=asz (x:=x) (ih' u (by simp)) (ax0 u h1 h2) h1 h2 h3 (w:=w) (f:=g) (p:=p) hc (by omega) hp (by omega);simp only[jY,M.fF,Int.reduceBEq,cO,dO,a1,ah,Gg,Gi,Gj,Gl,Gm,Gn,dL]
 ·obtain⟨u,v,z,rfl⟩:=Qp (hc.three rfl);have k0:=hK 0 u rfl;have k1:=hK 1 v rfl;have k2:=hK 2 z rfl;rw[qP] at k0;rw[Q8] at k1;rw[amw] at k2;simp only[jY,M.fF,Int.reduceBEq,cO,dO,jT,ah,k0,k1,k2,Gg,Gi,Gj,Gl,Gm,Gn,fJ,aNb,dL];rw[qL,aqb];rfl
 ·cases hm:Nat.blt 1 ks.length with
  |true=>simp(disch:=omega) only[jY,M.fF,Int.reduceBEq,cO,dO,gG,many,hm,jT,ah,hL,Gg,Gi,Gj,Gl,Gm,Gn,fJ,adB,dL,yQ];rw[qL,MW hp (.inr ⟨rfl,hm,by simp[lvl]⟩) (λj=>by simp[oG])];simp[VO,hm,ai8]
  |false=>
   have h1:ks.length=1:=by
    have h2:=hc.some_ (by omega);have h3:¬1<ks.length:=by rw[<-Nat.blt_eq,hm];simp
    omega
   obtain⟨u,rfl⟩:=Xx.1 h1;have k0:=hK 0 u rfl;rw[qP] at k0;simp(disch:=omega) only[jY,M.fF,Int.reduceBEq,cO,dO,gG,many,hm,jT,ah,k0,Gg,Gi,Gj,Gl,Gm,Gn,fJ,adA,dL,yQ];rw[qL,PD];rfl
 ·obtain⟨u,v,rfl⟩:=IY (hc.two (by omega));have hI:=aau (hc.bin rfl).1;have hsl:=La op;have k0:=hK 0 u rfl;have k1:=hK 1 v rfl;rw[qP] at k0;rw[Q8] at k1;rw[qL,afT]
  by_cases h99:op=99
  ·subst h99;simp only[jY,M.fF,Int.reduceBEq,cO,dO,jT,ah,k0,k1,Gg,Gi,Gj,Gl,Gm,Gn,fJ,adB,dL];rfl
  ·by_cases h45:op=45
   ·subst h45;simp(disch:=omega) only[jY,M.fF,Int.reduceBEq,cO,dO,jT,Ym,ah,k0,k1,(mX 45 hI).2,Gg,Gi,Gj,Gl,Gm,Gn,fJ,amx,acG,aav,dL,yQ];rfl
   ·by_cases h44:op=44
    ·subst h44;simp(disch:=omega) only[jY,M.fF,Int.reduceBEq,cO,dO,jT,Ym,ah,k0,k1,(mX 44 hI).2,Gg,Gi,Gj,Gl,Gm,Gn,fJ,amx,acG,aav,dL,yQ];rfl
    ·have e1:(op==99)=false:=by simpa using h99
     have e2:(op==45)=false:=by simpa using h45
     have e3:(op==44)=false:=by simpa using h44
     simp(disch:=omega) only[jY,M.fF,Int.reduceBEq,e1,e2,e3,cO,dO,jT,Ym,ah,k0,k1,(mX op hI).2,uq,mZ,xq,Gg,Gi,Gj,Gl,Gm,Gn,fJ,adB,dL,yQ];simp[VO,e1,e2,e3,wQ]
 ·obtain⟨u,v,rfl⟩:=IY (hc.two (by omega));have hI:I64 op:=by rcases hc.asg rfl with rfl|h<;>constructor<;>omega
  have hsl:=La op;have k0:=hK 0 u rfl;have k1:=hK 1 v rfl;rw[qP] at k0;rw[Q8] at k1;rw[qL,afT];simp(disch:=omega) only[jY,M.fF,Int.reduceBEq,cO,dO,jT,Ym,ah,k0,k1,(mX op hI).2,uq,mZ,xq,Gg,Gi,Gj,Gl,Gm,Gn,fJ,adB,dL,yQ];simp[VO,wQ]
structure Ex'(u:Tn):Prop where
 ok:CJ u
 e:Rw u
 sm:Ue u
 sz:u.size<=1048576
def afU{u:Tn}(h:Ex' u)(w:Bool){p:Ps}(hp:l9 p=true):M.iF u.kind u.op u.text u.other (fE w u.kids) p.level p.lQ p.qp p.qw p.kU=some (Cm (Ap u p)):=
 M.ZT (akf (aqc u h.ok h.e h.sm h.sz) (f:=5 * u.size+1) (Nat.le_refl _) hp h.sz)
def acK{u:Tn}(h:Ex' u)(w:Bool):M.kL u.kind u.op u.text u.other (fE w u.kids)=some (Cm (Je u)):=by have h1:=afU h w (p:=.top) rfl;simp only[Ps.top] at h1;simp only[jY,M.kL,M.L9,zi.1,ah,h1,Gg,Gi,Gj,Gl,Gm,Gn,dL];rfl
def acL{u:Tn}(h:u.kind=16∨Ex' u)(w:Bool):M.oN u.kind u.op u.text u.other (fE w u.kids)=some (Cm (OM u)):=by
 simp only[jY,M.oN,M.Mc,OM];rcases h with h|h
 ·rw[h];simp only[beq_self_eq_true,cO,jT,ah,Gg,Gi,Gj,Gl,Gm,Gn,dL]
 ·have h1:(u.kind==16)=false:=by have:=h.e;unfold Rw at this;rw[VZ];omega
  simp only[h1,dO,jT,acK h w,ah,Gg,Gi,Gj,Gl,Gm,Gn,fJ,adA,dL]
def ax3{ks:List Tn}(h:∀u,u∈ks->Ex' u)(hs:sizes ks<=1048575)(w:Bool):M.oq (fE w ks)=some (Cm (MQ .top ks)):=
 M.ZU (aqa (λu hu=>aqc u (h u hu).ok (h u hu).e (h u hu).sm (h u hu).sz) (f:=5 * sizes ks+2) (Nat.le_refl _) hs)
def alk{ks:List Tn}(h:∀u,u∈ks->Ex' u)(hs:sizes ks<=1048575)(w:Bool):M.pY (fE w ks)=some (Cm (MQ ⟨1,false,false,true,false⟩ ks)):=by
 have hkl:=lW ks;simp only[jY,M.pY,M.FN,M.DY,gG];rw[acI (ks:=ks) (p:=⟨1,false,false,true,false⟩) (by omega) (λj u L hj hL=> ?_) (λr=> ?_)]
 ·simp only[ah,ai7,Gg,Gi,Gj,Gl,Gm,Gn,acG,aav,dL];rfl
 ·have hjl:=(MG.1 hj).1;have hus:=iW (Au hj);obtain⟨c0,c1,c2,c3,c4⟩:=jO w u;have h1:=afU (h u (Au hj)) w (p:=⟨1,false,false,true,false⟩) rfl;have hw:i64.wrap ((j:Int)+1)=((j+1:Nat):Int):=by rw[aJ (by omega) (by omega)];omega
  simp only[jY,M.Gx,M.uH,Aq w hj,c0,c1,c2,c3,c4,ah,jT,Ym,M.oM,M.BP,h1,Gg,Gi,Gj,Gl,Gm,Gn,fJ,uQ,uq,mZ,xq,hw];rw[zdt (by omega),cO]
  by_cases h0:j=0
  ·subst h0;rw[uw (by omega),dO,dP (by omega),cO,dP (by omega),cO,if_pos rfl,CB];rfl
  ·rw[zdt (by omega),cO,dP (by omega),cO,dP (by omega),cO,dP (by omega),cO,dP (by omega),cO,if_neg h0,CB,Gp];rfl
 ·simp only[jY,M.Gx,M.uH];rw[uw (by omega),dO]
def aqd{ks:List Tn}(h:∀u,u∈ks->Ex' u)(wd:aC)(k op:Int)(x y:aC)(w:Bool):M.uO wd k op x y (fE w ks)=some (Cm (acs wd ks)):=by
 simp only[jY,M.uO,M.J3];cases ks with
 |nil=>rw[show(((fE w []).length:Int)==0)=true from rfl];simp only[cO,jT,ah,Gg,Gi,Gj,Gl,Gm,Gn,dL];rfl
 |cons u l=>
  have hi:idx (fE w (u::l)) 0=some (u.row w):=rfl;obtain⟨c0,c1,c2,c3,c4⟩:=jO w u;have e0:(((fE w (u::l)).length:Int)==0)=false:=by rw[VZ,gG,mZ];omega
  simp only[e0,dO,jT,ah,hi,c0,c1,c2,c3,c4,acL (.inr (h u zmf)) w,Gg,Gi,Gj,Gl,Gm,Gn,fJ,adA,dL];rfl
def aNc(a b c:Tn):M.dD ([yP false a]++[yP false b,yP false c])=some (Cm (nV [a,b,c])):=rfl
def aXT(a b c d e:Tn):M.dD ([yP false a]++[yP false b,yP false c]++[yP false d,yP false e])=some (Cm (nV [a,b,c,d,e])):=rfl
def aXU(a:Tn):M.dD [yP false a]=some (Cm (nV [a])):=rfl
def acM(w:Bool)(ks:List Tn)(n:Nat):(fE w ks).take n=fE w (ks.take n):=by simp[Qb,List.map_take]
def asA{ks:List Tn}(h:∀u,u∈ks->Ex' u)(hs:sizes ks<=1048575)(op:Int)(x y:aC)(hop:op=0∨op=1)(hy:y≠[]->1<=ks.length)(hyl:y.length<=1048576)(w:Bool):
  M.vk 21 op x y (fE w ks)=some (Cm (aj6 op y ks)):=by
 have hkl:=lW ks;have hst:cStr [D.str [112,114,105,110,116],D.str [112,114,105,110,116,102]] op.toNat=some (bif op==0 then[112,114,105,110,116] else[112,114,105,110,116,102]):=by rcases hop with rfl|rfl<;>rfl
 have hr:(decide (0<=op) && decide (op<2))=true:=by rcases hop with rfl|rfl<;>rfl
 simp only[jY,M.vk,M.Io,hst,hr,cO,ah,jT,aj6];have gt:∀L:List Tn,decide (((fE w L).length:Int)>0)=Nat.blt 0 L.length:=by intro L;rw[gG];exact Uc 0 L.length
 by_cases hy0:y=[]
 ·have e0:(y==[])=true:=by simpa using hy0
  have l1:=alk h hs w;simp only[e0,Bool.not_true,cO,dO,gt];cases Nat.blt 0 ks.length with
  |true=>simp only[cO,ah,l1,Gg,Gi,Gj,Gl,Gm,Gn,fJ,aNc,dL];rfl
  |false=>simp only[dO,ah,Gg,Gi,Gj,Gl,Gm,Gn,fJ,aXU,dL];rfl
 ·have e0:(y==[])=false:=by simpa using hy0
  have hn:=hy hy0;have hw:i64.wrap (((fE w ks).length:Int) - 1)=((ks.length - 1:Nat):Int):=by rw[gG,aJ (by omega) (by omega)];omega
  have hcut:cut (fE w ks) 0 ((ks.length - 1:Nat):Int)=some (fE w (ks.take (ks.length - 1))):=by rw[amu _ _ (by rw[gG];omega),acM]
  obtain⟨u,hu⟩:∃u,ks[ks.length - 1]? =some u:=⟨ks[ks.length - 1],by simp⟩
  have hnt:Cj ks (ks.length - 1)=u:=by rw[Cj,hu];rfl
  obtain⟨c0,c1,c2,c3,c4⟩:=jO w u;have he:=afU (h u (Au hu)) w (p:=⟨9,false,false,false,false⟩) rfl;have l1:=alk (ks:=ks.take (ks.length - 1)) (λv hv=>h v (List.mem_of_mem_take hv)) (by have:=take_size ks (ks.length - 1);omega) w;simp only[e0,Bool.not_false,cO,dO,hw,hcut,ah,gt,hnt];cases Nat.blt 0 (ks.take (ks.length - 1)).length with
  |true=>simp(disch:=omega) only[cO,ah,l1,Aq w hu,c0,c1,c2,c3,c4,he,uq,mZ,xq,Gg,Gi,Gj,Gl,Gm,Gn,fJ,aXT,dL,yQ];rfl
  |false=>simp(disch:=omega) only[cO,dO,ah,l1,Aq w hu,c0,c1,c2,c3,c4,he,uq,mZ,xq,Gg,Gi,Gj,Gl,Gm,Gn,fJ,aNc,dL,yQ];rfl
def akg:M.zG=some (Cm OH):=rfl
def aNd(a b c d e f g h:Tn):M.dD [yP false a,yP false b,yP false c,yP false d,yP false e,yP false f,yP false g,yP false h]=some (Cm (nV [a,b,c,d,e,f,g,h])):=rfl
def Zk:∀(L:List Tn) (x:Tn),Dt (L++[x])=Dt L++[OH,x]
 |[],x=>rfl
 |y::L,x=>by rw[Ru,Dt,Dt,Zk L x];rfl
def acN:∀(L:List Tn),(Dt L).length=2 * L.length
 |[]=>rfl
 |y::L=>by have:=acN L;rw[Dt,mZ,mZ,this,mZ];omega
def acO:∀(L:List Tn) (x:Tn),nX (L++[x])=nX L++[jd x]
 |[],x=>rfl
 |y::L,x=>by rw[Ru,nX,nX,acO L x];rfl
def ST(u:Tn):Prop:=∀(w:Bool) (f:Nat),4 * u.size<=f->M.sV f u.kind u.op u.text u.other (fE w u.kids)=some (Cm (jd u))
def BT(u:Tn):Prop:=∀(w:Bool) (f:Nat),4 * u.size<=f+2->M.oD f u.kind u.op u.text u.other (fE w u.kids)=some (Cm (jd u))
def asB{k op:Int}{x y:aC}{ks:List Tn}(ih:∀u,u∈ks->ST u){w:Bool}{f:Nat}(hf:4 * sizes ks+1<=f)(hu:sizes ks<=1048575):
  M.oD f k op x y (fE w ks)=some (Cm (aj3 (nX ks))):=by
 obtain⟨g,rfl⟩:∃g,f=g+1:=⟨f - 1,by omega⟩
 have hkl:=lW ks;have hloop:=iV (b:=M.BQ (M.sV g) (fE w ks) (ks.length:Int) 0 0 [] 0) (t:=((ks.length:Int),mQ false (Dt (nX ks)))) (λj=>((j:Int),mQ false (Dt (nX (ks.take j))))) ks.length
  (by
   intro j hj;obtain⟨u,hu'⟩:∃u,ks[j]? =some u:=⟨ks[j],by simp[hj]⟩
   have hus:=iW (Au hu');obtain⟨c0,c1,c2,c3,c4⟩:=jO w u;have h1:=ih u (Au hu') w g (by omega);have hl:=acN (nX (ks.take j));rw[Kv,PE] at hl;have hw:i64.wrap ((j:Int)+1)=((j+1:Nat):Int):=by rw[aJ (by omega) (by omega)];omega
   simp only[jY,M.BQ,M.wz,Aq w hu',c0,c1,c2,c3,c4,ah,akg,h1,Gg,Gi,Gj,Gl,Gm,Gn,fJ,uQ,mZ,xq,hw];rw[zdt (by omega),cO,dP (by omega),cO,dP (by omega),cO,jo hu',acO,Zk,CB];rfl)
  (by simp only[jY,M.BQ,M.wz];rw[uw (by omega),dO,List.take_length]) 0 (Nat.zero_le _)
 have zh:M.FP (M.sV g) (fE w ks) (ks.length:Int) 0 0 [] 0 (0,[])=some ((ks.length:Int),mQ false (Dt (nX ks))):=hloop;rw[M.ZX];simp only[jY,M.xg,gG,zh,ah,jT,ai7,akg,Gg,Gi,Gj,Gl,Gm,Gn,acG,fJ,amx,dL];rfl
set_option maxHeartbeats 2000000 in
def aqe(t:Tn):CJ t->isS t->Ue t->t.size<=1048576->ST t∧(t.kind=33->BT t):=by
 refine Tn.ind (P:=λt=>CJ t->isS t->Ue t->t.size<=1048576->ST t∧(t.kind=33->BT t)) ?_ t;intro k op x y ks ih hok hs hsm hsz;have hc:=KZ hok;simp only[isS,Tn.kind] at hs;rw[Ue] at hsm;obtain⟨⟨hx,hy⟩,hss⟩:=hsm;rw[Tn.size] at hsz;have kE:∀{j:Nat} {u:Tn},ks[j]? =some u->cls k op ks.length j=0->Ex' u:=by intro j u hj hcl;obtain⟨h1,h2⟩:=IV hok hj;rw[hcl] at h1;have:=iW (Au hj);exact⟨h2,h1,zB hss (Au hj),by omega⟩
 have kE3:∀{j:Nat} {u:Tn},ks[j]? =some u->cls k op ks.length j=3->u.kind=16∨Ex' u:=by
  intro j u hj hcl;obtain⟨h1,h2⟩:=IV hok hj;rw[hcl] at h1;have:=iW (Au hj);rcases h1 with h1|h1
  ·exact .inl h1
  ·exact .inr ⟨h2,h1,zB hss (Au hj),by omega⟩
 have kB:∀{j:Nat} {u:Tn},ks[j]? =some u->cls k op ks.length j=1->BT u:=by intro j u hj hcl;obtain⟨h1,h2⟩:=IV hok hj;rw[hcl] at h1;have h1':u.kind=33:=h1;have:=iW (Au hj);exact(ih u (Au hj) h2 (by constructor<;>omega) (zB hss (Au hj)) (by omega)).2 h1'
 have kS:k=33->∀u,u∈ks->ST u:=by intro e u hu;subst e;obtain⟨j,hj⟩:=List.mem_iff_getElem?.1 hu;obtain⟨h1,h2⟩:=ak7 hok hj (.inr (by simp[cls]));have:=iW hu;exact(ih u hu h2 h1 (zB hss hu) (by omega)).1
 have hB:k=33->BT (.mk k op x y ks):=by
  intro e w f hf;have h1:=asB (k:=k) (op:=op) (x:=x) (y:=y) (kS e) (w:=w) (f:=f) (by rw[Tn.size] at hf;omega) (by omega);have h2:jd (.mk k op x y ks)=aj3 (nX ks):=by rw[jd,e];rfl
  rw[h2];exact h1
 refine⟨λw f hf=> ?_,hB⟩;rw[Tn.size] at hf;obtain⟨g,rfl⟩:∃g,f=g+1:=⟨f - 1,by omega⟩
 have aE:∀(h:∀j,cls k op ks.length j=0),∀u,u∈ks->Ex' u:=by intro h u hu;obtain⟨j,hj⟩:=List.mem_iff_getElem?.1 hu;exact kE hj (h j)
 simp only[Tn.kind,Tn.op,Tn.text,Tn.other,Tn.kids];rw[M.abU];have hk:k=20∨k=21∨k=22∨k=25∨k=26∨k=23∨k=24∨k=27∨k=28∨k=29∨k=30∨k=31∨k=32∨k=33∨k=34:=by omega
 rcases hk with rfl|rfl|rfl|rfl|rfl|rfl|rfl|rfl|rfl|rfl|rfl|rfl|rfl|rfl|rfl
 ·obtain⟨u,rfl⟩:=Xx.1 (hc.one (by omega));obtain⟨c0,c1,c2,c3,c4⟩:=jO w u;have i0:idx (fE w [u]) 0=some (u.row w):=rfl;have h0:=acK (kE (j:=0) (u:=u) rfl (by simp[cls])) w;simp only[jY,M.fP,Int.reduceBEq,cO,dO,i0,c0,c1,c2,c3,c4,ah,h0,Gg,Gi,Gj,Gl,Gm,Gn,dL];rw[jd];rfl
 ·have h0:=asA (aE (λj=>by simp[cls])) (by omega) op x y (hc.prn rfl).1 (hc.prn rfl).2 hy w;simp only[jY,M.fP,Int.reduceBEq,cO,dO,ah,h0,Gg,Gi,Gj,Gl,Gm,Gn,dL];rw[jd];rfl
 ·simp only[jY,M.fP,Int.reduceBEq,cO,dO,ah,jT,Gg,Gi,Gj,Gl,Gm,Gn,dL];rw[jd];rfl
 ·simp only[jY,M.fP,Int.reduceBEq,cO,dO,ah,jT,Gg,Gi,Gj,Gl,Gm,Gn,dL];rw[jd];rfl
 ·simp only[jY,M.fP,Int.reduceBEq,cO,dO,ah,jT,Gg,Gi,Gj,Gl,Gm,Gn,dL];rw[jd];rfl
 ·have h0:=aqd (aE (λj=>by simp[cls])) [101,120,105,116] 23 op x y w;simp only[jY,M.fP,Int.reduceBEq,cO,dO,ah,h0,Gg,Gi,Gj,Gl,Gm,Gn,dL];rw[jd];rfl
 ·have h0:=aqd (aE (λj=>by simp[cls])) [114,101,116,117,114,110] 24 op x y w;simp only[jY,M.fP,Int.reduceBEq,cO,dO,ah,h0,Gg,Gi,Gj,Gl,Gm,Gn,dL];rw[jd];rfl
 ·have h0:=ax3 (aE (λj=>by simp[cls])) (by omega) w;rw[jd];cases ks with
  |nil=>rw[show fE w []=[] from rfl];simp(disch:=omega) only[jY,M.fP,Int.reduceBEq,cO,dO,xq,ah,jT,Gg,Gi,Gj,Gl,Gm,Gn,dL,yQ,show((((0:Nat):Int))==0)=true from rfl];rfl
  |cons u l=>
   have e0:(((fE w (u::l)).length:Int)==0)=false:=by rw[VZ,gG,mZ];omega
   simp(disch:=omega) only[jY,M.fP,Int.reduceBEq,cO,dO,e0,uq,mZ,xq,ah,h0,jT,Gg,Gi,Gj,Gl,Gm,Gn,fJ,adB,dL,yQ];rfl
 ·rw[jd];obtain⟨g',rfl⟩:∃g',g=g'+1:=⟨g - 1,by omega⟩
  rcases hc.cnd rfl with h2|h3
  ·obtain⟨u,v,rfl⟩:=IY h2;have hs2:=sz2 u v;have i0:idx (fE w [u,v]) 0=some (u.row w):=rfl;have i1:idx (fE w [u,v]) 1=some (v.row w):=rfl;obtain⟨c0,c1,c2,c3,c4⟩:=jO w u;obtain⟨d0,d1,d2,d3,d4⟩:=jO w v;have h0:=acK (kE (j:=0) (u:=u) rfl (by simp[cls])) w;have h1:=kB (j:=1) (u:=v) rfl (by simp[cls]) w g' (by omega);have hl:decide (((fE w [u,v]).length:Int)>2)=false:=rfl;simp only[jY,M.fP,Int.reduceBEq,cO,dO,M.Qi,M.rE,i0,i1,c0,c1,c2,c3,c4,d0,d1,d2,d3,d4,hl,ah,h0,h1,jT,Gg,Gi,Gj,Gl,Gm,Gn,fJ,amx,dL];rfl
  ·obtain⟨u,v,z,rfl⟩:=Qp h3;have hs3:=sz3 u v z;have i0:idx (fE w [u,v,z]) 0=some (u.row w):=rfl;have i1:idx (fE w [u,v,z]) 1=some (v.row w):=rfl;have i2:idx (fE w [u,v,z]) 2=some (z.row w):=rfl;obtain⟨c0,c1,c2,c3,c4⟩:=jO w u;obtain⟨d0,d1,d2,d3,d4⟩:=jO w v;obtain⟨e0,e1,e2,e3,e4⟩:=jO w z;have h0:=acK (kE (j:=0) (u:=u) rfl (by simp[cls])) w;have h1:=kB (j:=1) (u:=v) rfl (by simp[cls]) w g' (by omega);have h2:=kB (j:=2) (u:=z) rfl (by simp[cls]) w g' (by omega);have hl:decide (((fE w [u,v,z]).length:Int)>2)=true:=rfl;simp only[jY,M.fP,Int.reduceBEq,cO,dO,M.Qi,M.rE,i0,i1,i2,c0,c1,c2,c3,c4,d0,d1,d2,d3,d4,e0,e1,e2,e3,e4,hl,ah,h0,h1,h2,jT,Gg,Gi,Gj,Gl,Gm,Gn,fJ,amx,adB,dL];rfl
 ·rw[jd];obtain⟨u,v,rfl⟩:=IY (hc.two (by omega));have hs2:=sz2 u v;have i0:idx (fE w [u,v]) 0=some (u.row w):=rfl;have i1:idx (fE w [u,v]) 1=some (v.row w):=rfl;obtain⟨c0,c1,c2,c3,c4⟩:=jO w u;obtain⟨d0,d1,d2,d3,d4⟩:=jO w v;have h0:=acK (kE (j:=0) (u:=u) rfl (by simp[cls])) w;have h1:=kB (j:=1) (u:=v) rfl (by simp[cls]) w g (by omega);simp only[jY,M.fP,Int.reduceBEq,cO,dO,i0,i1,c0,c1,c2,c3,c4,d0,d1,d2,d3,d4,ah,h0,h1,jT,Gg,Gi,Gj,Gl,Gm,Gn,fJ,amx,dL];rfl
 ·rw[jd];obtain⟨u,v,rfl⟩:=IY (hc.two (by omega));have hs2:=sz2 u v;have i0:idx (fE w [u,v]) 0=some (u.row w):=rfl;have i1:idx (fE w [u,v]) 1=some (v.row w):=rfl;obtain⟨c0,c1,c2,c3,c4⟩:=jO w u;obtain⟨d0,d1,d2,d3,d4⟩:=jO w v;have h0:=kB (j:=0) (u:=u) rfl (by simp[cls]) w g (by omega);have h1:=acK (kE (j:=1) (u:=v) rfl (by simp[cls])) w;simp only[jY,M.fP,Int.reduceBEq,cO,dO,i0,i1,c0,c1,c2,c3,c4,d0,d1,d2,d3,d4,ah,h0,h1,jT,Gg,Gi,Gj,Gl,Gm,Gn,fJ,aNb,dL];rfl
 ·rw[jd];obtain⟨g',rfl⟩:∃g',g=g'+1:=⟨g - 1,by omega⟩
  obtain⟨u,v,z,q,rfl⟩:=afG (hc.four rfl);have hs4:sizes [u,v,z,q]=u.size+(v.size+(z.size+q.size)):=by simp[sizes]
  have i0:idx (fE w [u,v,z,q]) 0=some (u.row w):=rfl;have i1:idx (fE w [u,v,z,q]) 1=some (v.row w):=rfl;have i2:idx (fE w [u,v,z,q]) 2=some (z.row w):=rfl;have i3:idx (fE w [u,v,z,q]) 3=some (q.row w):=rfl;obtain⟨c0,c1,c2,c3,c4⟩:=jO w u;obtain⟨d0,d1,d2,d3,d4⟩:=jO w v;obtain⟨e0,e1,e2,e3,e4⟩:=jO w z;obtain⟨f0,f1,f2,f3,f4⟩:=jO w q;have h1:=acL (kE3 (j:=1) (u:=v) rfl (by simp[cls])) w;have h2:=acL (kE3 (j:=2) (u:=z) rfl (by simp[cls])) w;have h3:=kB (j:=3) (u:=q) rfl (by simp[cls]) w g' (by omega);rcases kE3 (j:=0) (u:=u) rfl (by simp[cls]) with h0|h0
  ·have n0:(u.kind !=16)=false:=by simp[h0]
   have ha:adu 31 op x y [u,v,z,q] (nX [u,v,z,q])=nV [lI [102,111,114,32,40],lI [],lI [59],OM v,lI [59],OM z,lI [41,32],jd q]:=by simp[adu,Cj,wQ,nX,h0]
   rw[ha];simp only[jY,M.fP,Int.reduceBEq,cO,dO,M.S9,M.wB,i0,i1,i2,i3,c0,c1,c2,c3,c4,d0,d1,d2,d3,d4,e0,e1,e2,e3,e4,f0,f1,f2,f3,f4,n0,ah,h1,h2,h3,jT,Gg,Gi,Gj,Gl,Gm,Gn,fJ,aNd,dL]
  ·have n0:(u.kind !=16)=true:=by have:=h0.e;unfold Rw at this;simp only[bne_iff_ne];omega
   have n1:(u.kind==16)=false:=by simpa using n0
   have ha:adu 31 op x y [u,v,z,q] (nX [u,v,z,q])=nV [lI [102,111,114,32,40],Ap u ⟨1,false,true,false,false⟩,lI [59],OM v,lI [59],OM z,lI [41,32],jd q]:=by simp[adu,Cj,wQ,nX,n1]
   have he:=afU h0 w (p:=⟨1,false,true,false,false⟩) rfl;rw[ha];simp only[jY,M.fP,Int.reduceBEq,cO,dO,M.S9,M.wB,i0,i1,i2,i3,c0,c1,c2,c3,c4,d0,d1,d2,d3,d4,e0,e1,e2,e3,e4,f0,f1,f2,f3,f4,n0,he,ah,h1,h2,h3,jT,Gg,Gi,Gj,Gl,Gm,Gn,fJ,aNd,dL]
 ·rw[jd];obtain⟨u,rfl⟩:=Xx.1 (hc.one (by omega));have hs1:=Zj u;have i0:idx (fE w [u]) 0=some (u.row w):=rfl;obtain⟨c0,c1,c2,c3,c4⟩:=jO w u;have h0:=kB (j:=0) (u:=u) rfl (by simp[cls]) w g (by omega);simp(disch:=omega) only[jY,M.fP,Int.reduceBEq,cO,dO,uq,mZ,xq,i0,c0,c1,c2,c3,c4,ah,h0,jT,Gg,Gi,Gj,Gl,Gm,Gn,fJ,adA,dL,yQ];rfl
 ·have h0:=hB rfl w g (by rw[Tn.size];omega);simp only[Tn.kind,Tn.op,Tn.text,Tn.other,Tn.kids] at h0;simp only[jY,M.fP,Int.reduceBEq,cO,dO,ah,h0,Gg,Gi,Gj,Gl,Gm,Gn,dL]
 ·simp only[jY,M.fP,Int.reduceBEq,cO,dO,ah,jT,Gg,Gi,Gj,Gl,Gm,Gn,dL];rw[jd];rfl
structure Bk(u:Tn):Prop where
 ok:CJ u
 k:u.kind=33
 sm:Ue u
 sz:u.size<=1048576
def aqf{u:Tn}(h:Bk u)(w:Bool):M.iY u.kind u.op u.text u.other (fE w u.kids)=some (Cm (jd u)):=by have hk:=h.k;exact M.Yd ((aqe u h.ok (by constructor<;>omega) h.sm h.sz).2 hk w (4 * u.size) (by omega))
def Ex'.kne{u:Tn}(h:Ex' u):(u.kind==33)=false:=by have:=h.e;unfold Rw at this;rw[VZ];omega
def Bk.keq{u:Tn}(h:Bk u):(u.kind==33)=true:=by rw[h.k];rfl
def aeE(b:Bool)(u:Tn):EM [u] b=bif u.kind==33 then(bif b then[jd u] else[lI [32],jd u]) else(bif b then[Je u] else[lI [44,32],Je u]):=by rw[EM,EM,List.append_nil]
def VT:∀(L:List Tn) (b:Bool) (x:Tn),EM (L++[x]) b=EM L b++EM [x] (L.isEmpty && b)
 |[],b,x=>rfl
 |y::L,b,x=>by rw[Ru,EM,EM,VT L false x,Bool.and_false,List.isEmpty_cons,Bool.false_and,Gp]
def Yo:∀(L:List Tn) (b:Bool),(EM L b).length<=2 * L.length
 |[],b=>Nat.le_refl _
 |y::L,b=>by have:=Yo L false;rw[EM,uq,mZ];cases(y.kind==33)<;>cases b<;>simp only[cO,dO,mZ,xq]<;>omega
def ax4{ks:List Tn}(h:∀u,u∈ks->Bk u∨Ex' u)(hn:ks.length<=1000)(k op:Int)(x y:aC)(w:Bool):M.uP k op x y (fE w ks)=some (Cm (nV (EM ks true))):=by
 have hloop:=iV (b:=M.D9 (fE w ks) (ks.length:Int) 0 0 [] 0) (t:=((ks.length:Int),mQ false (EM ks true))) (λj=>((j:Int),mQ false (EM (ks.take j) true))) ks.length
  (by
   intro j hj;obtain⟨u,hu'⟩:∃u,ks[j]? =some u:=⟨ks[j],by simp[hj]⟩
   obtain⟨c0,c1,c2,c3,c4⟩:=jO w u;have hl:=Yo (ks.take j) true;rw[PE] at hl;have hw:i64.wrap ((j:Int)+1)=((j+1:Nat):Int):=by rw[aJ (by omega) (by omega)];omega
   have he:(ks.take j).isEmpty=decide (j=0):=by
    cases j with
    |zero=>rfl
    |succ j=>cases ks with
     |nil=>simp at hj
     |cons a l=>rfl
   simp only[jY,M.D9,M.yK,Aq w hu',c0,c1,c2,c3,c4,ah];rw[zdt (by omega),cO,jo hu',VT,he,Bool.and_true,CB,aeE];rcases h u (Au hu') with hb|hb
   ·have h1:=aqf hb w;rw[hb.keq]
    by_cases h0:j=0
    ·subst h0;simp(disch:=omega) only[cO,dO,jT,h1,ah,Gg,Gi,Gj,Gl,Gm,Gn,fJ,uQ,mZ,xq,hw,dP];rfl
    ·rw[zdt (show(j:Int)>0 by omega),uw h0];simp(disch:=omega) only[cO,dO,jT,h1,ah,Gg,Gi,Gj,Gl,Gm,Gn,fJ,uQ,mZ,xq,hw,dP];rfl
   ·have h1:=acK hb w;rw[hb.kne]
    by_cases h0:j=0
    ·subst h0;simp(disch:=omega) only[cO,dO,jT,h1,ah,Gg,Gi,Gj,Gl,Gm,Gn,fJ,uQ,mZ,xq,hw,dP];rfl
    ·rw[zdt (show(j:Int)>0 by omega),uw h0];simp(disch:=omega) only[cO,dO,jT,h1,ah,Gg,Gi,Gj,Gl,Gm,Gn,fJ,uQ,mZ,xq,hw,dP];rfl)
  (by simp only[jY,M.D9,M.yK];rw[uw (by omega),dO,List.take_length]) 0 (Nat.zero_le _)
 have zh:M.IB (fE w ks) (ks.length:Int) 0 0 [] 0 (0,[])=some ((ks.length:Int),mQ false (EM ks true)):=hloop;simp only[jY,M.uP,M.J8,gG,zh,ah,ai7,Gg,Gi,Gj,Gl,Gm,Gn,dL]
def acP:∀(L:List (aC)) (b:Bool) (x:aC),EN (L++[x]) b=EN L b++(bif L.isEmpty && b then x else[44,32]++x)
 |[],b,x=>by simp[EN]
 |y::L,b,x=>by rw[Ru,EN,EN,acP L false x,Bool.and_false,List.isEmpty_cons,Bool.false_and,Gp]
def TF:∀(l:List (aC)),joinL [44,32] l=EN l true∧∀x,[44,32]++joinL [44,32] (x::l)=EN (x::l) false
 |[]=>⟨rfl,λx=>by simp[joinL,EN]⟩
 |y::l=>by
  have ih:=(TF l).2;constructor
  ·cases l with
   |nil=>simp[joinL,EN]
   |cons z l=>have h1:=(TF l).2 z;rw[joinL,h1];rfl
  ·intro x;rw[joinL,ih y];simp[EN]
def Uf{N:Nat}:∀(l:List (aC)) (b:Bool),(∀x,x∈l->x.length<=N)->(EN l b).length<=(N+2) * l.length
 |[],b,_=>by simp[EN]
 |x::l,b,h=>by have h1:=Uf l false (λy hy=>h y (zmm _ hy));have h2:=h x zmf;rw[EN,uq,mZ,Nat.mul_add,Nat.mul_one];cases b<;>simp only[cO,dO,uq,mZ,xq]<;>omega
def aeF:∀l:List (aC),ajU (encS l)=some l
 |[]=>rfl
 |x::l=>by have h:=aeF l;unfold encS at *;rw[Ug,ajU];simp only[h]
def alm{N:Nat}:∀(l:List (aC)),(∀x,x∈l->x.length<=N)->agF l<=N * l.length
 |[],_=>Nat.le_refl _
 |x::l,h=>by have h1:=alm l (λy hy=>h y (zmm _ hy));have h2:=h x zmf;rw[agF,mZ,Nat.mul_add,Nat.mul_one];omega
def ax5{ks:List Tn}(h:∀u,u∈ks->u.text.length<=1048576)(h0:1<=ks.length)(hn:ks.length<=1000)(k op:Int)(x y:aC)(hx:x.length<=1048576)(w:Bool):M.Bg k op x y (fE w ks)=some (Rk x ks)∧(Rk x ks).length<=1060000000:=by
 obtain⟨A,hA⟩:∃A,ks.take (ks.length - 1)=A:=⟨_,rfl⟩
 have hAl:A.length+1=ks.length:=by rw[<-hA,PE];omega
 have hAm:∀u,u∈A->u.text.length<=1048576:=λu hu=>h u (List.mem_of_mem_take (hA ▸ hu))
 have hmm:∀z,z∈A.map Tn.text->z.length<=1048576:=by intro z hz;obtain⟨u,hu,rfl⟩:=List.mem_map.1 hz;exact hAm u hu
 have hloop:=iV (b:=M.F5 (fE w A) (A.length:Int) k op x y (fE w ks)) (t:=((A.length:Int),encS (A.map Tn.text))) (λj=>((j:Int),encS ((A.take j).map Tn.text))) A.length
  (by
   intro j hj;obtain⟨u,hu'⟩:∃u,A[j]? =some u:=⟨A[j],by simp[hj]⟩
   obtain⟨c0,c1,c2,c3,c4⟩:=jO w u;have hl:(encS ((A.take j).map Tn.text)).length=j:=by simp[encS];omega
   have hw:i64.wrap ((j:Int)+1)=((j+1:Nat):Int):=by rw[aJ (by omega) (by omega)];omega
   simp only[jY,M.F5,M.Aj,Aq w hu',c0,c1,c2,c3,c4,ah,hl,mZ,xq,hw];rw[zdt (by omega),cO,dP (by omega),cO,dP (by omega),cO,jo hu',List.map_append,encS,encS,List.map_append];rfl)
  (by simp only[jY,M.F5,M.Aj];rw[uw (by omega),dO,List.take_length]) 0 (Nat.zero_le _)
 have zh:M.J9 (fE w A) (A.length:Int) k op x y (fE w ks) (0,[])=some ((A.length:Int),encS (A.map Tn.text)):=hloop;have hw:i64.wrap (((fE w ks).length:Int) - 1)=((ks.length - 1:Nat):Int):=by rw[gG,aJ (by omega) (by omega)];omega
 have hcut:cut (fE w ks) 0 ((ks.length - 1:Nat):Int)=some (fE w A):=by rw[amu _ _ (by rw[gG];omega),acM,hA]
 have hs:=alm _ hmm;rw[List.length_map] at hs;have hj:M.strings_Join (encS (A.map Tn.text)) [44,32]=some (EN (A.map Tn.text) true):=by simp only[M.strings_Join,aeF];rw[dP (by rw[List.length_map];simp only[mZ,xq];omega),cO,(TF _).1]
 have hjl:=Uf _ true hmm;rw[List.length_map] at hjl;constructor
 ·rw[gG] at hw;simp only[M.Bg,M.MB,gG,hw,hcut,ah,zh,hj];rw[dP (by omega),cO,dP (by simp only[uq,mZ,xq];omega),cO,dP (by simp only[uq,mZ,xq];omega),cO,dP (by simp only[uq,mZ,xq];omega),cO,Rk,hA,Gp]
 ·rw[Rk,hA];simp only[uq,mZ,xq];omega
def isI(t:Tn):Prop:=(40<=t.kind∧t.kind<=44)∨t.kind=34
section
variable {k op:Int} {x y:aC} {ks:List Tn} (hok:CJ (.mk k op x y ks)) (hss:adz ks) (hsz:sizes ks<=1048576)
include hok hss hsz
theorem ax6{j:Nat}{u:Tn}(hj:ks[j]? =some u)(hc:cls k op ks.length j=1):Bk u:=by obtain⟨h1,h2⟩:=IV hok hj;rw[hc] at h1;have:=iW (Au hj);exact⟨h2,h1,zB hss (Au hj),by omega⟩
theorem aXV{j:Nat}{u:Tn}(hj:ks[j]? =some u)(hc:cls k op ks.length j=0):Ex' u:=by obtain⟨h1,h2⟩:=IV hok hj;rw[hc] at h1;have:=iW (Au hj);exact⟨h2,h1,zB hss (Au hj),by omega⟩
theorem aNe(hk:k=42∨k=43):∀u,u∈ks->Bk u∨Ex' u:=by
 intro u hu;obtain⟨j,hj⟩:=List.mem_iff_getElem?.1 hu;have:cls k op ks.length j=1∨cls k op ks.length j=0:=by
  rcases hk with rfl|rfl
  ·have e:cls 42 op ks.length j=if op=2∨(op=3∧j+1=ks.length) then 1 else 0:=by simp[cls]
   rw[e];split
   ·exact .inl rfl
   ·exact .inr rfl
  ·have e:cls 43 op ks.length j=if j=2 then 1 else 0:=by simp[cls]
   rw[e];split
   ·exact .inl rfl
   ·exact .inr rfl
 rcases this with h|h
 ·exact .inl (ax6 hok hss hsz hj h)
 ·exact .inr (aXV hok hss hsz hj h)
end
def acQ{t:Tn}(h:Ue t):t.text.length<=1048576:=by cases t;exact h.1.1
def ai9{ks:List Tn}(h:adz ks):∀u,u∈ks->u.text.length<=1048576:=λu hu=>acQ (zB h hu)
def Bk.size{u:Tn}(h:Bk u):(jd u).size+2<=40 * u.size:=by have hk:=h.k;exact QY u h.ok (by constructor<;>omega)
def VU:∀(L:List Tn) (b:Bool),(∀u,u∈L->Bk u∨Ex' u)->sizes (EM L b)<=40 * sizes L
 |[],b,_=>Nat.le_refl _
 |u::l,b,h=>by
  have h1:=VU l false (λv hv=>h v (zmm _ hv));have h2:=u.wV;rw[EM,nY,sizes];rcases h u zmf with hb|hb
  ·have h3:=hb.size;rw[hb.keq,cO];cases b<;>simp only[cO,dO,sizes,gV]<;>omega
  ·have h3:=mG u .top;rw[hb.kne,dO];cases b<;>simp only[cO,dO,sizes,gV,Je]<;>omega
def aqg{ks:List Tn}(h:1<=ks.length):∃u,ks[ks.length - 1]? =some u∧Cj ks (ks.length - 1)=u:=by
 have:ks.length - 1<ks.length:=by omega
 refine⟨ks[ks.length - 1],by simp[this], ?_⟩;simp[Cj,this]
def VW{t:Tn}(hok:CJ t)(hi:isI t)(hs:Ue t)(hz:t.size<=1048576):
  (∃u,(t.kind=40∨t.kind=41)∧t.kids=[u]∧Bk u)∨((t.kind=42∨t.kind=43)∧t.kids.length<=7∧∀u,u∈t.kids->Bk u∨Ex' u)∨
  (t.kind=44∧1<=t.kids.length∧t.kids.length<=7∧∃u,t.kids[t.kids.length - 1]? =some u∧Cj t.kids (t.kids.length - 1)=u∧Bk u)∨t.kind=34:=by
 have hss:=Xt hs;have hks:=t.wV;obtain⟨k,op,x,y,ks⟩:=t;simp only[Tn.kids,Tn.kind] at *;have hc:=KZ hok;unfold isI at hi;simp only[Tn.kind] at hi;rcases hi with hi|hi
 ·have hk:(k=40∨k=41)∨(k=42∨k=43)∨k=44:=by omega
  rcases hk with hk|hk|hk
  ·obtain⟨u,rfl⟩:=Xx.1 (hc.one (by omega));refine .inl ⟨u,hk,rfl,ax6 hok hss (by omega) (j:=0) rfl ?_⟩;rcases hk with rfl|rfl<;>simp[cls]
  ·exact .inr (.inl ⟨hk,hc.few (by omega) (by omega),aNe hok hss (by omega) hk⟩)
  ·have h1:=hc.some_ (by omega);obtain⟨u,h2,h3⟩:=aqg h1;refine .inr (.inr (.inl ⟨hk,h1,hc.few (by omega) (by omega),u,h2,h3,ax6 hok hss (by omega) h2 ?_⟩));subst hk;simp[cls];omega
 ·exact .inr (.inr (.inr hi))
def acR{t:Tn}(hok:CJ t)(hi:isI t)(hs:Ue t)(hz:t.size<=1048576):(itemD t).size+1<=40 * t.size:=by
 have hks:=t.wV;unfold itemD;rcases VW hok hi hs hz with⟨u,hk,hu,hb⟩|⟨hk,hn,hb⟩|⟨hk,h1,h7,u,hu,hn,hb⟩|hk
 ·have h2:=hb.size;rw[hu,sizes,sizes] at hks;rw[hu];rcases hk with hk|hk<;>rw[hk]<;>simp only[Int.reduceBEq,cO,dO,nM,sizes,gV,Cj,List.getElem?_cons_zero,Option.getD_some]<;>omega
 ·have h2:=VU _ true hb;rcases hk with hk|hk<;>rw[hk]<;>simp only[Int.reduceBEq,cO,dO,Bool.true_or,Bool.or_true,nM]<;>omega
 ·have h2:=hb.size;have h3:=iW (Au hu);rw[hk,hn];simp only[Int.reduceBEq,cO,dO,Bool.or_false,nM,sizes,gV];omega
 ·have h2:=QY t hok (by constructor<;>omega);rw[hk];simp only[Int.reduceBEq,dO,Bool.or_false];omega
def amy{ks:List Tn}(h:∀u,u∈ks->u.text.length<=1048576)(h0:1<=ks.length)(hn:ks.length<=7){x:aC}(hx:x.length<=1048576):(Rk x ks).length<=10000000:=by
 have hmm:∀z,z∈(ks.take (ks.length - 1)).map Tn.text->z.length<=1048576:=by intro z hz;obtain⟨u,hu,rfl⟩:=List.mem_map.1 hz;exact h u (List.mem_of_mem_take hu)
 have h1:=Uf _ true hmm;rw[List.length_map,PE] at h1;rw[Rk];simp only[uq,mZ,xq];have h2:min (ks.length - 1) ks.length<=6:=by omega
 have h3:(1048576+2) * min (ks.length - 1) ks.length<=(1048576+2) * 6:=Nat.mul_le_mul_left _ h2;omega
def ax7{t:Tn}(hok:CJ t)(hi:isI t)(hs:Ue t)(hz:t.size<=1048576)(w:Bool):M.yI t.kind t.op t.text t.other (fE w t.kids)=some (Cm (itemD t)):=by
 have hss:=Xt hs;simp only[jY,M.yI,M.Ko,itemD];rcases VW hok hi hs hz with⟨u,hk,hu,hb⟩|⟨hk,hn,hb⟩|⟨hk,h1,h7,u,hu,hn,hb⟩|hk
 ·have h2:=aqf hb w;obtain⟨c0,c1,c2,c3,c4⟩:=jO w u;have i0:idx (fE w [u]) 0=some (u.row w):=rfl;have e0:Cj [u] 0=u:=rfl;rw[hu];rcases hk with hk|hk<;>rw[hk]<;>simp only[Int.reduceBEq,cO,dO,e0,i0,c0,c1,c2,c3,c4,h2,jT,ah,Gg,Gi,Gj,Gl,Gm,Gn,fJ,adA,dL]
 ·have h2:=ax4 hb (by omega) t.kind t.op t.text t.other w;rcases hk with hk|hk<;>rw[hk] at h2⊢<;>simp only[Int.reduceBEq,cO,dO,Bool.true_or,Bool.or_true,h2,ah,Gg,Gi,Gj,Gl,Gm,Gn,dL]
 ·have h2:=aqf hb w;have h3:=ax5 (ai9 hss) h1 (by omega) t.kind t.op t.text t.other (acQ hs) w;obtain⟨c0,c1,c2,c3,c4⟩:=jO w u;have hw:i64.wrap (((fE w t.kids).length:Int) - 1)=((t.kids.length - 1:Nat):Int):=by rw[gG,aJ (by omega) (by omega)];omega
  have hr:((Rk t.text t.kids).length+1).ble 9223372036854775807=true:=dP (by have:=h3.2;omega);rw[hk] at h3⊢;rw[hn];simp only[Int.reduceBEq,cO,dO,Bool.or_false,h3.1,hr,hw,Aq w hu,c0,c1,c2,c3,c4,h2,jT,ah,Gg,Gi,Gj,Gl,Gm,Gn,fJ,adA,dL]
 ·have h2:=M.ZY ((aqe t hok (by constructor<;>omega) hs hz).1 w (4 * t.size) (Nat.le_refl _));rw[hk] at h2⊢;simp only[Int.reduceBEq,dO,Bool.or_false,h2,ah,Gg,Gi,Gj,Gl,Gm,Gn,dL]
def TG:∀(L:List Tn) (x:Tn),EO (L++[x])=EO L++[itemD x,OH]
 |[],x=>rfl
 |y::L,x=>by rw[Ru,EO,EO,TG L x];rfl
def VX:∀(L:List Tn),(EO L).length=2 * L.length
 |[]=>rfl
 |y::L=>by have:=VX L;rw[EO,mZ,mZ,this,mZ];omega
structure It(u:Tn):Prop where
 ok:CJ u
 i:isI u
 sm:Ue u
 sz:u.size<=1048576
def Zl:∀{L:List Tn},(∀u,u∈L->It u)->sizes (EO L)<=40 * sizes L
 |[],_=>Nat.le_refl _
 |u::l,h=>by have h1:=Zl (λv hv=>h v (zmm _ hv));have hu:=h u zmf;have h2:=acR hu.ok hu.i hu.sm hu.sz;rw[EO,sizes,sizes,sizes,Xp];omega
def aXW{t:Tn}(hok:CJ t)(hk:t.kind=45)(hs:Ue t)(hz:t.size<=1048576):∀u,u∈t.kids->It u:=by
 intro u hu;have hss:=Xt hs;have hks:=t.wV;obtain⟨k,op,x,y,ks⟩:=t;simp only[Tn.kids,Tn.kind] at *;obtain⟨j,hj⟩:=List.mem_iff_getElem?.1 hu;obtain⟨h1,h2⟩:=IV hok hj;have hc:cls k op ks.length j=5:=by subst hk;simp[cls]
 rw[hc] at h1;have:=iW hu;exact⟨h2,h1,zB hss hu,by omega⟩
def afV(s:aC)(h0:s≠[])(hs:s.length<=4000000):M.qW s 0=some ((opF s Qj 0 0 0).1,((acr s Qj 0:Nat):Int)):=by
 have hl:Qj.length=39:=rfl;have hn:1<=s.length:=by cases s with|nil=>exact absurd rfl h0|cons=>simp
 simp only[M.qW,M.O4,M.NK,aiP,ah];rw[ala s Qj (λi g k m hg hm=> ?_) (λk m=> ?_) ap3,ah,aas]
 ·have hi:=(MG.1 hg).1;rw[hl] at hi;have hg2:=ap3 g (Au hg);have hw1:i64.wrap (30+(i:Int))=30+(i:Int):=aJ (by omega) (by omega);have hw2:i64.wrap ((i:Int)+1)=(i:Int)+1:=aJ (by omega) (by omega);have hw3:i64.wrap ((s.length:Int) - 0)=(s.length:Int):=by rw[aJ (by omega) (by omega)];omega
  have hw4:i64.wrap (0+(g.length:Int))=(g.length:Int):=by rw[aJ (by omega) (by omega)];omega
  simp only[M.Oy,M.Ey,MO,fQ,Tc,Yq,hg,Qq,ah,cS0,hw1,hw2,hw3,hw4,hl];rw[zdt (show((i:Int))<((39:Nat):Int) by omega),cO,zdt (show(0:Int)>=0 by omega),cO,zdt (show(0:Int)<=(s.length:Int) by omega),cO]
  by_cases hq:g.length<=s.length
  ·rw[zdt (by omega),cO,amu s g.length hq,ah,pre_eq g s hq,Uc];cases Nat.blt m g.length<;>cases g.isPrefixOf s<;>rfl
  ·rw[uw (by omega),dO,aeB g s (by omega),Bool.and_false];rfl
 ·simp only[M.Oy,M.Ey,MO];rw[uw (by omega),dO]
def Yp(a b:Tk)(ha:a.text.length<=2000000)(hb:b.text.length<=2000000):M.rP a.kind a.text a.at_ b.kind b.text b.at_=some (EL a b):=by
 rw[Zi];simp only[M.rP,M.HY]
 by_cases h1:a.text=[]
 ·rw[show(a.text==[])=true by simpa using h1,cO,cO]
 ·rw[show(a.text==[])=false by simpa using h1,dO,dO]
  by_cases h2:b.text=[]
  ·rw[show(b.text==[])=true by simpa using h2,cO,cO]
  ·obtain⟨c,hc,hc'⟩:=ai5 h1 ha;obtain⟨d,hd,hd'⟩:=alb h2;have hop:=afV (a.text++b.text) (by simp[h1]) (by simp only[uq];omega);rw[show(b.text==[])=false by simpa using h2,dO,dO,hc',hd'];have hnn:∀(c:Bool) (r:Bool),some (bif !c then false else r)=bif c then some r else some false:=by intro c r;cases c<;>rfl
   simp only[hc,hd,ah,alc,MC,aW,hop,Uc,ge_iff_le,VR,afP,Qo,hnn,dP (show a.text.length+b.text.length<=9223372036854775807 by omega),cO]
def room{n:Nat}(h:n<=1000000000):n.ble 140737488355328=true:=dP (by omega)
def Kz{n:Nat}(h:n<=1000000000):(n * 32).ble 140737488355328=true:=dP (by omega)
def TI{k op:Int}{x y:aC}{r:au}{j:Nat}{p:Ps}(he:1<=k∧k<=15)(hc:Cnt k op y r.length)(hj:j<r.length)(hr:r.length<=1048576):
  M.fH k op x y r (j:Int) p.level p.lQ p.qp p.qw p.kU=some (eP k op r.length j p).zo:=by
 have hb:Nat.blt j r.length=true:=by rw[Nat.blt_eq];exact hj
 have hl:=Pg he hc;have hz:(lvl k op==0)=false:=by rw[VZ];omega
 have ho:=acu op;have h15:(wP op==15)=false:=by rw[VZ];omega
 have h2:k=12->j=0∨j=1:=λe=>by have:=hc.two (by omega);omega
 have hk:k=1∨k=2∨k=3∨k=4∨k=5∨k=6∨k=7∨k=8∨k=9∨k=10∨k=11∨k=13∨k=14∨k=15∨k=12:=by omega
 simp only[M.fH,M.LM,(Xr p).2,aW,ak9 j r.length hr,hb,(Q7 k op x y r).2,hz,ake,zi.2,ah,many,nb0,gt0,eP,Bool.not_true,Bool.false_or,dO];cases l9 p with
 |false=>rfl
 |true=>
  rcases hk with rfl|rfl|rfl|rfl|rfl|rfl|rfl|rfl|rfl|rfl|rfl|rfl|rfl|rfl|rfl
  case inr.inr.inr.inr.inr.inr.inr.inr.inr.inr.inr.inr.inr.inr=>have hl12:lvl 12 op=wP op:=rfl;rw[hl12,h15];rcases h2 rfl with rfl|rfl<;>cases p.kU<;>simp[Ps.zo,QX,show Nat.beq 1 0=false from rfl]
  all_goals(cases p.kU<;>cases hq:Nat.beq j 0<;>cases hm:Nat.blt 1 r.length<;>simp[lvl,Ps.zo,Ps.top,QX,hq,hm])
def PS(t:Tn):Prop:=∀(o:Bool) (f:Nat) (p:Ps) (l:List Nd) (b:Nat),l.length<=1048576->Lies l b t->5 * t.size<=f->l9 p=true->
 M.zS f (dF o l) false ((b+sizes t.kids:Nat):Int) p.level p.lQ p.qp p.qw p.kU=some (kY (tX t p))
def aNf{u:Tn}(hS:PS u){o:Bool}{f:Nat}{p:Ps}{l:List Nd}{b:Nat}(hl:l.length<=1048576)(h:Lies l b u)(hf:5 * u.size+1<=f)(hp:l9 p=true):
  M.rX f (dF o l) false ((b+sizes u.kids:Nat):Int) p.level p.lQ p.qp p.qw p.kU=some (kY (UR u p)):=by
 obtain⟨g,rfl⟩:∃g,f=g+1:=⟨f - 1,by omega⟩
 have hlt:=h.lt;have h1:=hS o g p l b hl h (by omega) hp;have h2:=hS o g .top l b hl h (by omega) rfl;have hb:=oQ u .top;have hr:idx (dF o l) ((b+sizes u.kids:Nat):Int)=some (MN o ⟨u.kind,u.op,u.text,u.other,ends u.kids b⟩):=by rw[fQ,nN,Lies.root' h];rfl
 have e1:=(lH 32 (by constructor<;>decide)).2;have e2:=(lH 33 (by constructor<;>decide)).2;simp only[Ps.top] at h2 hb;rw[M.afp];simp only[jY,M.Fp,hr,ah,Gf,G7,GL,G8,Ef,(aar u.kind u.op u.text u.other _ p).2,Bool.not_false,cO,dO,UR];cases fits u.kind u.op p with
 |true=>simp only[cO,h1,ah,dU]
 |false=>simp(disch:=omega) only[dO,e1,e2,zi.2,ah,h2,uS,<-lT,iJ,uq,OJ,mZ,xq,room,Kz,dU,cO,Ps.top];rfl
def aeG:∀(L:List (List Tk)) (b:Bool) (x:List Tk),Dq b (L++[x])=Dq b L++(bif L.isEmpty && b then x else tok 36::x)
 |[],b,x=>by cases b<;>simp[Dq]
 |y::L,b,x=>by rw[Ru,Dq,Dq,aeG L false x];simp
def ES(ks:List Tn):List (List Tk):=ks.map λu=>UR u .top
def aeH:∀ks:List Tn,Pz (ES ks)+2 * ks.length<=8 * sizes ks
 |[]=>by simp[ES,Pz,sizes]
 |t::ts=>by have h1:=aeD t .top;have h2:=aeH ts;simp only[ES,Ug,Pz,sizes,mZ] at h2⊢;omega
def VY(ks:List Tn)(b:Bool):(Dq b (ES ks)).length<=9 * sizes ks:=by
 have h1:=TA (ES ks) b;have h2:=aeH ks;have h3:(ES ks).length=ks.length:=by simp[ES]
 omega
def acS{k op:Int}{n:Nat}{p:Ps}(ht:∀j,oG k j=false)(hq:∀j,j<n->eP k op n j p=.top):∀(ts:List Tn) (j:Nat),j+ts.length=n->jF k op n p ts j=ES ts
 |[],j,_=>by rw[jF];rfl
 |t::ts,j,hj=>by rw[mZ] at hj;rw[jF,hq j (by omega),ht j,acS ht hq ts (j+1) (by omega),Bool.false_or];rfl
def At(l:List Nd)(b:Nat)(ks:List Tn):Prop:=∀j u,ks[j]? =some u->Lies l (b+sizes (ks.take j)) u
def kW{ks:List Tn}{b j:Nat}{u:Tn}(hj:ks[j]? =some u):idx (encI (ends ks b)) (j:Int)=some [D.int .i64 ((b+sizes (ks.take j)+sizes u.kids:Nat):Int)]:=by rw[fQ,sH,afF hj];rfl
def aqh{ks:List Tn}(ih:∀u,u∈ks->PS u){o:Bool}{f:Nat}{l:List Nd}{b:Nat}(hl:l.length<=1048576)(hat:At l b ks)(hf:5 * sizes ks+2<=f)(hu:sizes ks<=1048575):
  M.zO f (dF o l) false (encI (ends ks b))=some (kY (Dq true (ES ks))):=by
 obtain⟨g,rfl⟩:∃g,f=g+1:=⟨f - 1,by omega⟩
 have hkl:=lW ks;have e1:=(lH 36 (by constructor<;>decide)).2;have hloop:=iV (b:=M.DK (M.rX g) (encI (ends ks b)) (dF o l) false) (t:=((ks.length:Int),kY (Dq true (ES ks)))) (λj=>((j:Int),kY (Dq true (ES (ks.take j))))) ks.length
  (by
   intro j hj;obtain⟨u,hu'⟩:∃u,ks[j]? =some u:=⟨ks[j],by simp[hj]⟩
   have hus:=iW (Au hu');have hst:=OG hu';have ha:=aNf (ih u (Au hu')) (o:=o) (f:=g) (p:=.top) hl (hat j u hu') (by omega) rfl;have hi:=kW (b:=b) hu';have hel:=aeD u .top;have hcl:=VY (ks.take j) true;have hsn:Dq true (ES (ks.take (j+1)))=Dq true (ES (ks.take j))++(bif(ES (ks.take j)).isEmpty && true then UR u .top else tok 36::UR u .top):=by rw[jo hu',ES,List.map_append];exact aeG _ _ _
   have hw:i64.wrap ((j:Int)+1)=((j+1:Nat):Int):=by rw[aJ (by omega) (by omega)];omega
   simp only[Ps.top] at ha hel;rw[hsn];simp only[jY,M.DK,M.yg,dh,gu];rw[zdt (by omega),cO]
   by_cases h0:j=0
   ·subst h0;rw[uw (by omega),dO];have z:(ES (ks.take 0)).isEmpty=true:=rfl;simp(disch:=omega) only[hi,ah,KG,zi.2,ha,<-lT,iJ,uq,room,Kz,cO,hw,z,Bool.and_true,Ps.top]
   ·rw[zdt (by omega),cO];have z:(ES (ks.take j)).isEmpty=false:=by
     have hl2:(ES (ks.take j)).length=j:=by rw[ES,List.length_map,PE];omega
     cases hq:ES (ks.take j) with
     |nil=>rw[hq,xq] at hl2;omega
     |cons _ _=>rfl
    simp(disch:=omega) only[hi,ah,KG,zi.2,ha,e1,uS,<-lT,iJ,uq,OJ,mZ,xq,room,Kz,cO,dO,hw,z,Bool.false_and,Ps.top];simp)
  (by simp only[jY,M.DK,M.yg,dh,gu];rw[uw (by omega),dO,List.take_length]) 0 (Nat.zero_le _)
 have e0:kY (Dq true (ES (ks.take 0)))=[]:=rfl;rw[qP,e0] at hloop;rw[M.abz];simp only[M.zN,M.Hz,hloop,ah,dU,cO]
def UW{ks:List Tn}(ih:∀u,u∈ks->PS u){o:Bool}{f:Nat}{l:List Nd}{b:Nat}{k op:Int}{x y:aC}{p:Ps}{j:Nat}{u:Tn}(he:1<=k∧k<=15)(hc:Cnt k op y ks.length)(hp:l9 p=true)(hl:l.length<=1048576)(hat:At l b ks)(hf:5 * sizes ks+1<=f)(hu:sizes ks<=1048575)(hj:ks[j]? =some u)(ht:oG k j=false):
  (idx (encI (ends ks b)) (j:Int)=some [D.int .i64 ((b+sizes (ks.take j)+sizes u.kids:Nat):Int)]∧
   M.fH k op x y (encI (ends ks b)) (j:Int) p.level p.lQ p.qp p.qw p.kU=some (eP k op ks.length j p).zo∧
   M.rX f (dF o l) false ((b+sizes (ks.take j)+sizes u.kids:Nat):Int) (eP k op ks.length j p).zo.1 (eP k op ks.length j p).zo.2.1 (eP k op ks.length j p).zo.2.2.1 (eP k op ks.length j p).zo.2.2.2.1 (eP k op ks.length j p).zo.2.2.2.2=some (kY (su k op ks.length p j u)))∧(su k op ks.length p j u).length+2<=8 * u.size:=by
 have hkl:=lW ks;have hus:=iW (Au hj);have hjl:j<ks.length:=(MG.1 hj).1;have hen:(encI (ends ks b)).length=ks.length:=by rw[dh,gu]
 have hlv:lvl k op≠0:=by have:=Pg he hc;omega
 refine⟨⟨kW hj, ?_, ?_⟩,Ky (oQ u)⟩
 ·have h:=TI (x:=x) (r:=encI (ends ks b)) (j:=j) (p:=p) he (by rw[hen];exact hc) (by omega) (by omega);rw[hen] at h;exact h
 ·have h:=aNf (ih u (Au hj)) (o:=o) (f:=f) (p:=eP k op ks.length j p) hl (hat j u hj) (by omega) (tY hp hjl hlv);rw[su,ht,Bool.false_or];exact h
def afW{ks:List Tn}(ih:∀u,u∈ks->PS u){o:Bool}{f:Nat}{l:List Nd}{b:Nat}(hl:l.length<=1048576)(hat:At l b ks)(hf:5 * sizes ks+3<=f)(hu:sizes ks<=1048575)(t':Int)(x:aC)(c:Int)(hop:c=32∨c=34):
  M.CS f (dF o l) false t' x 0 (encI (ends ks b)) c=some (kY (⟨t',x,0⟩::tok c::(Dq true (ES ks)++[tok (c+1)]))):=by
 obtain⟨g,rfl⟩:∃g,f=g+1:=⟨f - 1,by omega⟩
 have h1:=aqh ih (o:=o) (f:=g) (b:=b) hl hat (by omega) hu;have h2:=VY ks true;have e1:=(lH c (by rcases hop with rfl|rfl<;>constructor<;>decide)).2;have e2:=(lH (c+1) (by rcases hop with rfl|rfl<;>constructor<;>decide)).2;have e3:i64.wrap (c+1)=c+1:=by rcases hop with rfl|rfl<;>rfl
 have hr:([[D.int .i64 t',D.str x,D.int .i64 0],[D.int .i64 c,D.str (spell c),D.int .i64 0]]:au)=kY [⟨t',x,0⟩,tok c]:=rfl;rw[M.Zy];simp(disch:=omega) only[jY,M.wX,e1,e2,e3,h1,ah,hr,uS (c+1),<-lT,iJ,uq,OJ,mZ,xq,room,Kz,dU,cO];simp
def acT{u:Tn}(hS:PS u)(hok:CJ u)(he:Rw u)(hh:13<=lvl u.kind u.op){o:Bool}{f:Nat}{l:List Nd}{b:Nat}(hl:l.length<=1048576)(h:Lies l b u)(hf:5 * u.size+1<=f)(p:Ps)(hp:l9 p=true):
  M.zQ f (dF o l) false ((b+sizes u.kids:Nat):Int)=some (kY (tX u p)):=by
 obtain⟨g,rfl⟩:∃g,f=g+1:=⟨f - 1,by omega⟩
 have h1:=hS o g ⟨14,false,false,false,false⟩ l b hl h (by omega) rfl;rw[akc u hok hh he _ p rfl hp] at h1;rw[M.X5];simp only[M.vI,h1,ah,dU,cO]
def TJ(k:Int)(h:k=12∨k=14∨k=6∨k=11∨k=13)(j:Nat):oG k j=false:=by rcases h with rfl|rfl|rfl|rfl|rfl<;>simp[oG]
def aln{ks:List Tn}(ih:∀u,u∈ks->PS u){o:Bool}{f:Nat}{l:List Nd}{b:Nat}{k op:Int}{x y:aC}{p:Ps}(hk:k=12∨k=14)(hc:Cnt k op y ks.length)(hp:l9 p=true)(hl:l.length<=1048576)(hat:At l b ks)(hf:5 * sizes ks+2<=f)(hu:sizes ks<=1048575):
  M.CU f (dF o l) false k op x y (encI (ends ks b)) p.level p.lQ p.qp p.qw p.kU=some (kY (Ee k op ks.length x (jF k op ks.length p ks 0))):=by
 obtain⟨g,rfl⟩:∃g,f=g+1:=⟨f - 1,by omega⟩
 rw[M.Zz];rcases hk with rfl|rfl
 ·obtain⟨u,v,rfl⟩:=IY (hc.two (by omega));have hsz:=sz2 u v;obtain⟨⟨a1,a2,a3⟩,a4⟩:=UW ih (o:=o) (f:=g) (b:=b) (k:=12) (op:=op) (x:=x) (y:=y) (p:=p) (j:=0) (u:=u) (by omega) hc hp hl hat (by omega) hu rfl (TJ 12 (by omega) 0);obtain⟨⟨b1,b2,b3⟩,b4⟩:=UW ih (o:=o) (f:=g) (b:=b) (k:=12) (op:=op) (x:=x) (y:=y) (p:=p) (j:=1) (u:=v) (by omega) hc hp hl hat (by omega) hu rfl (TJ 12 (by omega) 1);rw[qP] at a1 a2;rw[Q8] at b1 b2;generalize (eP 12 op [u,v].length 0 p).zo=q0 at a2 a3;generalize hk0:su 12 op [u,v].length p 0 u=K0 at a3 a4;generalize (eP 12 op [u,v].length 1 p).zo=q1 at b2 b3;generalize hk1:su 12 op [u,v].length p 1 v=K1 at b3 b4;rw[TB,hk0,hk1]
  by_cases h99:op=99
  ·have e99:(op !=99)=false:=by simp[h99]
   simp(disch:=omega) only[jY,M.qK,a1,a2,a3,b1,b2,b3,KG,ah,Int.reduceBEq,e99,dO,<-lT,iJ,uq,OJ,mZ,xq,room,Kz,dU,cO];simp[Ee,yN,h99]
  ·have e99:(op !=99)=true:=by simpa using h99
   have e98:(op==99)=false:=by simpa using h99
   have e1:=(lH op (aau (hc.bin rfl).1)).2;simp(disch:=omega) only[jY,M.qK,a1,a2,a3,b1,b2,b3,e1,KG,ah,Int.reduceBEq,e99,dO,uS,<-lT,iJ,uq,OJ,mZ,xq,room,Kz,dU,cO];simp[Ee,yN,e98]
 ·obtain⟨u,v,z,rfl⟩:=Qp (hc.three rfl);have hsz:=sz3 u v z;obtain⟨⟨a1,a2,a3⟩,a4⟩:=UW ih (o:=o) (f:=g) (b:=b) (k:=14) (op:=op) (x:=x) (y:=y) (p:=p) (j:=0) (u:=u) (by omega) hc hp hl hat (by omega) hu rfl (TJ 14 (by omega) 0);obtain⟨⟨b1,b2,b3⟩,b4⟩:=UW ih (o:=o) (f:=g) (b:=b) (k:=14) (op:=op) (x:=x) (y:=y) (p:=p) (j:=1) (u:=v) (by omega) hc hp hl hat (by omega) hu rfl (TJ 14 (by omega) 1);obtain⟨⟨c1,c2,c3⟩,c4⟩:=UW ih (o:=o) (f:=g) (b:=b) (k:=14) (op:=op) (x:=x) (y:=y) (p:=p) (j:=2) (u:=z) (by omega) hc hp hl hat (by omega) hu rfl (TJ 14 (by omega) 2);rw[qP] at a1 a2;rw[Q8] at b1 b2;rw[amw] at c1 c2;generalize (eP 14 op [u,v,z].length 0 p).zo=q0 at a2 a3;generalize hk0:su 14 op [u,v,z].length p 0 u=K0 at a3 a4;generalize (eP 14 op [u,v,z].length 1 p).zo=q1 at b2 b3;generalize hk1:su 14 op [u,v,z].length p 1 v=K1 at b3 b4;generalize (eP 14 op [u,v,z].length 2 p).zo=q2 at c2 c3;generalize hk2:su 14 op [u,v,z].length p 2 z=K2 at c3 c4;rw[ap5,hk0,hk1,hk2];have e1:=(lH 65 (by constructor<;>decide)).2;have e2:=(lH 66 (by constructor<;>decide)).2;simp(disch:=omega) only[jY,M.qK,a1,a2,a3,b1,b2,b3,c1,c2,c3,e1,e2,KG,ah,Int.reduceBEq,dO,uS,<-lT,iJ,uq,OJ,mZ,xq,room,Kz,dU,cO];simp[Ee,yN]
end Go.Proofs.YtbpldgeajbfgnaaGreatDoor
