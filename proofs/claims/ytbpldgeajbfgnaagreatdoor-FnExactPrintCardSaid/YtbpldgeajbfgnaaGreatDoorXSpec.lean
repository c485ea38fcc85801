import Derived.Test.YtbpldgeajbfgnaaGreatDoorXLev
set_option linter.defProp false
namespace Go.Proofs.YtbpldgeajbfgnaaGreatDoor
set_option linter.unusedVariables false
set_option linter.unusedSimpArgs false
open Go Go.Vm
open Go.IntKind (i64)
def opF(s:aC):List (aC)->Nat->Int->Nat->Int×Nat
 |[],_,k,m=>(k,m)
 |g::l,i,k,m=>bif Nat.blt m g.length && g.isPrefixOf s then opF s l (i+1) (30+(i:Int)) g.length else opF s l (i+1) k m
def aej(s:aC):∀(l:List (aC)) (i:Nat) (k:Int) (m:Nat),(opF s l i k m).2=agd s l m
 |[],_,_,_=>rfl
 |g::l,i,k,m=>by
  rw[opF,agd];cases(Nat.blt m g.length && g.isPrefixOf s) with
  |true=>rw[aS,aS,aej s l]
  |false=>rw[bG,bG,aej s l]
def ap4(s:aC)(L:List (aC)){b:Int×Int×Int->Option (Int×Int×Int⊕Int×Int×Int)}
  (hb:∀(i:Nat) g k (m:Nat),L[i]? =some g->m<=2->b (k,(m:Int),(i:Int))=some (.inl (bif Nat.blt m g.length && g.isPrefixOf s then(30+(i:Int),(g.length:Int),(i:Int)+1) else(k,(m:Int),(i:Int)+1))))
  (he:∀k m,b (k,m,(L.length:Int))=some (.inr (k,m,(L.length:Int)))) (h2:∀g,g∈L->g.length<=2):
  dX b (0,0,0)=some ((opF s L 0 0 0).1,((opF s L 0 0 0).2:Int),(L.length:Int)):=by
 have key:∀(t:List (aC)) (i:Nat) (k:Int) (m:Nat),L.drop i=t->i<=L.length->m<=2->dX b (k,(m:Int),(i:Int))=some ((opF s t i k m).1,((opF s t i k m).2:Int),(L.length:Int)):=by
  intro t;induction t with
  |nil=>
   intro i k m hd hi hm;have:i=L.length:=by have:=congrArg List.length hd;simp at this;omega
   subst this;exact bC (he _ _)
  |cons g t ih=>
   intro i k m hd hi hm;have hx:L[i]? =some g:=by
    have:(L.drop i)[0]? =some g:=by rw[hd];rfl
    simpa using this
   have hlt:i<L.length:=(MG.1 hx).1;have hd':L.drop (i+1)=t:=by rw[<-List.drop_drop,hd];rfl
   have hs:=hb i g k m hx hm;have hg:=h2 g (BX hx);rw[opF];cases hc:(Nat.blt m g.length && g.isPrefixOf s) with
   |true=>rw[hc,aS] at hs;rw[dJ hs,aS,show(i:Int)+1=((i+1:Nat):Int) by omega,ih (i+1) _ _ hd' hlt hg]
   |false=>rw[hc,bG] at hs;rw[dJ hs,bG,show(i:Int)+1=((i+1:Nat):Int) by omega,ih (i+1) _ _ hd' hlt hm]
 have:=key L 0 0 0 rfl (Nat.zero_le _) au;rw[pY] at this;exact this
def ars{α:Type}(s:List α)(n:Nat)(h:n<=s.length):cut s 0 (n:Int)=some (s.take n):=by unfold cut;rw[zdt au,zdt au,zdt au];simp
def pre_eq:∀(g s:aC),g.length<=s.length->(s.take g.length==g)=g.isPrefixOf s
 |[],s,_=>by simp
 |x::g,[],h=>by simp at h
 |x::g,y::s,h=>by
  have hr:=pre_eq g s (by simpa using h);have hxy:(y==x)=(x==y):=by rw[Bool.eq_iff_iff,beq_iff_eq,beq_iff_eq];exact⟨Eq.symm,Eq.symm⟩
  rw[List.isPrefixOf,mV,List.take_succ_cons,<-hr,<-hxy];rfl
def aiI(g s:aC)(h:s.length<g.length):g.isPrefixOf s=false:=by
 cases hp:g.isPrefixOf s with
 |false=>rfl
 |true=>have:=(List.isPrefixOf_iff_prefix.1 hp).length_le;omega
def akf(s g:aC):M.strings_HasPrefix s g=some (g.isPrefixOf s):=by
 simp only[M.strings_HasPrefix,M.Ce,M.iZ,M.nI]
 by_cases h:g.length<=s.length
 ·rw[zdt au,aS,ars s g.length h,ah,ah,pre_eq g s h]
 ·rw[qw au,bG,ah,aiI g s au]
def avL:∀g,g∈UU->g.length<=2:=by decide+kernel
def X3(m n:Nat):decide ((n:Int)>(m:Int))=Nat.blt m n:=by
 cases hb:Nat.blt m n with
 |true=>rw[Nat.blt_eq] at hb;exact zdt au
 |false=>
  have:¬m<n:=by rw[<-Nat.blt_eq,hb];simp
  exact qw au
def akg(s:aC)(h0:s≠[])(hs:s.length<=4000000):M.uz s 0=some ((opF s UU 0 0 0).1,((agd s UU 0:Nat):Int)):=by
 have hl:UU.length=39:=rfl;have hn:1<=s.length:=by cases s with|nil=>exact absurd rfl h0|cons=>simp
 simp only[M.uz,M.TN,M.Rt,dI,ah];rw[aG au au,zdt au,zdt au,Bool.and_self,Bool.not_true,bG];have hc:=ars s s.length (Nat.le_refl _);rw[List.take_length] at hc;rw[ap4 s UU (λi g k m hg hm=> ?_) (λk m=> ?_) avL,ah,aej]
 ·have hi:=(MG.1 hg).1;rw[hl] at hi;have hsc:=apY i hi;simp only[QA,hg] at hsc;simp only[M.Xg,M.N7,Uj,hsc,ah,hc,akf,X3];rw[zdt au,zdt au,aG au au,aG au au];cases Nat.blt m g.length<;>cases g.isPrefixOf s<;>rfl
 ·rw[hl];rfl
def anI{s:aC}(h:s≠[])(hl:s.length<=2000000):∃c,idx s (i64.wrap ((s.length:Int) - 1))=some c∧lastB s=(c.toNat:Int):=by
 have hn:1<=s.length:=by cases s with|nil=>exact absurd rfl h|cons=>simp
 obtain⟨c,hc⟩:∃c,s[s.length - 1]? =some c:=⟨s[s.length - 1],by simp⟩
 refine⟨c, ?_, ?_⟩
 ·rw[aG au au,show((s.length:Int) - 1)=((s.length - 1:Nat):Int) by omega,bJ,hc]
 ·rw[lastB,List.getLast?_eq_getElem?,hc]
def ap5{s:aC}(h:s≠[]):∃c,idx s 0=some c∧aoS s=(c.toNat:Int):=by
 cases s with
 |nil=>exact absurd rfl h
 |cons c s=>exact⟨c,rfl,rfl⟩
def ap6(c:UInt8):i64.wrap (c.toNat:Int)=(c.toNat:Int):=by have:=ang c;exact aG au au
def ac4(a b:Tk):Ik a b=bif a.text==[] then false else bif b.text==[] then false else bif a.kind==2 then false else bif a.kind==1 then false else bif b.kind==1 then false else
 bif isW (lastB a.text) && isW (aoS b.text) then true else
 bif a.kind==3 &&(isW (aoS b.text)||aoS b.text==46) then true else
 bif a.kind==6 && b.kind==32 then true else
 bif !(decide (30<=a.kind) && decide (a.kind<=68)) then false else Nat.blt a.text.length (agd (a.text++b.text) UU 0):=by
 unfold Ik;simp only[ZC]
def abV(a b:Tk)(ha:a.text.length<=2000000)(hb:b.text.length<=2000000):M.uX a.kind a.text a.at_ b.kind b.text b.at_=some (Ik a b):=by
 rw[ac4];simp only[M.uX,M.La]
 by_cases h1:a.text=[]
 ·rw[show(a.text==[])=true by simpa using h1,aS,aS]
 ·rw[show(a.text==[])=false by simpa using h1,bG,bG]
  by_cases h2:b.text=[]
  ·rw[show(b.text==[])=true by simpa using h2,aS,aS]
  ·obtain⟨c,hc,hc'⟩:=anI h1 ha;obtain⟨d,hd,hd'⟩:=ap5 h2;have hop:=akg (a.text++b.text) (by simp[h1]) (by simp only[qx];omega);rw[show(b.text==[])=false by simpa using h2,bG,bG,hc',hd'];simp only[hc,hd,ah,ap6,Qr,M.iP,M.Am,dI,hop,X3,ge_iff_le,ZC,ake,U3,aX (show a.text.length+b.text.length<=9223372036854775807 by omega),aS]
def Ug{α:Type}:List (List α)->Nat
 |[]=>0
 |x::l=>x.length+Ug l
def ap7{α:Type}:∀(L:List (List α)) (j:Nat),(A8 L j).length<=Ug L
 |[],j=>by simp[A8,Ug]
 |x::l,0=>by simp[A8,Ug]
 |x::l,j+1=>by have:=ap7 l j;simp only[A8,List.getElem?_cons_succ,Ug] at this⊢;omega
def Xu:∀(L:List (List Tk)) (b:Bool),(F6 b L).length<=Ug L+L.length
 |[],b=>by simp[F6,Ug]
 |x::l,b=>by have:=Xu l false;cases b<;>simp only[F6,Ug,aS,bG,qx,mV]<;>omega
def ayE{α:Type}:∀(L:List (List α)),(A8 L 0).length+((A8 L 1).length+(A8 L 2).length)<=Ug L
 |[]=>by simp[A8,Ug]
 |[x]=>by simp[A8,Ug]
 |[x,y]=>by simp[A8,Ug]
 |x::y::z::l=>by simp[A8,Ug]
def GZ{α:Type}{a b:List α}{N:Nat}(c:Bool)(ha:a.length<=N)(hb:b.length<=N):(bif c then a else b).length<=N:=by cases c<;>assumption
def avM(k op:Int)(n:Nat)(x:aC)(L:List (List Tk)):(Hg k op n x L).length<=Ug L+L.length+4:=by
 have h1:=Xu L true;have h2:=ap7 L 0;have h3:=ayE L;have h4:(bif Nat.blt 1 n then tok 32::(F6 true L++[tok 33]) else A8 L 0:List Tk).length<=Ug L+L.length+2:=GZ _ (by simp only[mV,qx,um];omega) au;have h5:(bif op==99 then[] else[tok op]:List Tk).length<=1:=GZ _ (by simp) (by simp);unfold Hg;refine GZ _ ?_ (GZ _ ?_ (GZ _ ?_ (GZ _ ?_ (GZ _ ?_ (GZ _ ?_ (GZ _ ?_ (GZ _ ?_ (GZ _ ?_ (GZ _ ?_ (GZ _ ?_ (GZ _ ?_ ?_)))))))))))
 all_goals(simp only[mV,qx,um];omega)
def JA(k op:Int)(n:Nat)(p:Ps):∀(ts:List Tn) (j:Nat),(jA k op n p ts j).length=ts.length
 |[],j=>by rw[jA];rfl
 |t::ts,j=>by rw[jA,mV,JA k op n p ts (j+1),mV]
def vC(k op:Int)(n:Nat)(p:Ps)(j:Nat)(u:Tn):List Tk:=bif qh k j||fits u.kind u.op (dP k op n j p) then wH u (dP k op n j p) else tok 32::(wH u .top++[tok 33])
def aiJ(k op:Int)(n:Nat)(p:Ps):∀{ts:List Tn} {i j:Nat} {u:Tn},ts[j]? =some u->(jA k op n p ts i)[j]? =some (vC k op n p (i+j) u)
 |[],_,_,_,h=>by simp at h
 |t::ts,i,0,u,h=>by cases h;rw[jA,List.getElem?_cons_zero];rfl
 |t::ts,i,j+1,u,h=>by rw[List.getElem?_cons_succ] at h;rw[jA,List.getElem?_cons_succ,aiJ k op n p h,show i+1+j=i+(j+1) by omega]
def OG{k op:Int}{n:Nat}{p:Ps}{j:Nat}{u:Tn}(h:∀q,(wH u q).length+4<=8 * u.size):(vC k op n p j u).length+2<=8 * u.size:=by
 unfold vC;cases(qh k j||fits u.kind u.op (dP k op n j p)) with
 |true=>have:=h (dP k op n j p);rw[aS];omega
 |false=>have:=h .top;simp only[bG,mV,qx,um];omega
def X4{k op:Int}{n:Nat}{p:Ps}:∀{ts:List Tn} {j:Nat},(∀u,u∈ts->∀q,(wH u q).length+4<=8 * u.size)->Ug (jA k op n p ts j)+2 * ts.length<=8 * sizes ts
 |[],j,_=>by rw[jA,Ug,sizes];simp
 |t::ts,j,h=>by
  have h1:=OG (k:=k) (op:=op) (n:=n) (p:=p) (j:=j) (h t Yh);have h2:=X4 (k:=k) (op:=op) (n:=n) (p:=p) (ts:=ts) (j:=j+1) λu hu=>h u (X9 _ hu)
  unfold vC at h1;rw[jA,Ug,sizes,mV];omega
def qM(t:Tn):∀q,(wH t q).length+4<=8 * t.size:=by refine Tn.ind (P:=λt=>∀q,(wH t q).length+4<=8 * t.size) ?_ t;intro k op x y ks ih q;have h1:=avM k op ks.length x (jA k op ks.length q ks 0);have h2:=X4 (k:=k) (op:=op) (n:=ks.length) (p:=q) (ts:=ks) (j:=0) ih;rw[JA] at h1;rw[wH,Tn.size];omega
def aiK(t:Tn)(q:Ps):(YF t q).length+2<=8 * t.size:=by
 have h1:=qM t q;have h2:=qM t .top;unfold YF;cases fits t.kind t.op q with
 |true=>rw[aS];omega
 |false=>simp only[bG,mV,qx,um];omega
@[simp] theorem dn(l:List Tk):ay (lJ l)=true:=by simp only[ay,lJ,List.all_map,List.all_eq_true];intro x _;rfl
def mJ(a b:List Tk):lJ (a++b)=lJ a++lJ b:=by simp[lJ]
def JU(a toks:List Tk)(sp:aA)(f:Bool)(hs:ay sp=true)(hl:toks.length+a.length<=1000000000):M.aY (lJ a) (lJ toks) sp f=some (lJ (toks++a),sp,f):=by simp only[M.aY,M.EN,iF,<-mJ,dn,hs,aS];rw[aX au,aS,aX au,aS]
def iota(n:Nat):List Int:=(List.range n).map fun(i:Nat)=>((i:Nat):Int)
def QD(n:Nat):(iota n).length=n:=by simp[iota]
def aru(n:Nat):iota (n+1)=iota n++[(n:Int)]:=by simp[iota,List.range_succ]
def aek(k op:Int)(x y:aC)(rows:aA)(h:rows.length<=1048576):M.jV k op x y rows=some (k,op,x,y,encI (iota rows.length)):=by
 obtain⟨n,hn⟩:∃n,n=rows.length:=⟨_,rfl⟩
 simp only[M.jV,M.Jc];rw[<-hn] at h⊢;have hloop:=jh (b:=M.sO)
  (t:=if n=0 then .inl ((n:Int),0,0,0,[],[],k,op,x,y) else .inr ((n:Int),(n:Int),0,0,[],[],k,op,x,y,encI (iota n)))
  (λj=>if j=0 then .inl ((n:Int),0,0,0,[],[],k,op,x,y) else .inr ((n:Int),(j:Int),0,0,[],[],k,op,x,y,encI (iota j))) n
  (by
   intro j hj;rw[if_neg (show¬j+1=0 by omega),aru]
   by_cases h0:j=0
   ·subst h0;rw[if_pos rfl];simp only[jm,M.sO,M.oD];rw[zdt au,aS];rfl
   ·rw[if_neg h0];simp only[jm,M.sO,M.oD,aZ,QD,J9];rw[zdt au,aS,aX au,aS,aX au,aS,aG au au];simp[encI])
  (by
   by_cases h0:n=0
   ·simp only[if_pos h0];simp only[jm,M.sO,M.oD];rw[qw au,bG]
   ·simp only[if_neg h0];simp only[jm,M.sO,M.oD];rw[qw au,bG]) 0 (Nat.zero_le _)
 rw[if_pos rfl] at hloop;rw[M.Gz,hloop,ah]
 by_cases h0:n=0
 ·rw[if_pos h0,h0];rfl
 ·rw[if_neg h0];simp only[ql,letE,MB,aS]
def Wr(toks:List Tk)(sp:aA)(N:Nat)(out:List Tk)(r:Option (aA×aA×Bool)):Prop:=
 ∃sp',r=some (lJ (toks++out),sp',false)∧ay sp'=true∧sp'.length<=sp.length+N
def PT(u:Tn):Prop:=∀(w:Bool) (f:Nat) (p:Ps) (toks:List Tk) (sp:aA),5 * u.size<=f->mY p=true->ay sp=true->toks.length+16 * u.size<=900000000->sp.length+u.size<=900000000->u.size<=1048576->
 Wr toks sp u.size (wH u p) (M.sV f u.kind u.op u.text u.other (eU w u.kids) p.level p.mG p.sF p.sG p.lD (lJ toks) sp false)
def ap8{u:Tn}(h:u.size<=1048576)(w:Bool):(eU w u.kids).length<=1048576:=by have h1:=u.uq;have h2:=jq u.kids;rw[fV];omega
def xO(k:Int):([[D.int .i64 k,D.str (spell k),D.int .i64 0]]:aA)=lJ [tok k]:=rfl
def aDw{u:Tn}(hP:PT u){w:Bool}{f:Nat}{p:Ps}{toks:List Tk}{sp:aA}(hf:5 * u.size+1<=f)(hp:mY p=true)(hs:ay sp=true)(ht:toks.length+16 * u.size+1<=900000000)(hl:sp.length+u.size<=900000000)(hu:u.size<=1048576):
  Wr toks sp u.size (YF u p) (M.xg f u.kind u.op u.text u.other (eU w u.kids) p.level p.mG p.sF p.sG p.lD (lJ toks) sp false):=by
 obtain⟨g,rfl⟩:∃g,f=g+1:=⟨f - 1,au⟩
 have hz:=u.size_pos;have hb:=qM u .top;rw[M.Ye];simp only[M.sS,aek u.kind u.op u.text u.other _ (ap8 hu w),ah,(aei u.kind u.op u.text u.other _ p).1,bG,Bool.not_not,YF];cases fits u.kind u.op p with
 |true=>obtain⟨sp',h1,h2,h3⟩:=hP w g p toks sp au hp hs au hl hu;simp only[aS,dn,hs,h1,ah,h2];exact⟨sp',rfl,h2,h3⟩
 |false=>obtain⟨sp',h1,h2,h3⟩:=hP w g .top (toks++[tok 32]) sp au rfl hs (by rw[qx,J9];omega) hl hu;have e1:=(lZ 32 (by constructor<;>decide)).1;have e2:=(lZ 33 (by constructor<;>decide)).1;have p1:=JU [tok 32] toks sp false hs (by simp;omega);have p2:=JU [tok 33] (toks++[tok 32]++wH u .top) sp' false h2 (by simp only[qx,J9];omega);simp only[Ps.top] at h1 p2;simp only[bG,e1,e2,BN.1,ah,xO,dn,hs,aS,p1,h1,h2,p2];refine⟨sp', ?_,h2,h3⟩;simp[Ps.top]
def jP(w:Bool)(u:Tn):bI .i64 (u.row w) 0=some u.kind∧bI .i64 (u.row w) 1=some u.op∧cStr (u.row w) 2=some u.text∧cStr (u.row w) 3=some u.other∧PE 5 (u.row w) 4=some (eU w u.kids):=by cases u;exact⟨rfl,rfl,rfl,rfl,rfl⟩
def DN(w:Bool){ks:List Tn}{j:Nat}{u:Tn}(hj:ks[j]? =some u):idx (eU w ks) (j:Int)=some (u.row w):=by rw[bJ,UG];simp[hj]
section
variable {k op:Int} {x y:aC} {ks:List Tn} (ih:∀u,u∈ks->PT u)
include ih
theorem QE{w:Bool}{f:Nat}{p:Ps}{toks:List Tk}{sp:aA}{j:Nat}{u:Tn}(hj:ks[j]? =some u)(hf:5 * u.size+2<=f)(hp:mY p=true)(hlv:lvl k op≠0)(hs:ay sp=true)(ht:toks.length+16 * u.size+1<=900000000)(hl:sp.length+u.size<=900000000)(hu:sizes ks<=1048575):
  Wr toks sp u.size (vC k op ks.length p j u) (M.lC f k op x y (eU w ks) (j:Int) p.level p.mG p.sF p.sG p.lD (lJ toks) sp false):=by
 obtain⟨g,rfl⟩:∃g,f=g+1:=⟨f - 1,au⟩
 have hkl:=jq ks;have hju:=(MG.1 hj).1;have hus:=iE (BX hj);have hg:=DN w hj;obtain⟨c0,c1,c2,c3,c4⟩:=jP w u;have hn:=aek k op x y (eU w ks) (by rw[fV];omega);rw[fV] at hn;have hkp:=Xt k op x y (encI (iota ks.length)) j p (by rw[aZ,QD];omega);rw[aZ,QD] at hkp;have hq:=wI (n:=ks.length) (j:=j) hp hju hlv;have e1:=ih u (BX hj);rw[M.Zu];simp only[jm,M.uJ,hn,ah,hg,c0,c1,c2,c3,c4,hkp,Ps.BU,ac3,dn,hs,aS,vC];cases htg:qh k j with
 |true=>obtain⟨sp',h1,h2,h3⟩:=e1 w g (dP k op ks.length j p) toks sp au hq hs au hl au;simp only[aS,Bool.true_or,h1,ah,dn,h2];exact⟨sp',rfl,h2,h3⟩
 |false=>obtain⟨sp',h1,h2,h3⟩:=aDw e1 (w:=w) (f:=g) (p:=dP k op ks.length j p) (toks:=toks) (sp:=sp) au hq hs ht hl au;unfold YF at h1;simp only[bG,Bool.false_or,h1,ah,dn,h2,aS];exact⟨sp',rfl,h2,h3⟩
theorem abW{w:Bool}{f:Nat}{p:Ps}{shut:Int}(hf:5 * sizes ks+2<=f)(hp:mY p=true)(hlv:lvl k op≠0)(hu:sizes ks<=1048575):∀(d j:Nat) (toks:List Tk) (sp:aA),j+d=ks.length->ay sp=true->toks.length+16 * sizes (ks.drop j)+2<=900000000->sp.length+sizes (ks.drop j)<=900000000->
  ∃sp',M.kZ (M.lC f) shut (ks.length:Int) k op x y (eU w ks) p.level p.mG p.sF p.sG p.lD ((j:Int),false,lJ toks,sp)=some ((ks.length:Int),false,lJ (toks++F6 (Nat.beq j 0) ((jA k op ks.length p ks 0).drop j)),sp')∧ay sp'=true∧sp'.length<=sp.length+sizes (ks.drop j)
 |0,j,toks,sp,hj,hs,ht,hl=>by have hjn:j=ks.length:=au;refine⟨sp, ?_,hs,au⟩;have hd:(jA k op ks.length p ks 0).drop j=[]:=List.drop_eq_nil_iff.2 (by rw[JA];omega);rw[hd,F6,List.append_nil,M.kZ];apply bC;simp only[M.oq,M.oh];rw[qw au,bG,hjn]
 |d+1,j,toks,sp,hj,hs,ht,hl=>by
  have hlt:j<ks.length:=au;have hkl:=jq ks;obtain⟨u,hu'⟩:∃u,ks[j]? =some u:=⟨ks[j],by simp[hlt]⟩
  have hd1:ks.drop j=u::ks.drop (j+1):=by rw[List.drop_eq_getElem_cons hlt];rw[List.getElem?_eq_getElem hlt] at hu';rw[Option.some.inj hu']
  have hus:=iE (BX hu');have hz:=u.size_pos;have hb:=OG (k:=k) (op:=op) (n:=ks.length) (p:=p) (j:=j) (qM u);have hdl:j<(jA k op ks.length p ks 0).length:=by rw[JA];exact hlt
  have hkd:(jA k op ks.length p ks 0).drop j=vC k op ks.length p j u::(jA k op ks.length p ks 0).drop (j+1):=by have hg:=aiJ k op ks.length p (i:=0) hu';rw[Nat.zero_add,List.getElem?_eq_getElem hdl] at hg;rw[List.drop_eq_getElem_cons hdl,Option.some.inj hg]
  rw[hd1,sizes] at ht hl⊢;rw[hkd];have hw:i64.wrap ((j:Int)+1)=((j+1:Nat):Int):=by rw[aG au au];omega
  by_cases h0:j=0
  ·subst h0;obtain⟨sp1,a1,a2,a3⟩:=QE ih (w:=w) (f:=f) (p:=p) (toks:=toks) (sp:=sp) (x:=x) (y:=y) (op:=op) (k:=k) hu' au hp hlv hs au au hu;obtain⟨sp2,b1,b2,b3⟩:=abW hf hp hlv hu d (0+1) (toks++vC k op ks.length p 0 u) sp1 au a2 (by rw[qx];omega) au;have hstep:M.oq (M.lC f) shut (ks.length:Int) k op x y (eU w ks) p.level p.mG p.sF p.sG p.lD (((0:Nat):Int),false,lJ toks,sp)=some (.inl (((0+1:Nat):Int),false,lJ (toks++vC k op ks.length p 0 u),sp1)):=by simp only[M.oq,M.oh,dn,hs,aS];rw[zdt au,aS,qw au,bG,a1,ah,hw]
   refine⟨sp2, ?_,b2,au⟩;rw[M.kZ,dJ hstep];rw[M.kZ] at b1;have z0:Nat.beq 0 0=true:=rfl;have z1:Nat.beq (0+1) 0=false:=rfl;rw[b1,z0,z1,F6,aS];simp
  ·have e1:=(lZ 36 (by constructor<;>decide)).1;have p1:=JU [tok 36] toks sp false hs (by simp;omega);obtain⟨sp1,a1,a2,a3⟩:=QE ih (w:=w) (f:=f) (p:=p) (toks:=toks++[tok 36]) (sp:=sp) (x:=x) (y:=y) (op:=op) (k:=k) hu' au hp hlv hs (by rw[qx,J9];omega) au hu;obtain⟨sp2,b1,b2,b3⟩:=abW hf hp hlv hu d (j+1) (toks++[tok 36]++vC k op ks.length p j u) sp1 au a2 (by rw[qx,qx,J9];omega) au;have hstep:M.oq (M.lC f) shut (ks.length:Int) k op x y (eU w ks) p.level p.mG p.sF p.sG p.lD ((j:Int),false,lJ toks,sp)=some (.inl (((j+1:Nat):Int),false,lJ (toks++[tok 36]++vC k op ks.length p j u),sp1)):=by simp only[M.oq,M.oh,e1,ah,xO,dn,hs,aS,p1];rw[zdt au,aS,zdt au,aS,a1,ah,hw]
   refine⟨sp2, ?_,b2,au⟩;rw[M.kZ,dJ hstep];rw[M.kZ] at b1;rw[b1];have hb0:Nat.beq j 0=false:=by cases j with
    |zero=>exact absurd rfl h0
    |succ j=>rfl
   have hb1:Nat.beq (j+1) 0=false:=rfl;rw[hb0,hb1,F6,bG];simp
theorem akh{w:Bool}{f:Nat}{p:Ps}{toks:List Tk}{sp:aA}{open' shut:Int}(ho:I64 open')(hsh:I64 shut)(hf:5 * sizes ks+3<=f)(hp:mY p=true)(hlv:lvl k op≠0)(hs:ay sp=true)(ht:toks.length+16 * sizes ks+3<=900000000)(hl:sp.length+sizes ks<=900000000)(hu:sizes ks<=1048575):
  Wr toks sp (sizes ks) (tok open'::(F6 true (jA k op ks.length p ks 0)++[tok shut])) (M.sU f k op x y (eU w ks) open' shut p.level p.mG p.sF p.sG p.lD (lJ toks) sp false):=by
 obtain⟨g,rfl⟩:∃g,f=g+1:=⟨f - 1,au⟩
 have hkl:=jq ks;have e1:=(lZ open' ho).1;have e2:=(lZ shut hsh).1;have p1:=JU [tok open'] toks sp false hs (by simp;omega);obtain⟨sp1,a1,a2,a3⟩:=abW ih (x:=x) (y:=y) (op:=op) (k:=k) (w:=w) (f:=g) (p:=p) (shut:=shut) au hp hlv hu ks.length 0 (toks++[tok open']) sp au hs (by rw[qx,J9,List.drop_zero];omega) (by rw[List.drop_zero];omega);rw[List.drop_zero] at a3;rw[List.drop_zero,pY] at a1;have hlen:(F6 true (jA k op ks.length p ks 0)).length<=9 * sizes ks:=by
  have h1:=Xu (jA k op ks.length p ks 0) true;have h2:=X4 (k:=k) (op:=op) (n:=ks.length) (p:=p) (ts:=ks) (j:=0) λu _=>qM u
  rw[JA] at h1;omega
 have p2:=JU [tok shut] (toks++[tok open']++F6 (Nat.beq 0 0) (jA k op ks.length p ks 0)) sp1 false a2 (by simp only[qx,J9];have:Nat.beq 0 0=true:=rfl;rw[this];omega);rw[M.Yc];simp only[M.sQ,e1,e2,ah,xO,dn,hs,aS,p1,fV,a1,a2,p2];refine⟨sp1, ?_,a2,a3⟩;simp
end
def QV(k op:Int)(n:Nat)(p:Ps)(u:Tn):jA k op n p [u] 0=[vC k op n p 0 u]:=by rw[jA,jA];rfl
def Xv(k op:Int)(n:Nat)(p:Ps)(u v:Tn):jA k op n p [u,v] 0=[vC k op n p 0 u,vC k op n p 1 v]:=by rw[jA,jA,jA];rfl
def avN(k op:Int)(n:Nat)(p:Ps)(u v z:Tn):jA k op n p [u,v,z] 0=[vC k op n p 0 u,vC k op n p 1 v,vC k op n p 2 z]:=by rw[jA,jA,jA,jA];rfl
def sz1(u:Tn):sizes [u]=u.size:=by simp[sizes]
def sz2(u v:Tn):sizes [u,v]=u.size+v.size:=by simp[sizes]
def sz3(u v z:Tn):sizes [u,v,z]=u.size+(v.size+z.size):=by simp[sizes]
def LZ{α:Type}{l:List α}(h:l.length=2):∃a b,l=[a,b]:=by
 match l,h with
 |[a,b],_=>exact⟨a,b,rfl⟩
def U4{α:Type}{l:List α}(h:l.length=3):∃a b c,l=[a,b,c]:=by
 match l,h with
 |[a,b,c],_=>exact⟨a,b,c,rfl⟩
def ael{op:Int}(h:zn op≠0):I64 op:=by
 by_cases hr:0<=op∧op<=99
 ·constructor<;>omega
 ·exfalso;apply h;have e:∀z:Int,0<=z->z<=99->(op==z)=false:=λz h1 h2=>by rw[MJ];omega
  simp only[zn,e 44 (by decide) (by decide),e 45 (by decide) (by decide),e 67 (by decide) (by decide),e 46 (by decide) (by decide),e 63 (by decide) (by decide),e 48 (by decide) (by decide),e 47 (by decide) (by decide),e 50 (by decide) (by decide),e 62 (by decide) (by decide),e 49 (by decide) (by decide),e 99 (by decide) (by decide),e 55 (by decide) (by decide),e 56 (by decide) (by decide),e 57 (by decide) (by decide),e 58 (by decide) (by decide),e 59 (by decide) (by decide),e 60 (by decide) (by decide),Bool.or_false,bG]
def VN:((1:Nat):Int)=1:=rfl
def arv:((2:Nat):Int)=2:=rfl
section
variable {k op:Int} {x y:aC} {ks:List Tn} (ih:∀u,u∈ks->PT u)
include ih
theorem aDx{w:Bool}{f:Nat}{p:Ps}{toks:List Tk}{sp:aA}(hc:Cnt k op y ks.length)(hk:k=6∨k=9∨k=10∨k=11∨k=12∨k=13∨k=14∨k=15)(hf:5 * sizes ks+4<=f)(hp:mY p=true)(hs:ay sp=true)(ht:toks.length+16 * sizes ks+3<=900000000)(hl:sp.length+sizes ks<=900000000)(hu:sizes ks<=1048575):
  Wr toks sp (sizes ks) (Hg k op ks.length x (jA k op ks.length p ks 0)) (M.qG f k op x y (eU w ks) p.level p.mG p.sF p.sG p.lD (lJ toks) sp false):=by
 obtain⟨g,rfl⟩:∃g,f=g+1:=⟨f - 1,au⟩
 have hlv:lvl k op≠0:=by have:=TR (y:=y) (n:=ks.length) (k:=k) (op:=op) au hc;omega
 rw[M.UL];rcases hk with rfl|rfl|rfl|rfl|rfl|rfl|rfl|rfl
 ·obtain⟨u,rfl⟩:=zlo.1 (hc.one au);rw[sz1] at *;have e1:=(lZ 68 (by constructor<;>decide)).1;have p1:=JU [tok 68] toks sp false hs (by simp;omega);obtain⟨sp1,a1,a2,a3⟩:=QE ih (w:=w) (f:=g) (p:=p) (toks:=toks++[tok 68]) (sp:=sp) (x:=x) (y:=y) (op:=op) (k:=6) (j:=0) (u:=u) rfl au hp hlv hs (by simp only[qx,mV,um,Nat.zero_add] at *;omega) hl (by rw[sz1];exact hu);rw[pY] at a1;simp only[M.dM,Int.reduceBEq,aS,bG,e1,ah,xO,dn,hs,p1,a1,a2];refine⟨sp1, ?_,a2,a3⟩;rw[QV];simp[Hg,A8]
 ·obtain⟨u,rfl⟩:=zlo.1 (hc.one au);rw[sz1] at *;have e1:=(lZ op (by rcases hc.stp au with rfl|rfl<;>constructor<;>decide)).1;have p1:=JU [tok op] toks sp false hs (by simp;omega);obtain⟨sp1,a1,a2,a3⟩:=QE ih (w:=w) (f:=g) (p:=p) (toks:=toks++[tok op]) (sp:=sp) (x:=x) (y:=y) (op:=op) (k:=9) (j:=0) (u:=u) rfl au hp hlv hs (by simp only[qx,mV,um,Nat.zero_add] at *;omega) hl (by rw[sz1];exact hu);rw[pY] at a1;simp only[M.dM,Int.reduceBEq,aS,bG,e1,ah,xO,dn,hs,p1,a1,a2];refine⟨sp1, ?_,a2,a3⟩;rw[QV];simp[Hg,A8]
 ·obtain⟨u,rfl⟩:=zlo.1 (hc.one au);rw[sz1] at *;have hb:=OG (k:=10) (op:=op) (n:=[u].length) (p:=p) (j:=0) (qM u);have e1:=(lZ op (by rcases hc.stp au with rfl|rfl<;>constructor<;>decide)).1;obtain⟨sp1,a1,a2,a3⟩:=QE ih (w:=w) (f:=g) (p:=p) (toks:=toks) (sp:=sp) (x:=x) (y:=y) (op:=op) (k:=10) (j:=0) (u:=u) rfl au hp hlv hs au hl (by rw[sz1];exact hu);rw[pY] at a1;have p1:=JU [tok op] (toks++vC 10 op [u].length p 0 u) sp1 false a2 (by simp only[qx,mV,um,Nat.zero_add] at *;omega);simp only[M.dM,Int.reduceBEq,aS,bG,e1,ah,xO,dn,hs,p1,a1,a2];refine⟨sp1, ?_,a2,a3⟩;rw[QV];simp[Hg,A8]
 ·obtain⟨u,rfl⟩:=zlo.1 (hc.one au);rw[sz1] at *;have e1:=(lZ op (by rcases hc.una au with rfl|rfl|rfl<;>constructor<;>decide)).1;have p1:=JU [tok op] toks sp false hs (by simp;omega);obtain⟨sp1,a1,a2,a3⟩:=QE ih (w:=w) (f:=g) (p:=p) (toks:=toks++[tok op]) (sp:=sp) (x:=x) (y:=y) (op:=op) (k:=11) (j:=0) (u:=u) rfl au hp hlv hs (by simp only[qx,mV,um,Nat.zero_add] at *;omega) hl (by rw[sz1];exact hu);rw[pY] at a1;simp only[M.dM,Int.reduceBEq,aS,bG,e1,ah,xO,dn,hs,p1,a1,a2];refine⟨sp1, ?_,a2,a3⟩;rw[QV];simp[Hg,A8]
 ·obtain⟨u,v,rfl⟩:=LZ (hc.two au);rw[sz2] at *;have hb:=OG (k:=12) (op:=op) (n:=[u,v].length) (p:=p) (j:=0) (qM u);obtain⟨sp1,a1,a2,a3⟩:=QE ih (w:=w) (f:=g) (p:=p) (toks:=toks) (sp:=sp) (x:=x) (y:=y) (op:=op) (k:=12) (j:=0) (u:=u) rfl au hp hlv hs au au (by rw[sz2];exact hu);rw[pY] at a1
  by_cases h99:op=99
  ·have e99:(op !=99)=false:=by simp[h99]
   obtain⟨sp2,b1,b2,b3⟩:=QE ih (w:=w) (f:=g) (p:=p) (toks:=toks++vC 12 op [u,v].length p 0 u) (sp:=sp1) (x:=x) (y:=y) (op:=op) (k:=12) (j:=1) (u:=v) rfl au hp hlv a2 (by simp only[qx,mV,um,Nat.zero_add] at *;omega) au (by rw[sz2];exact hu);rw[VN] at b1;simp only[M.dM,Int.reduceBEq,aS,bG,e99,ah,xO,dn,hs,a1,a2,b1,b2];refine⟨sp2, ?_,b2,au⟩;rw[Xv];simp[Hg,A8,h99]
  ·have e99:(op !=99)=true:=by simpa using h99
   have e98:(op==99)=false:=by simpa using h99
   have e1:=(lZ op (ael (hc.bin rfl).1)).1;have p1:=JU [tok op] (toks++vC 12 op [u,v].length p 0 u) sp1 false a2 (by simp only[qx,mV,um,Nat.zero_add] at *;omega);obtain⟨sp2,b1,b2,b3⟩:=QE ih (w:=w) (f:=g) (p:=p) (toks:=toks++vC 12 op [u,v].length p 0 u++[tok op]) (sp:=sp1) (x:=x) (y:=y) (op:=op) (k:=12) (j:=1) (u:=v) rfl au hp hlv a2 (by simp only[qx,mV,um,Nat.zero_add] at *;omega) au (by rw[sz2];exact hu);rw[VN] at b1;simp only[M.dM,Int.reduceBEq,aS,bG,e99,e1,p1,ah,xO,dn,hs,a1,a2,b1,b2];refine⟨sp2, ?_,b2,au⟩;rw[Xv];simp[Hg,A8,e98]
 ·have e1:=(lZ 24 (by constructor<;>decide)).1;have hr:∀z:aC,([[D.int .i64 24,D.str (spell 24),D.int .i64 0],[D.int .i64 6,D.str z,D.int .i64 0]]:aA)=lJ [tok 24,⟨6,z,0⟩]:=λz=>rfl
  cases hm:Nat.blt 1 ks.length with
  |true=>
   obtain⟨sp1,a1,a2,a3⟩:=akh ih (w:=w) (f:=g) (p:=p) (toks:=toks) (sp:=sp) (x:=x) (y:=y) (op:=op) (k:=13) (open':=32) (shut:=33) (by constructor<;>decide) (by constructor<;>decide) au hp hlv hs au hl hu;have hlen:(F6 true (jA 13 op ks.length p ks 0)).length<=9 * sizes ks:=by
    have h1:=Xu (jA 13 op ks.length p ks 0) true;have h2:=X4 (k:=13) (op:=op) (n:=ks.length) (p:=p) (ts:=ks) (j:=0) λu _=>qM u
    rw[JA] at h1;omega
   have p1:=JU [tok 24,⟨6,x,0⟩] (toks++tok 32::(F6 true (jA 13 op ks.length p ks 0)++[tok 33])) sp1 false a2 (by simp only[qx,mV,um,Nat.zero_add] at *;omega);simp only[M.dM,Int.reduceBEq,aS,bG,fV,many,hm,e1,p1,ah,hr,dn,hs,a1,a2];refine⟨sp1, ?_,a2,a3⟩;simp[Hg,hm]
  |false=>
   have h1:ks.length=1:=by
    have h2:=hc.some_ au;have h3:¬1<ks.length:=by rw[<-Nat.blt_eq,hm];simp
    omega
   obtain⟨u,rfl⟩:=zlo.1 h1;rw[sz1] at *;have hb:=OG (k:=13) (op:=op) (n:=[u].length) (p:=p) (j:=0) (qM u);obtain⟨sp1,a1,a2,a3⟩:=QE ih (w:=w) (f:=g) (p:=p) (toks:=toks) (sp:=sp) (x:=x) (y:=y) (op:=op) (k:=13) (j:=0) (u:=u) rfl au hp hlv hs au hl (by rw[sz1];exact hu);rw[pY] at a1;have p1:=JU [tok 24,⟨6,x,0⟩] (toks++vC 13 op [u].length p 0 u) sp1 false a2 (by simp only[qx,mV,um,Nat.zero_add] at *;omega);simp only[M.dM,Int.reduceBEq,aS,bG,fV,many,hm,e1,p1,ah,hr,dn,hs,a1,a2];refine⟨sp1, ?_,a2,a3⟩;rw[QV];simp[Hg,A8,show Nat.blt 1 1=false from rfl]
 ·obtain⟨u,v,z,rfl⟩:=U4 (hc.three rfl);rw[sz3] at *;have hb:=OG (k:=14) (op:=op) (n:=[u,v,z].length) (p:=p) (j:=0) (qM u);have hb2:=OG (k:=14) (op:=op) (n:=[u,v,z].length) (p:=p) (j:=1) (qM v);have e1:=(lZ 65 (by constructor<;>decide)).1;have e2:=(lZ 66 (by constructor<;>decide)).1;obtain⟨sp1,a1,a2,a3⟩:=QE ih (w:=w) (f:=g) (p:=p) (toks:=toks) (sp:=sp) (x:=x) (y:=y) (op:=op) (k:=14) (j:=0) (u:=u) rfl au hp hlv hs au au (by rw[sz3];exact hu);rw[pY] at a1;have p1:=JU [tok 65] (toks++vC 14 op [u,v,z].length p 0 u) sp1 false a2 (by simp only[qx,mV,um,Nat.zero_add] at *;omega);obtain⟨sp2,b1,b2,b3⟩:=QE ih (w:=w) (f:=g) (p:=p) (toks:=toks++vC 14 op [u,v,z].length p 0 u++[tok 65]) (sp:=sp1) (x:=x) (y:=y) (op:=op) (k:=14) (j:=1) (u:=v) rfl au hp hlv a2 (by simp only[qx,mV,um,Nat.zero_add] at *;omega) au (by rw[sz3];exact hu);rw[VN] at b1;have p2:=JU [tok 66] (toks++vC 14 op [u,v,z].length p 0 u++[tok 65]++vC 14 op [u,v,z].length p 1 v) sp2 false b2 (by simp only[qx,mV,um,Nat.zero_add] at *;omega);obtain⟨sp3,c1,c2,c3⟩:=QE ih (w:=w) (f:=g) (p:=p) (toks:=toks++vC 14 op [u,v,z].length p 0 u++[tok 65]++vC 14 op [u,v,z].length p 1 v++[tok 66]) (sp:=sp2) (x:=x) (y:=y) (op:=op) (k:=14) (j:=2) (u:=z) rfl au hp hlv b2 (by simp only[qx,mV,um,Nat.zero_add] at *;omega) au (by rw[sz3];exact hu);rw[arv] at c1;simp only[M.dM,Int.reduceBEq,aS,bG,e1,e2,p1,p2,ah,xO,dn,hs,a1,a2,b1,b2,c1,c2];refine⟨sp3, ?_,c2,au⟩;rw[avN];simp[Hg,A8]
 ·obtain⟨u,v,rfl⟩:=LZ (hc.two au);rw[sz2] at *;have hb:=OG (k:=15) (op:=op) (n:=[u,v].length) (p:=p) (j:=0) (qM u);obtain⟨sp1,a1,a2,a3⟩:=QE ih (w:=w) (f:=g) (p:=p) (toks:=toks) (sp:=sp) (x:=x) (y:=y) (op:=op) (k:=15) (j:=0) (u:=u) rfl au hp hlv hs au au (by rw[sz2];exact hu);rw[pY] at a1
  by_cases h99:op=99
  ·have e99:(op !=99)=false:=by simp[h99]
   obtain⟨sp2,b1,b2,b3⟩:=QE ih (w:=w) (f:=g) (p:=p) (toks:=toks++vC 15 op [u,v].length p 0 u) (sp:=sp1) (x:=x) (y:=y) (op:=op) (k:=15) (j:=1) (u:=v) rfl au hp hlv a2 (by simp only[qx,mV,um,Nat.zero_add] at *;omega) au (by rw[sz2];exact hu);rw[VN] at b1;simp only[M.dM,Int.reduceBEq,aS,bG,e99,ah,xO,dn,hs,a1,a2,b1,b2];refine⟨sp2, ?_,b2,au⟩;rw[Xv];simp[Hg,A8,h99]
  ·have e99:(op !=99)=true:=by simpa using h99
   have e98:(op==99)=false:=by simpa using h99
   have e1:=(lZ op (by rcases hc.asg rfl with rfl|h<;>constructor<;>omega)).1;have p1:=JU [tok op] (toks++vC 15 op [u,v].length p 0 u) sp1 false a2 (by simp only[qx,mV,um,Nat.zero_add] at *;omega);obtain⟨sp2,b1,b2,b3⟩:=QE ih (w:=w) (f:=g) (p:=p) (toks:=toks++vC 15 op [u,v].length p 0 u++[tok op]) (sp:=sp1) (x:=x) (y:=y) (op:=op) (k:=15) (j:=1) (u:=v) rfl au hp hlv a2 (by simp only[qx,mV,um,Nat.zero_add] at *;omega) au (by rw[sz2];exact hu);rw[VN] at b1;simp only[M.dM,Int.reduceBEq,aS,bG,e99,e1,p1,ah,xO,dn,hs,a1,a2,b1,b2];refine⟨sp2, ?_,b2,au⟩;rw[Xv];simp[Hg,A8,e98]
end
def ap9(sp:aA)(a b:Int)(hs:ay sp=true):ay (sp++[[D.int .i64 a,D.int .i64 b]])=true:=by simp only[ay,List.all_append,FN] at hs⊢;exact⟨hs,rfl⟩
def aDy(t:Tn):Fb t->Wh t->PT t:=by
 refine Tn.ind (P:=λt=>Fb t->Wh t->PT t) ?_ t;intro k op x y ks ih hok he w f p toks sp hf hp hs ht hl hu;have hc:=Px hok;have ih':∀u,u∈ks->PT u:=λu hm=>by obtain⟨i,hi⟩:=List.mem_iff_getElem?.1 hm;obtain⟨h1,h2⟩:=aaP hok he hi;exact ih u hm h2 h1
 have he':1<=k∧k<=15:=he;have hlv:lvl k op≠0:=by have:=TR he' hc;omega
 rw[Tn.size] at hf ht hl hu⊢;obtain⟨g,rfl⟩:∃g,f=g+1:=⟨f - 1,au⟩
 simp only[Tn.kind,Tn.op,Tn.text,Tn.other,Tn.kids];rw[M.Yd,wH];have done:∀(out:List Tk) (sp':aA) (c:Option (aA×aA×Bool)),ay sp'=true->sp'.length<=sp.length+sizes ks->c=some (lJ (toks++out),sp'++[[D.int .i64 (toks.length:Int),D.int .i64 ((toks++out).length:Int)]],false)->Wr toks sp (sizes ks+1) out c:=by intro out sp' c h1 h2 h3;exact⟨_,h3,ap9 _ _ _ h1,by rw[qx,J9];omega⟩
 have leaf:∀(z:Int) (h:Hg k op ks.length x (jA k op ks.length p ks 0)=([⟨z,x,0⟩]:List Tk)),Wr toks sp (sizes ks+1) (Hg k op ks.length x (jA k op ks.length p ks 0)) (some (lJ (toks++([⟨z,x,0⟩]:List Tk)),sp++[[D.int .i64 (toks.length:Int),D.int .i64 ((toks++([⟨z,x,0⟩]:List Tk)).length:Int)]],false)):=by intro z h;rw[h];exact done _ sp _ hs au rfl
 have hrow:∀z:Int,([[D.int .i64 z,D.str x,D.int .i64 0]]:aA)=lJ [⟨z,x,0⟩]:=λz=>rfl
 have hput:∀z:Int,M.aY (lJ [⟨z,x,0⟩]) (lJ toks) sp false=some (lJ (toks++[⟨z,x,0⟩]),sp,false):=λz=>JU [⟨z,x,0⟩] toks sp false hs (by simp;omega)
 have sps:∀(s:aA) (a b:Int),ay s=true->ay (s++[[D.int .i64 a,D.int .i64 b]])=true:=ap9;have hk:k=1∨k=2∨k=3∨k=4∨k=5∨k=7∨k=8∨(k=6∨k=9∨k=10∨k=11∨k=12∨k=13∨k=14∨k=15):=by omega
 rcases hk with rfl|rfl|rfl|rfl|rfl|rfl|rfl|hk
 ·simp only[jm,M.iM,Int.reduceBEq,aS,bG,hrow,hput,ah,dn,hs,iF,J9,sps sp _ _ hs];rw[aX au,aS,aX au,aS];exact leaf 6 rfl
 ·simp only[jm,M.iM,Int.reduceBEq,aS,bG,hrow,hput,ah,dn,hs,iF,J9,sps sp _ _ hs];rw[aX au,aS,aX au,aS];exact leaf 3 rfl
 ·simp only[jm,M.iM,Int.reduceBEq,aS,bG,hrow,hput,ah,dn,hs,iF,J9,sps sp _ _ hs];rw[aX au,aS,aX au,aS];exact leaf 4 rfl
 ·simp only[jm,M.iM,Int.reduceBEq,aS,bG,hrow,hput,ah,dn,hs,iF,J9,sps sp _ _ hs];rw[aX au,aS,aX au,aS];exact leaf 5 rfl
 ·obtain⟨sp1,a1,a2,a3⟩:=akh ih' (w:=w) (f:=g) (p:=p) (toks:=toks++[⟨6,x,0⟩]) (sp:=sp) (x:=x) (y:=y) (op:=op) (k:=5) (open':=34) (shut:=35) (by constructor<;>decide) (by constructor<;>decide) au hp hlv hs (by rw[qx,J9];omega) au au;simp only[jm,M.iM,Int.reduceBEq,aS,bG,hrow,hput,ah,dn,hs,a1,a2,iF,J9,sps sp1 _ _ a2];rw[aX au,aS,aX au,aS];have ha:Hg 5 op ks.length x (jA 5 op ks.length p ks 0)=⟨6,x,0⟩::tok 34::(F6 true (jA 5 op ks.length p ks 0)++[tok 35]):=rfl;rw[ha];refine done _ sp1 _ a2 a3 ?_;simp
 ·obtain⟨sp1,a1,a2,a3⟩:=akh ih' (w:=w) (f:=g) (p:=p) (toks:=toks++[⟨7,x,0⟩]) (sp:=sp) (x:=x) (y:=y) (op:=op) (k:=7) (open':=32) (shut:=33) (by constructor<;>decide) (by constructor<;>decide) au hp hlv hs (by rw[qx,J9];omega) au au;simp only[jm,M.iM,Int.reduceBEq,aS,bG,hrow,hput,ah,dn,hs,a1,a2,iF,J9,sps sp1 _ _ a2];rw[aX au,aS,aX au,aS];have ha:Hg 7 op ks.length x (jA 7 op ks.length p ks 0)=⟨7,x,0⟩::tok 32::(F6 true (jA 7 op ks.length p ks 0)++[tok 33]):=rfl;rw[ha];refine done _ sp1 _ a2 a3 ?_;simp
 ·obtain⟨sp1,a1,a2,a3⟩:=akh ih' (w:=w) (f:=g) (p:=p) (toks:=toks++[⟨8,x,0⟩]) (sp:=sp) (x:=x) (y:=y) (op:=op) (k:=8) (open':=32) (shut:=33) (by constructor<;>decide) (by constructor<;>decide) au hp hlv hs (by rw[qx,J9];omega) au au;simp only[jm,M.iM,Int.reduceBEq,aS,bG,hrow,hput,ah,dn,hs,a1,a2,iF,J9,sps sp1 _ _ a2];rw[aX au,aS,aX au,aS];have ha:Hg 8 op ks.length x (jA 8 op ks.length p ks 0)=⟨8,x,0⟩::tok 32::(F6 true (jA 8 op ks.length p ks 0)++[tok 33]):=rfl;rw[ha];refine done _ sp1 _ a2 a3 ?_;simp
 ·obtain⟨sp1,a1,a2,a3⟩:=aDx ih' (w:=w) (f:=g) (p:=p) (toks:=toks) (sp:=sp) (x:=x) (y:=y) (op:=op) (k:=k) hc hk au hp hs au au au;have n1:(k==1)=false:=by rw[MJ];omega
  have n2:(k==2)=false:=by rw[MJ];omega
  have n3:(k==3)=false:=by rw[MJ];omega
  have n4:(k==4)=false:=by rw[MJ];omega
  have n5:(k==5)=false:=by rw[MJ];omega
  have n7:(k==7)=false:=by rw[MJ];omega
  have n8:(k==8)=false:=by rw[MJ];omega
  simp only[jm,M.iM,n1,n2,n3,n4,n5,n7,n8,aS,bG,ah,dn,hs,a1,a2,iF,J9,sps sp1 _ _ a2];rw[aX au,aS,aX au,aS];exact done _ sp1 _ a2 a3 rfl
mutual
def Tf:Tn->Prop
 | .mk _ _ x y ks=>(x.length<=1048576∧y.length<=1048576)∧Ti ks
def Ti:List Tn->Prop
 |[]=>True
 |t::ts=>Tf t∧Ti ts
end
mutual
def aqa:∀(t:Tn) (b:Nat),Tf t↔∀n,n∈t.flat b->Small n
 | .mk k o x y ks,b=>by
  rw[Tf,anJ ks b,Tn.flat];constructor
  ·rintro⟨⟨h1,h2⟩,h3⟩ n hn;rcases List.mem_append.1 hn with hn|hn
   ·exact h3 n hn
   ·simp only[List.mem_singleton] at hn;subst hn;exact⟨h1,h2⟩
  ·intro h;have h1:=h ⟨k,o,x,y,ends ks b⟩ (by simp);exact⟨⟨h1.text,h1.other⟩,λn hn=>h n (List.mem_append_left _ hn)⟩
def anJ:∀(ks:List Tn) (b:Nat),Ti ks↔∀n,n∈kD ks b->Small n
 |[],b=>by simp[Ti,kD]
 |t::ts,b=>by
  rw[Ti,aqa t b,anJ ts (b+t.size),kD];constructor
  ·rintro⟨h1,h2⟩ n hn;rcases List.mem_append.1 hn with hn|hn
   ·exact h1 n hn
   ·exact h2 n hn
  ·intro h;exact⟨λn hn=>h n (List.mem_append_left _ hn),λn hn=>h n (List.mem_append_right _ hn)⟩
end
def xP:∀{ks:List Tn} {u:Tn},Ti ks->u∈ks->Tf u
 |[],_,_,h=>by cases h
 |t::ts,u,h,hu=>by
  rw[Ti] at h;rcases List.mem_cons.1 hu with rfl|hu
  ·exact h.1
  ·exact xP h.2 hu
def Xw:∀{t:Tn},Tf t->Ti t.kids
 | .mk _ _ _ _ _,h=>by rw[Tf] at h;exact h.2
def az2(l:List (aC))(h:∀g,g∈l->g.length<=9)(i:Nat):(l[i]?.getD []).length<=9:=by
 cases hx:l[i]? with
 |none=>simp
 |some g=>exact h g (BX hx)
def aUb:∀g,g∈Xl->g.length<=9:=by decide+kernel
def aUc:∀g,g∈UU->g.length<=9:=by decide+kernel
def MC(k:Int):(spell k).length<=9:=by
 unfold spell;split
 ·simp
 ·split
  ·exact az2 _ aUb _
  ·split
   ·exact az2 _ aUc _
   ·simp
def Sm(l:List Tk):Prop:=∀t,t∈l->t.text.length<=1048576
def Xx:Sm []:=λt h=>by cases h
def wJ{t:Tk}{l:List Tk}(h:t.text.length<=1048576)(hl:Sm l):Sm (t::l):=by
 intro u hu;rcases List.mem_cons.1 hu with rfl|hu
 ·exact h
 ·exact hl u hu
def Py{a b:List Tk}(ha:Sm a)(hb:Sm b):Sm (a++b):=by
 intro u hu;rcases List.mem_append.1 hu with hu|hu
 ·exact ha u hu
 ·exact hb u hu
def L6(k:Int):(tok k).text.length<=1048576:=by have:=MC k;show(spell k).length<=1048576;omega
def Iq{a b:List Tk}(c:Bool)(ha:Sm a)(hb:Sm b):Sm (bif c then a else b):=by cases c<;>assumption
def avO:∀{L:List (List Tk)} (b:Bool),(∀l,l∈L->Sm l)->Sm (F6 b L)
 |[],b,_=>by rw[F6];exact Xx
 |x::l,b,h=>by have h1:=h x Yh;rw[F6];exact Py (Iq _ h1 (wJ (L6 _) h1)) (avO false λl hl=>h l (X9 _ hl))
def aDz{L:List (List Tk)}(h:∀l,l∈L->Sm l)(j:Nat):Sm (A8 L j):=by
 unfold A8;cases hx:L[j]? with
 |none=>exact Xx
 |some l=>exact h l (BX hx)
def aDA{k op:Int}{n:Nat}{x:aC}{L:List (List Tk)}(hx:x.length<=1048576)(h:∀l,l∈L->Sm l):Sm (Hg k op n x L):=by
 have t1:∀z:Int,Sm [⟨z,x,0⟩]:=λz=>wJ hx Xx
 have t2:∀z:Int,Sm [tok z]:=λz=>wJ (L6 z) Xx
 have n1:=aDz h;have c1:=avO true h;unfold Hg;refine Iq _ (t1 _) (Iq _ (t1 _) (Iq _ (t1 _) (Iq _ (t1 _) (Iq _ ?_ (Iq _ ?_ (Iq _ ?_ (Iq _ ?_ (Iq _ ?_ (Iq _ ?_ (Iq _ ?_ (Iq _ ?_ ?_)))))))))))
 ·exact wJ hx (wJ (L6 _) (Py c1 (t2 _)))
 ·exact wJ hx (wJ (L6 _) (Py c1 (t2 _)))
 ·exact wJ hx (wJ (L6 _) (Py c1 (t2 _)))
 ·exact wJ (L6 _) (n1 _)
 ·exact wJ (L6 _) (n1 _)
 ·exact Py (n1 _) (t2 _)
 ·exact Py (Iq _ (wJ (L6 _) (Py c1 (t2 _))) (n1 _)) (wJ (L6 _) (wJ hx Xx))
 ·exact Py (n1 _) (wJ (L6 _) (Py (n1 _) (wJ (L6 _) (n1 _))))
 ·exact Py (n1 _) (Py (Iq _ Xx (t2 _)) (n1 _))
def aqb{k op:Int}{n:Nat}{p:Ps}:∀{ts:List Tn} {j:Nat},(∀u,u∈ts->∀q,Sm (wH u q))->∀l,l∈jA k op n p ts j->Sm l
 |[],j,_,l,hl=>by rw[jA] at hl;cases hl
 |t::ts,j,h,l,hl=>by
  rw[jA] at hl;rcases List.mem_cons.1 hl with rfl|hl
  ·exact Iq _ (h t Yh _) (wJ (L6 _) (Py (h t Yh _) (wJ (L6 _) Xx)))
  ·exact aqb (λu hu=>h u (X9 _ hu)) l hl
def aqc(t:Tn):Tf t->∀p,Sm (wH t p):=by refine Tn.ind (P:=λt=>Tf t->∀p,Sm (wH t p)) ?_ t;intro k op x y ks ih h p;rw[Tf] at h;rw[wH];exact aDA h.1.1 (aqb λu hu q=>ih u hu (xP h.2 hu) q)
def avP{k op:Int}{n:Nat}{p:Ps}{j:Nat}{u:Tn}(h:Tf u):Sm (vC k op n p j u):=
 Iq _ (aqc u h _) (wJ (L6 _) (Py (aqc u h _) (wJ (L6 _) Xx)))
def avQ(t:Tn):Fb t->Wh t->∀p,wH t p≠[]:=by
 refine Tn.ind (P:=λt=>Fb t->Wh t->∀p,wH t p≠[]) ?_ t;intro k op x y ks ih hok he p;have hc:=Px hok;have he':=he;simp only[Wh,Tn.kind] at he';have ih':∀i u,ks[i]? =some u->∀q,wH u q≠[]:=λi u e q=>by obtain⟨h1,h2⟩:=aaP hok he' e;exact ih u (BX e) h2 h1 q
 have kne:∀i u,ks[i]? =some u->vC k op ks.length p i u≠[]:=by
  intro i u e;unfold vC;cases(qh k i||fits u.kind u.op (dP k op ks.length i p)) with
  |true=>exact ih' i u e _
  |false=>simp
 rw[wH];have hk:k=1∨k=2∨k=3∨k=4∨k=5∨k=7∨k=8∨k=6∨k=9∨k=10∨k=11∨k=13∨k=14∨(k=12∨k=15):=au;rcases hk with rfl|rfl|rfl|rfl|rfl|rfl|rfl|rfl|rfl|rfl|rfl|rfl|rfl|hk
 iterate 13 simp[Hg]
 obtain⟨u,v,rfl⟩:=LZ (hc.two au);have h0:vC k op 2 p 0 u≠[]:=kne 0 u rfl;rcases hk with rfl|rfl
 ·rw[Xv];simp[Hg,A8,h0]
 ·rw[Xv];simp[Hg,A8,h0]
def aqd{k op:Int}{n:Nat}{p:Ps}{j:Nat}{u:Tn}(h1:Fb u)(h2:Wh u):vC k op n p j u≠[]:=by
 unfold vC;cases(qh k j||fits u.kind u.op (dP k op n j p)) with
 |true=>exact avQ u h1 h2 _
 |false=>simp
def E8(t:Tn):Int×Int×aC×aA×Int:=(t.kind,t.op,t.text,nK false t.kids,0)
section
variable (t:Tn) (s:aC) (L:List Tn) (a b c d e f g h:Tn)
def JC:(E8 t).1=t.kind:=rfl
def JD:(E8 t).2.1=t.op:=rfl
def JE:(E8 t).2.2.1=t.text:=rfl
def JF:(E8 t).2.2.2.1=nK false t.kids:=rfl
def JG:(E8 t).2.2.2.2=0:=rfl
def JH:aQ (nK false L)=nK false L:=agn false L
def fD:([D.int .i64 t.kind,D.int .i64 t.op,D.str t.text,D.sl false 5 (nK false t.kids),D.int .i64 0]:Row)=Bd false t:=by cases t;rfl
def bZ:(t.kind,t.op,t.text,nK false t.kids,(0:Int))=E8 t:=rfl
def jX:M.aJ s=some (E8 (lV s)):=rfl
def abX:M.wu=some (E8 TQ):=rfl
def anK:M.bF (nK false L)=some (E8 (oz L)):=rfl
def ahu:M.bF [Bd false a,Bd false b]=some (E8 (oz [a,b])):=rfl
def ahv:M.bF [Bd false a,Bd false b,Bd false c]=some (E8 (oz [a,b,c])):=rfl
def arw:M.bF [Bd false a,Bd false b,Bd false c,Bd false d]=some (E8 (oz [a,b,c,d])):=rfl
def aUd:M.bF [Bd false a,Bd false b,Bd false c,Bd false d,Bd false e]=some (E8 (oz [a,b,c,d,e])):=rfl
def agp:M.sK t.kind t.op t.text (nK false t.kids) 0=some (E8 (VY t)):=by cases t;rfl
def aem:M.rF t.kind t.op t.text (nK false t.kids) 0=some (E8 (anC t)):=by cases t;rfl
end
def Fa:∀a b:List Tn,nK false (a++b)=nK false a++nK false b:=λa b=>by simp[XZ]
def abY:∀(L:List Tn) (b:Bool) (x:Tn),QU b (L++[x])=QU b L++(bif L.isEmpty && b then[x] else[lV [44],TQ,x])
 |[],b,x=>by cases b<;>simp[QU]
 |y::L,b,x=>by rw[TV,QU,QU,abY L false x];simp
def agq:∀(L:List Tn) (b:Bool),(QU b L).length<=3 * L.length
 |[],b=>by simp[QU]
 |y::L,b=>by have:=agq L false;cases b<;>simp only[QU,aS,bG,qx,mV,um]<;>omega
def ZL(p:Ps)(ks:List Tn):List Tn:=ks.map λu=>Ba u p
def aaT(p:Ps)(ks:List Tn):(ZL p ks).length=ks.length:=by simp[ZL]
def anL(p:Ps)(ks:List Tn):OX p ks=aaO (ZL p ks):=rfl
def agr{ks:List Tn}{p:Ps}{b:Int×aA->Option ((Int×aA)⊕(Int×aA))}(hu:ks.length<=1048576)
  (hb:∀(j:Nat) u (L:List Tn),ks[j]? =some u->L.length<=4000000->b ((j:Int),nK false L)=some (.inl (((j+1:Nat):Int),nK false (L++(if j=0 then[Ba u p] else[lV [44],TQ,Ba u p])))))
  (he:∀r,b ((ks.length:Int),r)=some (.inr ((ks.length:Int),r))):
  dX b (0,[])=some ((ks.length:Int),nK false (QU true (ZL p ks))):=by
 have:=jh (b:=b) (t:=((ks.length:Int),nK false (QU true (ZL p ks)))) (λj=>((j:Int),nK false (QU true (ZL p (ks.take j))))) ks.length
  (by
   intro j hj;obtain⟨u,hu'⟩:∃u,ks[j]? =some u:=⟨ks[j],by simp[hj]⟩
   have hl:=agq (ZL p (ks.take j)) true;rw[aaT,Ui] at hl;rw[hb j u _ hu' au,gW hu'];have e:ZL p (ks.take j++[u])=ZL p (ks.take j)++[Ba u p]:=by simp[ZL]
   rw[e,abY]
   by_cases h0:j=0
   ·subst h0;rfl
   ·have z:(ZL p (ks.take j)).isEmpty=false:=by
     cases hq:ZL p (ks.take j) with
     |nil=>have:=aaT p (ks.take j);rw[hq,um,Ui] at this;omega
     |cons _ _=>rfl
    rw[if_neg h0,z,Bool.false_and,bG])
  (by rw[he,List.take_length]) 0 (Nat.zero_le _)
 exact this
def avR{k op:Int}{x y:aC}{ks:List Tn}(w:Bool)(hu:sizes ks<=1048575):M.jV k op x y (eU w ks)=some (k,op,x,y,encI (iota ks.length)):=by
 have hkl:=jq ks;have hn:=aek k op x y (eU w ks) (by rw[fV];omega)
 rwa [fV] at hn
def DT(u:Tn):Prop:=∀(w:Bool) (f:Nat) (p:Ps),5 * u.size<=f->mY p=true->
 M.Dz f u.kind u.op u.text u.other (eU w u.kids) p.level p.mG p.sF p.sG p.lD=some (E8 (qj u p))
def ao0{u:Tn}(hD:DT u){w:Bool}{f:Nat}{p:Ps}(hf:5 * u.size+1<=f)(hp:mY p=true)(hu:u.size<=1048576):
  M.yS f u.kind u.op u.text u.other (eU w u.kids) p.level p.mG p.sF p.sG p.lD=some (E8 (Ba u p)):=by
 obtain⟨g,rfl⟩:∃g,f=g+1:=⟨f - 1,au⟩
 have h1:=hD w g p au hp;have h2:=hD w g .top au rfl;simp only[Ps.top] at h2;rw[M.afG];simp only[jm,M.Dx,aek u.kind u.op u.text u.other _ (ap8 hu w),ah,(aei u.kind u.op u.text u.other _ p).1,Ba];cases fits u.kind u.op p with
 |true=>simp only[aS,h1,ah,JC,JD,JE,JF,JG,JH,bZ]
 |false=>simp only[bG,jX,BN.1,h2,ah,JC,JD,JE,JF,JG,JH,fD,ahv,bZ,Ps.top]
section
variable {k op:Int} {x y:aC} {ks:List Tn} (ih:∀u,u∈ks->DT u)
include ih
theorem az3{w:Bool}{f:Nat}{p:Ps}{j:Nat}{u:Tn}(hj:ks[j]? =some u)(hf:5 * u.size+2<=f)(hp:mY p=true)(hlv:lvl k op≠0)(hu:sizes ks<=1048575):
  M.BH f k op x y (eU w ks) (j:Int) p.level p.mG p.sF p.sG p.lD=some (E8 (OC k op ks.length p j u)):=by
 obtain⟨g,rfl⟩:∃g,f=g+1:=⟨f - 1,au⟩
 have hkl:=jq ks;have hju:=(MG.1 hj).1;have hus:=iE (BX hj);have hg:=DN w hj;obtain⟨c0,c1,c2,c3,c4⟩:=jP w u;have hkp:=Xt k op x y (encI (iota ks.length)) j p (by rw[aZ,QD];omega);rw[aZ,QD] at hkp;have hq:=wI (n:=ks.length) (j:=j) hp hju hlv;have e1:=ih u (BX hj);have h1:=e1 w g (dP k op ks.length j p) au hq;have h2:=ao0 e1 (w:=w) (f:=g) (p:=dP k op ks.length j p) au hq au;rw[M.ahp];simp only[jm,M.FW,avR w hu,ah,hg,c0,c1,c2,c3,c4,hkp,Ps.BU,ac3,OC];unfold Ba at h2;cases htg:qh k j with
 |true=>simp only[aS,Bool.true_or,h1,ah,JC,JD,JE,JF,JG,JH,bZ]
 |false=>simp only[bG,Bool.false_or,h2,ah,JC,JD,JE,JF,JG,JH,bZ]
theorem avS{w:Bool}{f:Nat}(hf:5 * sizes ks+2<=f)(hu:sizes ks<=1048575):
  M.Dy f (eU w ks)=some (E8 (OX .top ks)):=by
 obtain⟨g,rfl⟩:∃g,f=g+1:=⟨f - 1,au⟩
 have hkl:=jq ks;rw[M.afH];simp only[jm,M.Dw,M.KW,fV];rw[agr (ks:=ks) (p:=.top) au (λj u L hj hL=> ?_) (λr=> ?_)]
 ·simp only[ah,anK,JC,JD,JE,JF,JG,JH,agp,aem,bZ];rfl
 ·have hjl:=(MG.1 hj).1;have hus:=iE (BX hj);obtain⟨c0,c1,c2,c3,c4⟩:=jP w u;have h1:=ao0 (ih u (BX hj)) (w:=w) (f:=g) (p:=.top) au rfl au;simp only[Ps.top] at h1;have hw:i64.wrap ((j:Int)+1)=((j+1:Nat):Int):=by rw[aG au au];omega
  simp only[jm,M.NZ,M.Ar,DN w hj,c0,c1,c2,c3,c4,ah,jX,abX,M.HY,M.Rq,BN.1,h1,JC,JD,JE,JF,JG,JH,fD,xM,qx,mV,um,hw];rw[zdt au,aS]
  by_cases h0:j=0
  ·subst h0;rw[qw au,bG,aX au,aS,aX au,aS,if_pos rfl,Fa];rfl
  ·rw[zdt au,aS,aX au,aS,aX au,aS,aX au,aS,aX au,aS,if_neg h0,Fa,BO];rfl
 ·simp only[jm,M.NZ,M.Ar];rw[qw au,bG]
end
def Bf{n:Nat}(h:n<=8000000):n.ble 9223372036854775807=true:=aX au
def Uh(k op:Int)(n:Nat)(p:Ps)(u:Tn):sH k op n p [u] 0=[OC k op n p 0 u]:=by rw[sH,sH];rfl
def aki(k op:Int)(n:Nat)(p:Ps)(u v:Tn):sH k op n p [u,v] 0=[OC k op n p 0 u,OC k op n p 1 v]:=by rw[sH,sH,sH];rfl
def avT(k op:Int)(n:Nat)(p:Ps)(u v z:Tn):sH k op n p [u,v,z] 0=[OC k op n p 0 u,OC k op n p 1 v,OC k op n p 2 z]:=by rw[sH,sH,sH,sH];rfl
def ags{k op:Int}{n:Nat}{p:Ps}(ht:∀j,qh k j=false)(hq:∀j,j<n->dP k op n j p=.top):∀(ts:List Tn) (j:Nat),j+ts.length=n->sH k op n p ts j=ZL .top ts
 |[],j,_=>by rw[sH];rfl
 |t::ts,j,hj=>by rw[mV] at hj;rw[sH,hq j au,ht j,ags ht hq ts (j+1) au,Bool.false_or];rfl
def QF{k op:Int}{ks:List Tn}{p:Ps}(hp:mY p=true)(h:(lvl k op=15)∨(k=13∧Nat.blt 1 ks.length=true∧lvl k op≠0))(ht:∀j,qh k j=false):sH k op ks.length p ks 0=ZL .top ks:=by
 refine ags ht (λj hj=> ?_) ks 0 au;rcases h with h|⟨h1,h2,h3⟩
 ·exact Ip hp hj h
 ·have hb:Nat.blt j ks.length=true:=by rw[Nat.blt_eq];exact hj
  have h4:(lvl k op==0)=false:=by simpa using h3
  subst h1;unfold dP;rw[hp,hb,h4,h2];simp
def ayF{op:Int}{x y:aC}{u:Tn}(hD:DT u)(hT:PT u)(hok:Fb u)(he:Wh u)(hs:Tf u){w:Bool}{f:Nat}{p:Ps}(hc:Cnt 11 op y 1)(hf:5 * u.size+3<=f)(hp:mY p=true)(hu:u.size<=1048575):
  M.FC f 11 op x y (eU w [u]) p.level p.mG p.sF p.sG p.lD=some (E8 (qj (.mk 11 op x y [u]) p)):=by
 obtain⟨g,rfl⟩:∃g,f=g+1:=⟨f - 1,au⟩
 have ihD:∀v,v∈[u]->DT v:=by intro v hv;rw[List.mem_singleton.1 hv];exact hD
 have ihT:∀v,v∈[u]->PT v:=by intro v hv;rw[List.mem_singleton.1 hv];exact hT
 have hs1:=sz1 u;have hlv:lvl 11 op≠0:=by simp[lvl]
 have hI:I64 op:=by rcases hc.una rfl with rfl|rfl|rfl<;>constructor<;>decide
 have h1:=az3 ihD (w:=w) (f:=g) (p:=p) (x:=x) (y:=y) (k:=11) (op:=op) (j:=0) (u:=u) rfl au hp hlv au;obtain⟨sp,h2,h3,h4⟩:=QE ihT (w:=w) (f:=5 * u.size+2) (p:=p) (toks:=[]) (sp:=[]) (x:=x) (y:=y) (op:=op) (k:=11) (j:=0) (u:=u) rfl au hp hlv rfl (by simp only[um];omega) (by simp only[um];omega) au;have h2':=M.Yf h2;rw[pY] at h1 h2';have e0:lJ []=[]:=rfl;rw[e0,List.nil_append] at h2';rw[qj,Uh,QV,M.adD];have hne:=aqd (k:=11) (op:=op) (n:=[u].length) (p:=p) (j:=0) hok he;have hsm:=avP (k:=11) (op:=op) (n:=[u].length) (p:=p) (j:=0) hs;generalize vC 11 op [u].length p 0 u=K at *;cases K with
 |nil=>exact absurd rfl hne
 |cons b K=>have hsl:=MC op;have hg:M.uX op (spell op) 0 b.kind b.text b.at_=some (Ik (tok op) b):=abV (tok op) b (by show(spell op).length<=_;omega) (by have:=hsm b Yh;omega);have i0:idx (lJ (b::K)) 0=some (afb b):=rfl;have i1:(lJ (b::K))[0]? =some (afb b):=rfl;simp(disch:=omega) only[jm,M.zC,h2',ah,(nP op hI).2,(lZ op hI).1,i0,i1,cT0,cT1,cT2,hg,h1,jX,JC,JD,JE,JF,JG,JH,fD,ahu,bZ,Bf];have ha:Xo 11 op [u].length x (aiF op [b::K]) [OC 11 op [u].length p 0 u]=oz [lV (bif Ik (tok op) b then spell op++[32] else spell op),OC 11 op [u].length p 0 u]:=rfl;rw[ha];cases Ik (tok op) b<;>rfl
set_option maxHeartbeats 2000000 in
def avU(t:Tn):Fb t->Wh t->Tf t->t.size<=1048576->DT t:=by
 refine Tn.ind (P:=λt=>Fb t->Wh t->Tf t->t.size<=1048576->DT t) ?_ t;intro k op x y ks ih hok he hsm hsz;intro w f p hf hp;have hc:=Px hok;have he':=he;simp only[Wh,Tn.kind] at he';rw[Tf] at hsm;obtain⟨⟨hx,hy⟩,hss⟩:=hsm;rw[Tn.size] at hsz hf;have hkE:∀u,u∈ks->Fb u∧Wh u∧Tf u:=by intro u hu;obtain⟨i,hi⟩:=List.mem_iff_getElem?.1 hu;obtain⟨h1,h2⟩:=aaP hok he' hi;exact⟨h2,h1,xP hss hu⟩
 have ih':∀u,u∈ks->DT u:=by intro u hu;obtain⟨h1,h2,h3⟩:=hkE u hu;have:=iE hu;exact ih u hu h1 h2 h3 au
 obtain⟨g,rfl⟩:∃g,f=g+1:=⟨f - 1,au⟩
 have hlv:lvl k op≠0:=by have:=TR he' hc;omega
 have hL:=avS ih' (w:=w) (f:=g) au au;have hK:∀(j:Nat) u,ks[j]? =some u->M.BH g k op x y (eU w ks) (j:Int) p.level p.mG p.sF p.sG p.lD=some (E8 (OC k op ks.length p j u)):=by intro j u hj;have:=iE (BX hj);exact az3 ih' (w:=w) (f:=g) (p:=p) (x:=x) (y:=y) (k:=k) (op:=op) hj au hp hlv au
 simp only[Tn.kind,Tn.op,Tn.text,Tn.other,Tn.kids];rw[M.afI];have hk:k=1∨k=2∨k=3∨k=4∨k=5∨k=7∨k=8∨k=9∨k=10∨k=6∨k=11∨k=14∨k=13∨k=12∨k=15:=au;rcases hk with rfl|rfl|rfl|rfl|rfl|rfl|rfl|rfl|rfl|rfl|rfl|rfl|rfl|rfl|rfl
 ·simp only[jm,M.eX,Int.reduceBEq,aS,bG,jX,ah,JC,JD,JE,JF,JG,JH,bZ];rfl
 ·simp only[jm,M.eX,Int.reduceBEq,aS,bG,jX,ah,JC,JD,JE,JF,JG,JH,bZ];rfl
 ·simp only[jm,M.eX,Int.reduceBEq,aS,bG,jX,ah,JC,JD,JE,JF,JG,JH,bZ];rfl
 ·simp only[jm,M.eX,Int.reduceBEq,aS,bG,jX,ah,JC,JD,JE,JF,JG,JH,bZ];rfl
 ·simp(disch:=omega) only[jm,M.eX,Int.reduceBEq,aS,bG,jX,ah,hL,JC,JD,JE,JF,JG,JH,fD,ahv,bZ,Bf];rw[qj,QF hp (.inl rfl) (λj=>by simp[qh])];rfl
 ·simp(disch:=omega) only[jm,M.eX,Int.reduceBEq,aS,bG,jX,ah,hL,JC,JD,JE,JF,JG,JH,fD,ahv,bZ,Bf];rw[qj,QF hp (.inl rfl) (λj=>by simp[qh])];rfl
 ·simp(disch:=omega) only[jm,M.eX,Int.reduceBEq,aS,bG,jX,ah,hL,JC,JD,JE,JF,JG,JH,fD,ahv,bZ,Bf];rw[qj,QF hp (.inl rfl) (λj=>by simp[qh])];rfl
 ·obtain⟨u,rfl⟩:=zlo.1 (hc.one au);have hI:I64 op:=by rcases hc.stp au with rfl|rfl<;>constructor<;>decide
  have k0:=hK 0 u rfl;rw[pY] at k0;simp only[jm,M.eX,Int.reduceBEq,aS,bG,jX,ah,(nP op hI).2,k0,JC,JD,JE,JF,JG,JH,fD,ahu,bZ];rw[qj,Uh];rfl
 ·obtain⟨u,rfl⟩:=zlo.1 (hc.one au);have hI:I64 op:=by rcases hc.stp au with rfl|rfl<;>constructor<;>decide
  have k0:=hK 0 u rfl;rw[pY] at k0;simp only[jm,M.eX,Int.reduceBEq,aS,bG,jX,ah,(nP op hI).2,k0,JC,JD,JE,JF,JG,JH,fD,ahu,bZ];rw[qj,Uh];rfl
 ·obtain⟨u,rfl⟩:=zlo.1 (hc.one au);have k0:=hK 0 u rfl;rw[pY] at k0;simp only[jm,M.eX,Int.reduceBEq,aS,bG,jX,ah,k0,JC,JD,JE,JF,JG,JH,fD,ahu,bZ];rw[qj,Uh];rfl
 ·obtain⟨u,rfl⟩:=zlo.1 (hc.one au);obtain⟨h1,h2,h3⟩:=hkE u (by simp);rw[sz1] at hf hsz;have a1:=ayF (x:=x) (ih' u (by simp)) (aDy u h1 h2) h1 h2 h3 (w:=w) (f:=g) (p:=p) hc au hp au;simp only[jm,M.eX,Int.reduceBEq,aS,bG,a1,ah,JC,JD,JE,JF,JG,JH,bZ]
 ·obtain⟨u,v,z,rfl⟩:=U4 (hc.three rfl);have k0:=hK 0 u rfl;have k1:=hK 1 v rfl;have k2:=hK 2 z rfl;rw[pY] at k0;rw[VN] at k1;rw[arv] at k2;simp only[jm,M.eX,Int.reduceBEq,aS,bG,jX,ah,k0,k1,k2,JC,JD,JE,JF,JG,JH,fD,aUd,bZ];rw[qj,avT];rfl
 ·cases hm:Nat.blt 1 ks.length with
  |true=>simp(disch:=omega) only[jm,M.eX,Int.reduceBEq,aS,bG,fV,many,hm,jX,ah,hL,JC,JD,JE,JF,JG,JH,fD,ahv,bZ,Bf];rw[qj,QF hp (.inr ⟨rfl,hm,by simp[lvl]⟩) (λj=>by simp[qh])];simp[Xo,hm,anL]
  |false=>
   have h1:ks.length=1:=by
    have h2:=hc.some_ au;have h3:¬1<ks.length:=by rw[<-Nat.blt_eq,hm];simp
    omega
   obtain⟨u,rfl⟩:=zlo.1 h1;have k0:=hK 0 u rfl;rw[pY] at k0;simp(disch:=omega) only[jm,M.eX,Int.reduceBEq,aS,bG,fV,many,hm,jX,ah,k0,JC,JD,JE,JF,JG,JH,fD,ahu,bZ,Bf];rw[qj,Uh];rfl
 ·obtain⟨u,v,rfl⟩:=LZ (hc.two au);have hI:=ael (hc.bin rfl).1;have hsl:=MC op;have k0:=hK 0 u rfl;have k1:=hK 1 v rfl;rw[pY] at k0;rw[VN] at k1;rw[qj,aki]
  by_cases h99:op=99
  ·subst h99;simp only[jm,M.eX,Int.reduceBEq,aS,bG,jX,ah,k0,k1,JC,JD,JE,JF,JG,JH,fD,ahv,bZ];rfl
  ·by_cases h45:op=45
   ·subst h45;simp(disch:=omega) only[jm,M.eX,Int.reduceBEq,aS,bG,jX,abX,ah,k0,k1,(nP 45 hI).2,JC,JD,JE,JF,JG,JH,fD,arw,agp,aem,bZ,Bf];rfl
   ·by_cases h44:op=44
    ·subst h44;simp(disch:=omega) only[jm,M.eX,Int.reduceBEq,aS,bG,jX,abX,ah,k0,k1,(nP 44 hI).2,JC,JD,JE,JF,JG,JH,fD,arw,agp,aem,bZ,Bf];rfl
    ·have e1:(op==99)=false:=by simpa using h99
     have e2:(op==45)=false:=by simpa using h45
     have e3:(op==44)=false:=by simpa using h44
     simp(disch:=omega) only[jm,M.eX,Int.reduceBEq,e1,e2,e3,aS,bG,jX,abX,ah,k0,k1,(nP op hI).2,qx,mV,um,JC,JD,JE,JF,JG,JH,fD,ahv,bZ,Bf];simp[Xo,e1,e2,e3,yA]
 ·obtain⟨u,v,rfl⟩:=LZ (hc.two au);have hI:I64 op:=by rcases hc.asg rfl with rfl|h<;>constructor<;>omega
  have hsl:=MC op;have k0:=hK 0 u rfl;have k1:=hK 1 v rfl;rw[pY] at k0;rw[VN] at k1;rw[qj,aki];simp(disch:=omega) only[jm,M.eX,Int.reduceBEq,aS,bG,jX,abX,ah,k0,k1,(nP op hI).2,qx,mV,um,JC,JD,JE,JF,JG,JH,fD,ahv,bZ,Bf];simp[Xo,yA]
structure Ex'(u:Tn):Prop where
 ok:Fb u
 e:Wh u
 sm:Tf u
 sz:u.size<=1048576
def akj{u:Tn}(h:Ex' u)(w:Bool){p:Ps}(hp:mY p=true):M.iy u.kind u.op u.text u.other (eU w u.kids) p.level p.mG p.sF p.sG p.lD=some (E8 (Ba u p)):=
 M.adE (ao0 (avU u h.ok h.e h.sm h.sz) (f:=5 * u.size+1) (Nat.le_refl _) hp h.sz)
def agt{u:Tn}(h:Ex' u)(w:Bool):M.kY u.kind u.op u.text u.other (eU w u.kids)=some (E8 (Jz u)):=by have h1:=akj h w (p:=.top) rfl;simp only[Ps.top] at h1;simp only[jm,M.kY,M.Qk,BN.1,ah,h1,JC,JD,JE,JF,JG,JH,bZ];rfl
def agu{u:Tn}(h:u.kind=16∨Ex' u)(w:Bool):M.qE u.kind u.op u.text u.other (eU w u.kids)=some (E8 (SX u)):=by
 simp only[jm,M.qE,M.Ql,SX];rcases h with h|h
 ·rw[h];simp only[beq_self_eq_true,aS,jX,ah,JC,JD,JE,JF,JG,JH,bZ]
 ·have h1:(u.kind==16)=false:=by have:=h.e;unfold Wh at this;rw[MJ];omega
  simp only[h1,bG,jX,agt h w,ah,JC,JD,JE,JF,JG,JH,fD,ahu,bZ]
def aDB{ks:List Tn}(h:∀u,u∈ks->Ex' u)(hs:sizes ks<=1048575)(w:Bool):M.pJ (eU w ks)=some (E8 (OX .top ks)):=
 M.adF (avS (λu hu=>avU u (h u hu).ok (h u hu).e (h u hu).sm (h u hu).sz) (f:=5 * sizes ks+2) (Nat.le_refl _) hs)
def aqe{ks:List Tn}(h:∀u,u∈ks->Ex' u)(hs:sizes ks<=1048575)(w:Bool):M.rH (eU w ks)=some (E8 (OX ⟨1,false,false,true,false⟩ ks)):=by
 have hkl:=jq ks;simp only[jm,M.rH,M.Jd,M.GH,fV];rw[agr (ks:=ks) (p:=⟨1,false,false,true,false⟩) au (λj u L hj hL=> ?_) (λr=> ?_)]
 ·simp only[ah,anK,JC,JD,JE,JF,JG,JH,agp,aem,bZ];rfl
 ·have hjl:=(MG.1 hj).1;have hus:=iE (BX hj);obtain⟨c0,c1,c2,c3,c4⟩:=jP w u;have h1:=akj (h u (BX hj)) w (p:=⟨1,false,false,true,false⟩) rfl;have hw:i64.wrap ((j:Int)+1)=((j+1:Nat):Int):=by rw[aG au au];omega
  simp only[jm,M.JQ,M.xk,DN w hj,c0,c1,c2,c3,c4,ah,jX,abX,M.qC,M.EO,h1,JC,JD,JE,JF,JG,JH,fD,xM,qx,mV,um,hw];rw[zdt au,aS]
  by_cases h0:j=0
  ·subst h0;rw[qw au,bG,aX au,aS,aX au,aS,if_pos rfl,Fa];rfl
  ·rw[zdt au,aS,aX au,aS,aX au,aS,aX au,aS,aX au,aS,if_neg h0,Fa,BO];rfl
 ·simp only[jm,M.JQ,M.xk];rw[qw au,bG]
def avV{ks:List Tn}(h:∀u,u∈ks->Ex' u)(wd:aC)(k op:Int)(x y:aC)(w:Bool):M.xH wd k op x y (eU w ks)=some (E8 (YG wd ks)):=by
 simp only[jm,M.xH,M.N8];cases ks with
 |nil=>rw[show(((eU w []).length:Int)==0)=true from rfl];simp only[aS,jX,ah,JC,JD,JE,JF,JG,JH,bZ];rfl
 |cons u l=>
  have hi:idx (eU w (u::l)) 0=some (u.row w):=rfl;obtain⟨c0,c1,c2,c3,c4⟩:=jP w u;have e0:(((eU w (u::l)).length:Int)==0)=false:=by rw[MJ,fV,mV];omega
  simp only[e0,bG,jX,ah,hi,c0,c1,c2,c3,c4,agu (.inr (h u Yh)) w,JC,JD,JE,JF,JG,JH,fD,ahu,bZ];rfl
def aUe(a b c:Tn):M.bF ([Bd false a]++[Bd false b,Bd false c])=some (E8 (oz [a,b,c])):=rfl
def a5v(a b c d e:Tn):M.bF ([Bd false a]++[Bd false b,Bd false c]++[Bd false d,Bd false e])=some (E8 (oz [a,b,c,d,e])):=rfl
def a5w(a:Tn):M.bF [Bd false a]=some (E8 (oz [a])):=rfl
def agv(w:Bool)(ks:List Tn)(n:Nat):(eU w ks).take n=eU w (ks.take n):=by simp[UG,List.map_take]
def ayG{ks:List Tn}(h:∀u,u∈ks->Ex' u)(hs:sizes ks<=1048575)(op:Int)(x y:aC)(hop:op=0∨op=1)(hy:y≠[]->1<=ks.length)(hyl:y.length<=1048576)(w:Bool):
  M.yc 21 op x y (eU w ks)=some (E8 (aj6 op y ks)):=by
 have hkl:=jq ks;have hst:cStr [D.str [112,114,105,110,116],D.str [112,114,105,110,116,102]] op.toNat=some (bif op==0 then[112,114,105,110,116] else[112,114,105,110,116,102]):=by rcases hop with rfl|rfl<;>rfl
 have hr:(decide (0<=op) && decide (op<2))=true:=by rcases hop with rfl|rfl<;>rfl
 simp only[jm,M.yc,M.Lc,hst,hr,aS,ah,jX,aj6];have gt:∀L:List Tn,decide (((eU w L).length:Int)>0)=Nat.blt 0 L.length:=by intro L;rw[fV];exact X3 0 L.length
 by_cases hy0:y=[]
 ·have e0:(y==[])=true:=by simpa using hy0
  have l1:=aqe h hs w;simp only[e0,Bool.not_true,aS,bG,gt];cases Nat.blt 0 ks.length with
  |true=>simp only[aS,ah,l1,JC,JD,JE,JF,JG,JH,fD,aUe,bZ];rfl
  |false=>simp only[bG,ah,JC,JD,JE,JF,JG,JH,fD,a5w,bZ];rfl
 ·have e0:(y==[])=false:=by simpa using hy0
  have hn:=hy hy0;have hw:i64.wrap (((eU w ks).length:Int) - 1)=((ks.length - 1:Nat):Int):=by rw[fV,aG au au];omega
  have hcut:cut (eU w ks) 0 ((ks.length - 1:Nat):Int)=some (eU w (ks.take (ks.length - 1))):=by rw[ars _ _ (by rw[fV];omega),agv]
  obtain⟨u,hu⟩:∃u,ks[ks.length - 1]? =some u:=⟨ks[ks.length - 1],by simp⟩
  have hnt:zf ks (ks.length - 1)=u:=by rw[zf,hu];rfl
  obtain⟨c0,c1,c2,c3,c4⟩:=jP w u;have he:=akj (h u (BX hu)) w (p:=⟨9,false,false,false,false⟩) rfl;have l1:=aqe (ks:=ks.take (ks.length - 1)) (λv hv=>h v (List.mem_of_mem_take hv)) (by have:=take_size ks (ks.length - 1);omega) w;simp only[e0,Bool.not_false,aS,bG,hw,hcut,ah,gt,hnt];cases Nat.blt 0 (ks.take (ks.length - 1)).length with
  |true=>simp(disch:=omega) only[aS,ah,l1,DN w hu,c0,c1,c2,c3,c4,he,qx,mV,um,JC,JD,JE,JF,JG,JH,fD,a5v,bZ,Bf];rfl
  |false=>simp(disch:=omega) only[aS,bG,ah,l1,DN w hu,c0,c1,c2,c3,c4,he,qx,mV,um,JC,JD,JE,JF,JG,JH,fD,aUe,bZ,Bf];rfl
def ao1:M.CV=some (E8 QC):=rfl
def aUf(a b c d e f g h:Tn):M.bF [Bd false a,Bd false b,Bd false c,Bd false d,Bd false e,Bd false f,Bd false g,Bd false h]=some (E8 (oz [a,b,c,d,e,f,g,h])):=rfl
def ac5:∀(L:List Tn) (x:Tn),E5 (L++[x])=E5 L++[QC,x]
 |[],x=>rfl
 |y::L,x=>by rw[TV,E5,E5,ac5 L x];rfl
def agw:∀(L:List Tn),(E5 L).length=2 * L.length
 |[]=>rfl
 |y::L=>by have:=agw L;rw[E5,mV,mV,this,mV];omega
def agx:∀(L:List Tn) (x:Tn),nU (L++[x])=nU L++[iK x]
 |[],x=>rfl
 |y::L,x=>by rw[TV,nU,nU,agx L x];rfl
def ST(u:Tn):Prop:=∀(w:Bool) (f:Nat),4 * u.size<=f->M.vO f u.kind u.op u.text u.other (eU w u.kids)=some (E8 (iK u))
def BT(u:Tn):Prop:=∀(w:Bool) (f:Nat),4 * u.size<=f+2->M.pX f u.kind u.op u.text u.other (eU w u.kids)=some (E8 (iK u))
def ayH{k op:Int}{x y:aC}{ks:List Tn}(ih:∀u,u∈ks->ST u){w:Bool}{f:Nat}(hf:4 * sizes ks+1<=f)(hu:sizes ks<=1048575):
  M.pX f k op x y (eU w ks)=some (E8 (aj3 (nU ks))):=by
 obtain⟨g,rfl⟩:∃g,f=g+1:=⟨f - 1,au⟩
 have hkl:=jq ks;have hloop:=jh (b:=M.EP (M.vO g) (eU w ks) (ks.length:Int) 0 0 [] 0) (t:=((ks.length:Int),nK false (E5 (nU ks)))) (λj=>((j:Int),nK false (E5 (nU (ks.take j))))) ks.length
  (by
   intro j hj;obtain⟨u,hu'⟩:∃u,ks[j]? =some u:=⟨ks[j],by simp[hj]⟩
   have hus:=iE (BX hu');obtain⟨c0,c1,c2,c3,c4⟩:=jP w u;have h1:=ih u (BX hu') w g au;have hl:=agw (nU (ks.take j));rw[OD,Ui] at hl;have hw:i64.wrap ((j:Int)+1)=((j+1:Nat):Int):=by rw[aG au au];omega
   simp only[jm,M.EP,M.yT,DN w hu',c0,c1,c2,c3,c4,ah,ao1,h1,JC,JD,JE,JF,JG,JH,fD,xM,mV,um,hw];rw[zdt au,aS,aX au,aS,aX au,aS,gW hu',agx,ac5,Fa];rfl)
  (by simp only[jm,M.EP,M.yT];rw[qw au,bG,List.take_length]) 0 (Nat.zero_le _)
 have BM:M.Je (M.vO g) (eU w ks) (ks.length:Int) 0 0 [] 0 (0,[])=some ((ks.length:Int),nK false (E5 (nU ks))):=hloop;rw[M.adI];simp only[jm,M.zD,fV,BM,ah,jX,anK,ao1,JC,JD,JE,JF,JG,JH,agp,fD,arw,bZ];rfl
set_option maxHeartbeats 2000000 in
def avW(t:Tn):Fb t->isS t->Tf t->t.size<=1048576->ST t∧(t.kind=33->BT t):=by
 refine Tn.ind (P:=λt=>Fb t->isS t->Tf t->t.size<=1048576->ST t∧(t.kind=33->BT t)) ?_ t;intro k op x y ks ih hok hs hsm hsz;have hc:=Px hok;simp only[isS,Tn.kind] at hs;rw[Tf] at hsm;obtain⟨⟨hx,hy⟩,hss⟩:=hsm;rw[Tn.size] at hsz;have kE:∀{j:Nat} {u:Tn},ks[j]? =some u->cls k op ks.length j=0->Ex' u:=by intro j u hj hcl;obtain⟨h1,h2⟩:=LW hok hj;rw[hcl] at h1;have:=iE (BX hj);exact⟨h2,h1,xP hss (BX hj),au⟩
 have kE3:∀{j:Nat} {u:Tn},ks[j]? =some u->cls k op ks.length j=3->u.kind=16∨Ex' u:=by
  intro j u hj hcl;obtain⟨h1,h2⟩:=LW hok hj;rw[hcl] at h1;have:=iE (BX hj);rcases h1 with h1|h1
  ·exact .inl h1
  ·exact .inr ⟨h2,h1,xP hss (BX hj),au⟩
 have kB:∀{j:Nat} {u:Tn},ks[j]? =some u->cls k op ks.length j=1->BT u:=by intro j u hj hcl;obtain⟨h1,h2⟩:=LW hok hj;rw[hcl] at h1;have h1':u.kind=33:=h1;have:=iE (BX hj);exact(ih u (BX hj) h2 (by constructor<;>omega) (xP hss (BX hj)) au).2 h1'
 have kS:k=33->∀u,u∈ks->ST u:=by intro e u hu;subst e;obtain⟨j,hj⟩:=List.mem_iff_getElem?.1 hu;obtain⟨h1,h2⟩:=ap2 hok hj (.inr (by simp[cls]));have:=iE hu;exact(ih u hu h2 h1 (xP hss hu) au).1
 have hB:k=33->BT (.mk k op x y ks):=by
  intro e w f hf;have h1:=ayH (k:=k) (op:=op) (x:=x) (y:=y) (kS e) (w:=w) (f:=f) (by rw[Tn.size] at hf;omega) au;have h2:iK (.mk k op x y ks)=aj3 (nU ks):=by rw[iK,e];rfl
  rw[h2];exact h1
 refine⟨λw f hf=> ?_,hB⟩;rw[Tn.size] at hf;obtain⟨g,rfl⟩:∃g,f=g+1:=⟨f - 1,au⟩
 have aE:∀(h:∀j,cls k op ks.length j=0),∀u,u∈ks->Ex' u:=by intro h u hu;obtain⟨j,hj⟩:=List.mem_iff_getElem?.1 hu;exact kE hj (h j)
 simp only[Tn.kind,Tn.op,Tn.text,Tn.other,Tn.kids];rw[M.afK];have hk:k=20∨k=21∨k=22∨k=25∨k=26∨k=23∨k=24∨k=27∨k=28∨k=29∨k=30∨k=31∨k=32∨k=33∨k=34:=au;rcases hk with rfl|rfl|rfl|rfl|rfl|rfl|rfl|rfl|rfl|rfl|rfl|rfl|rfl|rfl|rfl
 ·obtain⟨u,rfl⟩:=zlo.1 (hc.one au);obtain⟨c0,c1,c2,c3,c4⟩:=jP w u;have i0:idx (eU w [u]) 0=some (u.row w):=rfl;have h0:=agt (kE (j:=0) (u:=u) rfl (by simp[cls])) w;simp only[jm,M.fH,Int.reduceBEq,aS,bG,i0,c0,c1,c2,c3,c4,ah,h0,JC,JD,JE,JF,JG,JH,bZ];rw[iK];rfl
 ·have h0:=ayG (aE (λj=>by simp[cls])) au op x y (hc.prn rfl).1 (hc.prn rfl).2 hy w;simp only[jm,M.fH,Int.reduceBEq,aS,bG,ah,h0,JC,JD,JE,JF,JG,JH,bZ];rw[iK];rfl
 ·simp only[jm,M.fH,Int.reduceBEq,aS,bG,ah,jX,JC,JD,JE,JF,JG,JH,bZ];rw[iK];rfl
 ·simp only[jm,M.fH,Int.reduceBEq,aS,bG,ah,jX,JC,JD,JE,JF,JG,JH,bZ];rw[iK];rfl
 ·simp only[jm,M.fH,Int.reduceBEq,aS,bG,ah,jX,JC,JD,JE,JF,JG,JH,bZ];rw[iK];rfl
 ·have h0:=avV (aE (λj=>by simp[cls])) [101,120,105,116] 23 op x y w;simp only[jm,M.fH,Int.reduceBEq,aS,bG,ah,h0,JC,JD,JE,JF,JG,JH,bZ];rw[iK];rfl
 ·have h0:=avV (aE (λj=>by simp[cls])) [114,101,116,117,114,110] 24 op x y w;simp only[jm,M.fH,Int.reduceBEq,aS,bG,ah,h0,JC,JD,JE,JF,JG,JH,bZ];rw[iK];rfl
 ·have h0:=aDB (aE (λj=>by simp[cls])) au w;rw[iK];cases ks with
  |nil=>rw[show eU w []=[] from rfl];simp(disch:=omega) only[jm,M.fH,Int.reduceBEq,aS,bG,um,ah,jX,JC,JD,JE,JF,JG,JH,bZ,Bf,show((((0:Nat):Int))==0)=true from rfl];rfl
  |cons u l=>
   have e0:(((eU w (u::l)).length:Int)==0)=false:=by rw[MJ,fV,mV];omega
   simp(disch:=omega) only[jm,M.fH,Int.reduceBEq,aS,bG,e0,qx,mV,um,ah,h0,jX,JC,JD,JE,JF,JG,JH,fD,ahv,bZ,Bf];rfl
 ·rw[iK];obtain⟨g',rfl⟩:∃g',g=g'+1:=⟨g - 1,au⟩
  rcases hc.cnd rfl with h2|h3
  ·obtain⟨u,v,rfl⟩:=LZ h2;have hs2:=sz2 u v;have i0:idx (eU w [u,v]) 0=some (u.row w):=rfl;have i1:idx (eU w [u,v]) 1=some (v.row w):=rfl;obtain⟨c0,c1,c2,c3,c4⟩:=jP w u;obtain⟨d0,d1,d2,d3,d4⟩:=jP w v;have h0:=agt (kE (j:=0) (u:=u) rfl (by simp[cls])) w;have h1:=kB (j:=1) (u:=v) rfl (by simp[cls]) w g' au;have hl:decide (((eU w [u,v]).length:Int)>2)=false:=rfl;simp only[jm,M.fH,Int.reduceBEq,aS,bG,M.UM,M.uK,i0,i1,c0,c1,c2,c3,c4,d0,d1,d2,d3,d4,hl,ah,h0,h1,jX,JC,JD,JE,JF,JG,JH,fD,arw,bZ];rfl
  ·obtain⟨u,v,z,rfl⟩:=U4 h3;have hs3:=sz3 u v z;have i0:idx (eU w [u,v,z]) 0=some (u.row w):=rfl;have i1:idx (eU w [u,v,z]) 1=some (v.row w):=rfl;have i2:idx (eU w [u,v,z]) 2=some (z.row w):=rfl;obtain⟨c0,c1,c2,c3,c4⟩:=jP w u;obtain⟨d0,d1,d2,d3,d4⟩:=jP w v;obtain⟨e0,e1,e2,e3,e4⟩:=jP w z;have h0:=agt (kE (j:=0) (u:=u) rfl (by simp[cls])) w;have h1:=kB (j:=1) (u:=v) rfl (by simp[cls]) w g' au;have h2:=kB (j:=2) (u:=z) rfl (by simp[cls]) w g' au;have hl:decide (((eU w [u,v,z]).length:Int)>2)=true:=rfl;simp only[jm,M.fH,Int.reduceBEq,aS,bG,M.UM,M.uK,i0,i1,i2,c0,c1,c2,c3,c4,d0,d1,d2,d3,d4,e0,e1,e2,e3,e4,hl,ah,h0,h1,h2,jX,JC,JD,JE,JF,JG,JH,fD,arw,ahv,bZ];rfl
 ·rw[iK];obtain⟨u,v,rfl⟩:=LZ (hc.two au);have hs2:=sz2 u v;have i0:idx (eU w [u,v]) 0=some (u.row w):=rfl;have i1:idx (eU w [u,v]) 1=some (v.row w):=rfl;obtain⟨c0,c1,c2,c3,c4⟩:=jP w u;obtain⟨d0,d1,d2,d3,d4⟩:=jP w v;have h0:=agt (kE (j:=0) (u:=u) rfl (by simp[cls])) w;have h1:=kB (j:=1) (u:=v) rfl (by simp[cls]) w g au;simp only[jm,M.fH,Int.reduceBEq,aS,bG,i0,i1,c0,c1,c2,c3,c4,d0,d1,d2,d3,d4,ah,h0,h1,jX,JC,JD,JE,JF,JG,JH,fD,arw,bZ];rfl
 ·rw[iK];obtain⟨u,v,rfl⟩:=LZ (hc.two au);have hs2:=sz2 u v;have i0:idx (eU w [u,v]) 0=some (u.row w):=rfl;have i1:idx (eU w [u,v]) 1=some (v.row w):=rfl;obtain⟨c0,c1,c2,c3,c4⟩:=jP w u;obtain⟨d0,d1,d2,d3,d4⟩:=jP w v;have h0:=kB (j:=0) (u:=u) rfl (by simp[cls]) w g au;have h1:=agt (kE (j:=1) (u:=v) rfl (by simp[cls])) w;simp only[jm,M.fH,Int.reduceBEq,aS,bG,i0,i1,c0,c1,c2,c3,c4,d0,d1,d2,d3,d4,ah,h0,h1,jX,JC,JD,JE,JF,JG,JH,fD,aUd,bZ];rfl
 ·rw[iK];obtain⟨g',rfl⟩:∃g',g=g'+1:=⟨g - 1,au⟩
  obtain⟨u,v,z,q,rfl⟩:=aj7 (hc.four rfl);have hs4:sizes [u,v,z,q]=u.size+(v.size+(z.size+q.size)):=by simp[sizes]
  have i0:idx (eU w [u,v,z,q]) 0=some (u.row w):=rfl;have i1:idx (eU w [u,v,z,q]) 1=some (v.row w):=rfl;have i2:idx (eU w [u,v,z,q]) 2=some (z.row w):=rfl;have i3:idx (eU w [u,v,z,q]) 3=some (q.row w):=rfl;obtain⟨c0,c1,c2,c3,c4⟩:=jP w u;obtain⟨d0,d1,d2,d3,d4⟩:=jP w v;obtain⟨e0,e1,e2,e3,e4⟩:=jP w z;obtain⟨f0,f1,f2,f3,f4⟩:=jP w q;have h1:=agu (kE3 (j:=1) (u:=v) rfl (by simp[cls])) w;have h2:=agu (kE3 (j:=2) (u:=z) rfl (by simp[cls])) w;have h3:=kB (j:=3) (u:=q) rfl (by simp[cls]) w g' au;rcases kE3 (j:=0) (u:=u) rfl (by simp[cls]) with h0|h0
  ·have n0:(u.kind !=16)=false:=by simp[h0]
   have ha:adO 31 op x y [u,v,z,q] (nU [u,v,z,q])=oz [lV [102,111,114,32,40],lV [],lV [59],SX v,lV [59],SX z,lV [41,32],iK q]:=by simp[adO,zf,yA,nU,h0]
   rw[ha];simp only[jm,M.fH,Int.reduceBEq,aS,bG,M.Xi,M.yU,i0,i1,i2,i3,c0,c1,c2,c3,c4,d0,d1,d2,d3,d4,e0,e1,e2,e3,e4,f0,f1,f2,f3,f4,n0,ah,h1,h2,h3,jX,JC,JD,JE,JF,JG,JH,fD,aUf,bZ]
  ·have n0:(u.kind !=16)=true:=by have:=h0.e;unfold Wh at this;simp only[bne_iff_ne];omega
   have n1:(u.kind==16)=false:=by simpa using n0
   have ha:adO 31 op x y [u,v,z,q] (nU [u,v,z,q])=oz [lV [102,111,114,32,40],Ba u ⟨1,false,true,false,false⟩,lV [59],SX v,lV [59],SX z,lV [41,32],iK q]:=by simp[adO,zf,yA,nU,n1]
   have he:=akj h0 w (p:=⟨1,false,true,false,false⟩) rfl;rw[ha];simp only[jm,M.fH,Int.reduceBEq,aS,bG,M.Xi,M.yU,i0,i1,i2,i3,c0,c1,c2,c3,c4,d0,d1,d2,d3,d4,e0,e1,e2,e3,e4,f0,f1,f2,f3,f4,n0,he,ah,h1,h2,h3,jX,JC,JD,JE,JF,JG,JH,fD,aUf,bZ]
 ·rw[iK];obtain⟨u,rfl⟩:=zlo.1 (hc.one au);have hs1:=sz1 u;have i0:idx (eU w [u]) 0=some (u.row w):=rfl;obtain⟨c0,c1,c2,c3,c4⟩:=jP w u;have h0:=kB (j:=0) (u:=u) rfl (by simp[cls]) w g au;simp(disch:=omega) only[jm,M.fH,Int.reduceBEq,aS,bG,qx,mV,um,i0,c0,c1,c2,c3,c4,ah,h0,jX,JC,JD,JE,JF,JG,JH,fD,ahu,bZ,Bf];rfl
 ·have h0:=hB rfl w g (by rw[Tn.size];omega);simp only[Tn.kind,Tn.op,Tn.text,Tn.other,Tn.kids] at h0;simp only[jm,M.fH,Int.reduceBEq,aS,bG,ah,h0,JC,JD,JE,JF,JG,JH,bZ]
 ·simp only[jm,M.fH,Int.reduceBEq,aS,bG,ah,jX,JC,JD,JE,JF,JG,JH,bZ];rw[iK];rfl
structure Bk(u:Tn):Prop where
 ok:Fb u
 k:u.kind=33
 sm:Tf u
 sz:u.size<=1048576
def avX{u:Tn}(h:Bk u)(w:Bool):M.iR u.kind u.op u.text u.other (eU w u.kids)=some (E8 (iK u)):=by have hk:=h.k;exact M.abJ ((avW u h.ok (by constructor<;>omega) h.sm h.sz).2 hk w (4 * u.size) au)
def Ex'.kne{u:Tn}(h:Ex' u):(u.kind==33)=false:=by have:=h.e;unfold Wh at this;rw[MJ];omega
def Bk.keq{u:Tn}(h:Bk u):(u.kind==33)=true:=by rw[h.k];rfl
def aiL(b:Bool)(u:Tn):FM [u] b=bif u.kind==33 then(bif b then[iK u] else[lV [32],iK u]) else(bif b then[Jz u] else[lV [44,32],Jz u]):=by rw[FM,FM,List.append_nil]
def ZE:∀(L:List Tn) (b:Bool) (x:Tn),FM (L++[x]) b=FM L b++FM [x] (L.isEmpty && b)
 |[],b,x=>rfl
 |y::L,b,x=>by rw[TV,FM,FM,ZE L false x,Bool.and_false,List.isEmpty_cons,Bool.false_and,BO]
def abZ:∀(L:List Tn) (b:Bool),(FM L b).length<=2 * L.length
 |[],b=>Nat.le_refl _
 |y::L,b=>by have:=abZ L false;rw[FM,qx,mV];cases(y.kind==33)<;>cases b<;>simp only[aS,bG,mV,um]<;>omega
def aDC{ks:List Tn}(h:∀u,u∈ks->Bk u∨Ex' u)(hn:ks.length<=1000)(k op:Int)(x y:aC)(w:Bool):M.xK k op x y (eU w ks)=some (E8 (oz (FM ks true))):=by
 have hloop:=jh (b:=M.GU (eU w ks) (ks.length:Int) 0 0 [] 0) (t:=((ks.length:Int),nK false (FM ks true))) (λj=>((j:Int),nK false (FM (ks.take j) true))) ks.length
  (by
   intro j hj;obtain⟨u,hu'⟩:∃u,ks[j]? =some u:=⟨ks[j],by simp[hj]⟩
   obtain⟨c0,c1,c2,c3,c4⟩:=jP w u;have hl:=abZ (ks.take j) true;rw[Ui] at hl;have hw:i64.wrap ((j:Int)+1)=((j+1:Nat):Int):=by rw[aG au au];omega
   have he:(ks.take j).isEmpty=decide (j=0):=by
    cases j with
    |zero=>rfl
    |succ j=>cases ks with
     |nil=>simp at hj
     |cons a l=>rfl
   simp only[jm,M.GU,M.AQ,DN w hu',c0,c1,c2,c3,c4,ah];rw[zdt au,aS,gW hu',ZE,he,Bool.and_true,Fa,aiL];rcases h u (BX hu') with hb|hb
   ·have h1:=avX hb w;rw[hb.keq]
    by_cases h0:j=0
    ·subst h0;simp(disch:=omega) only[aS,bG,jX,h1,ah,JC,JD,JE,JF,JG,JH,fD,xM,mV,um,hw,aX];rfl
    ·rw[zdt (show(j:Int)>0 by omega),qw h0];simp(disch:=omega) only[aS,bG,jX,h1,ah,JC,JD,JE,JF,JG,JH,fD,xM,mV,um,hw,aX];rfl
   ·have h1:=agt hb w;rw[hb.kne]
    by_cases h0:j=0
    ·subst h0;simp(disch:=omega) only[aS,bG,jX,h1,ah,JC,JD,JE,JF,JG,JH,fD,xM,mV,um,hw,aX];rfl
    ·rw[zdt (show(j:Int)>0 by omega),qw h0];simp(disch:=omega) only[aS,bG,jX,h1,ah,JC,JD,JE,JF,JG,JH,fD,xM,mV,um,hw,aX];rfl)
  (by simp only[jm,M.GU,M.AQ];rw[qw au,bG,List.take_length]) 0 (Nat.zero_le _)
 have BM:M.LC (eU w ks) (ks.length:Int) 0 0 [] 0 (0,[])=some ((ks.length:Int),nK false (FM ks true)):=hloop;simp only[jm,M.xK,M.Oo,fV,BM,ah,anK,JC,JD,JE,JF,JG,JH,bZ]
def agy:∀(L:List (aC)) (b:Bool) (x:aC),Il (L++[x]) b=Il L b++(bif L.isEmpty && b then x else[44,32]++x)
 |[],b,x=>by simp[Il]
 |y::L,b,x=>by rw[TV,Il,Il,agy L false x,Bool.and_false,List.isEmpty_cons,Bool.false_and,BO]
def Xy:∀(l:List (aC)),joinL [44,32] l=Il l true∧∀x,[44,32]++joinL [44,32] (x::l)=Il (x::l) false
 |[]=>⟨rfl,λx=>by simp[joinL,Il]⟩
 |y::l=>by
  have ih:=(Xy l).2;constructor
  ·cases l with
   |nil=>simp[joinL,Il]
   |cons z l=>have h1:=(Xy l).2 z;rw[joinL,h1];rfl
  ·intro x;rw[joinL,ih y];simp[Il]
def X5{N:Nat}:∀(l:List (aC)) (b:Bool),(∀x,x∈l->x.length<=N)->(Il l b).length<=(N+2) * l.length
 |[],b,_=>by simp[Il]
 |x::l,b,h=>by have h1:=X5 l false (λy hy=>h y (X9 _ hy));have h2:=h x Yh;rw[Il,qx,mV,Nat.mul_add,Nat.mul_one];cases b<;>simp only[aS,bG,qx,mV,um]<;>omega
def aiM:∀l:List (aC),aoM (encS l)=some l
 |[]=>rfl
 |x::l=>by have h:=aiM l;unfold encS at *;rw[OQ,aoM];simp only[h]
def aqf{N:Nat}:∀(l:List (aC)),(∀x,x∈l->x.length<=N)->ak1 l<=N * l.length
 |[],_=>Nat.le_refl _
 |x::l,h=>by have h1:=aqf l (λy hy=>h y (X9 _ hy));have h2:=h x Yh;rw[ak1,mV,Nat.mul_add,Nat.mul_one];omega
def aDD{ks:List Tn}(h:∀u,u∈ks->u.text.length<=1048576)(h0:1<=ks.length)(hn:ks.length<=1000)(k op:Int)(x y:aC)(hx:x.length<=1048576)(w:Bool):M.Ei k op x y (eU w ks)=some (VZ x ks)∧(VZ x ks).length<=1060000000:=by
 obtain⟨A,hA⟩:∃A,ks.take (ks.length - 1)=A:=⟨_,rfl⟩
 have hAl:A.length+1=ks.length:=by rw[<-hA,Ui];omega
 have hAm:∀u,u∈A->u.text.length<=1048576:=λu hu=>h u (List.mem_of_mem_take (hA ▸ hu))
 have hmm:∀z,z∈A.map Tn.text->z.length<=1048576:=by intro z hz;obtain⟨u,hu,rfl⟩:=List.mem_map.1 hz;exact hAm u hu
 have hloop:=jh (b:=M.Jt (eU w A) (A.length:Int) k op x y (eU w ks)) (t:=((A.length:Int),encS (A.map Tn.text))) (λj=>((j:Int),encS ((A.take j).map Tn.text))) A.length
  (by
   intro j hj;obtain⟨u,hu'⟩:∃u,A[j]? =some u:=⟨A[j],by simp[hj]⟩
   obtain⟨c0,c1,c2,c3,c4⟩:=jP w u;have hl:(encS ((A.take j).map Tn.text)).length=j:=by simp[encS];omega
   have hw:i64.wrap ((j:Int)+1)=((j+1:Nat):Int):=by rw[aG au au];omega
   simp only[jm,M.Jt,M.DJ,DN w hu',c0,c1,c2,c3,c4,ah,hl,mV,um,hw];rw[zdt au,aS,aX au,aS,aX au,aS,gW hu',List.map_append,encS,encS,List.map_append];rfl)
  (by simp only[jm,M.Jt,M.DJ];rw[qw au,bG,List.take_length]) 0 (Nat.zero_le _)
 have BM:M.Oq (eU w A) (A.length:Int) k op x y (eU w ks) (0,[])=some ((A.length:Int),encS (A.map Tn.text)):=hloop;have hw:i64.wrap (((eU w ks).length:Int) - 1)=((ks.length - 1:Nat):Int):=by rw[fV,aG au au];omega
 have hcut:cut (eU w ks) 0 ((ks.length - 1:Nat):Int)=some (eU w A):=by rw[ars _ _ (by rw[fV];omega),agv,hA]
 have hs:=aqf _ hmm;rw[List.length_map] at hs;have hj:M.strings_Join (encS (A.map Tn.text)) [44,32]=some (Il (A.map Tn.text) true):=by simp only[M.strings_Join,aiM];rw[aX (by rw[List.length_map];simp only[mV,um];omega),aS,(Xy _).1]
 have hjl:=X5 _ true hmm;rw[List.length_map] at hjl;constructor
 ·rw[fV] at hw;simp only[M.Ei,M.Qq,fV,hw,hcut,ah,BM,hj];rw[aX au,aS,aX (by simp only[qx,mV,um];omega),aS,aX (by simp only[qx,mV,um];omega),aS,aX (by simp only[qx,mV,um];omega),aS,VZ,hA,BO]
 ·rw[VZ,hA];simp only[qx,mV,um];omega
mutual
def Tj:Tn->Prop
 | .mk _ _ x _ ks=>x.length<=1000000000∧Bg ks
def Bg:List Tn->Prop
 |[]=>True
 |t::ts=>Tj t∧Bg ts
end
mutual
def agz:∀(t:Tn) (b:Nat),Tj t->∀n,n∈t.flat b->n.text.length<=1000000000
 | .mk k o x y ks,b,h,n,hn=>by
  rw[Tj] at h;rw[Tn.flat] at hn;rcases List.mem_append.1 hn with hn|hn
  ·exact aiN ks b h.2 n hn
  ·simp only[List.mem_singleton] at hn;subst hn;exact h.1
def aiN:∀(ks:List Tn) (b:Nat),Bg ks->∀n,n∈kD ks b->n.text.length<=1000000000
 |[],b,_,n,hn=>by simp[kD] at hn
 |t::ts,b,h,n,hn=>by
  rw[Bg] at h;rw[kD] at hn;rcases List.mem_append.1 hn with hn|hn
  ·exact agz t b h.1 n hn
  ·exact aiN ts _ h.2 n hn
end
def qN(s:aC):Tj (lV s)↔s.length<=1000000000:=by simp[lV,Tj,Bg]
def anM:Tj TQ:=by simp[TQ,Tj,Bg]
def agA:Tj QC:=by simp[QC,Tj,Bg]
def agB(d:Tn):Tj (VY d)↔Tj d:=by simp[VY,Tj,Bg]
def aqg(d:Tn):Tj (anC d)↔Tj d:=by simp[anC,Tj,Bg]
def xQ(l:List Tn):Tj (oz l)↔Bg l:=by simp[oz,Tj]
def agC:∀l:List Tn,Bg l↔∀t,t∈l->Tj t
 |[]=>by simp[Bg]
 |t::ts=>by simp[Bg,agC ts]
def Xz(a b:List Tn):Bg (a++b)↔Bg a∧Bg b:=by simp only[agC,List.mem_append];exact⟨λh=>⟨λt ht=>h t (.inl ht),λt ht=>h t (.inr ht)⟩,λh t ht=>ht.elim (h.1 t) (h.2 t)⟩
def mM{a b:Tn}(c:Bool)(ha:Tj a)(hb:Tj b):Tj (bif c then a else b):=by cases c<;>assumption
def agD{a b:List Tn}(c:Bool)(ha:Bg a)(hb:Bg b):Bg (bif c then a else b):=by cases c<;>assumption
def anN:∀(L:List Tn) (b:Bool),Bg L->Bg (QU b L)
 |[],b,_=>by simp[QU,Bg]
 |x::l,b,h=>by rw[Bg] at h;rw[QU,Xz];exact⟨agD _ ⟨h.1,trivial⟩ ⟨by simp[qN],anM,h.1,trivial⟩,anN l false h.2⟩
def aiO{L:List Tn}(h:Bg L):Tj (aaO L):=by rw[aaO,aqg,agB,xQ];exact anN L true h
def QG:∀{L:List Tn} (j:Nat),Bg L->Tj (yA L j)
 |[],j,_=>by simp[yA,qN]
 |x::l,0,h=>h.1
 |x::l,j+1,h=>QG (L:=l) j h.2
def avY(k op:Int)(n:Nat){x:aC}(g:Bool){L:List Tn}(hx:x.length<=1048576)(h:Bg L):Tj (Xo k op n x g L):=by
 have hs:=MC op;have h0:=QG 0 h;have h1:=QG 1 h;have h2:=QG 2 h;have hl:=aiO h;unfold Xo;refine mM _ ?_ (mM _ ?_ (mM _ ?_ (mM _ ?_ (mM _ ?_ (mM _ ?_ (mM _ ?_ (mM _ ?_ (mM _ (mM _ ?_ ?_) (mM _ ?_ (mM _ ?_ ?_))))))))))
 all_goals simp only[xQ,aqg,agB,Bg,qN,h0,h1,h2,hl,anM,true_and,and_true,qx,mV,um]
 all_goals first
  |omega
  |(cases g<;>simp only[aS,bG,qx,mV,um]<;>omega)
def aiP{a:Tn}(h:Tj a):Tj (oz [lV [40],a,lV [41]]):=by rw[xQ];exact⟨by simp[qN],h,by simp[qN],trivial⟩
def aiQ(k op:Int)(n:Nat)(p:Ps):∀(ts:List Tn) (j:Nat),(∀u,u∈ts->∀q,Tj (qj u q))->Bg (sH k op n p ts j)
 |[],j,_=>by rw[sH];trivial
 |t::ts,j,h=>by rw[sH];exact⟨mM _ (h t Yh _) (aiP (h t Yh _)),aiQ k op n p ts (j+1) λu hu=>h u (X9 _ hu)⟩
def aiR(t:Tn):Tf t->∀q,Tj (qj t q):=by refine Tn.ind (P:=λt=>Tf t->∀q,Tj (qj t q)) ?_ t;intro k op x y ks ih hs q;rw[Tf] at hs;rw[qj];exact avY _ _ _ _ hs.1.1 (aiQ _ _ _ _ _ _ λu hu=>ih u hu (xP hs.2 hu))
def Pz{t:Tn}(h:Tf t)(q:Ps):Tj (Ba t q):=mM _ (aiR t h q) (aiP (aiR t h _))
def XA:∀{L:List Tn} (j:Nat),Ti L->Tf (zf L j)
 |[],j,_=>by simp[zf,Tf,Ti]
 |x::l,0,h=>h.1
 |x::l,j+1,h=>XA (L:=l) j h.2
def agE{t:Tn}(h:Tf t):Tj (SX t):=by refine mM _ (by simp[qN]) ?_;rw[xQ];exact⟨by simp[qN],Pz h _,trivial⟩
def aiS(p:Ps){L:List Tn}(h:Ti L):Tj (OX p L):=by refine aiO ((agC _).2 λt ht=> ?_);obtain⟨u,hu,rfl⟩:=List.mem_map.1 ht;exact Pz (xP h hu) p
def aiT:∀{L:List Tn} (n:Nat),Ti L->Ti (L.take n)
 |[],n,_=>by simp[Ti]
 |x::l,0,_=>by simp[Ti]
 |x::l,n+1,h=>⟨h.1,aiT n h.2⟩
def agF:∀{L:List Tn},Bg L->Bg (E5 L)
 |[],_=>trivial
 |d::l,h=>⟨agA,h.1,agF h.2⟩
def avZ{L:List Tn}(h:Bg L):Tj (aj3 L):=by rw[aj3,xQ];exact⟨by simp[qN],(agB _).2 ((xQ _).2 (agF h)),agA,by simp[qN],trivial⟩
def aiU{w:aC}(hw:w.length<=100):∀{ks:List Tn},Ti ks->Tj (YG w ks)
 |[],_=>by rw[YG,qN];omega
 |t::_,h=>by rw[YG,xQ];exact⟨by rw[qN];omega,agE h.1,trivial⟩
def av1(op:Int){y:aC}(hy:y.length<=1048576){ks:List Tn}(h:Ti ks):Tj (aj6 op y ks):=by
 have h1:Ti (bif y==[] then ks else ks.take (ks.length - 1)):=by
  cases(y==[]) with
  |true=>exact h
  |false=>exact aiT _ h
 unfold aj6;simp only[xQ,Xz];refine⟨⟨?_,trivial⟩,agD _ ⟨by simp[qN],aiS _ h1,trivial⟩ trivial,agD _ trivial ⟨?_,Pz (XA _ h) _,trivial⟩⟩
 ·cases op==0<;>simp[qN]
 ·rw[qN];simp;omega
def av2(k op:Int){x y:aC}{ks L:List Tn}(hx:x.length<=1048576)(hy:y.length<=1048576)(hk:Ti ks)(h:Bg L):Tj (adO k op x y ks L):=by
 have n0:=XA 0 hk;have n1:=XA 1 hk;have n2:=XA 2 hk;have l0:=QG 0 h;have l1:=QG 1 h;have l2:=QG 2 h;have l3:=QG 3 h;have t0:Tj (Jz (zf ks 0)):=Pz n0 _;have t1:Tj (Jz (zf ks 1)):=Pz n1 _;have s1:=agE n1;have s2:=agE n2;unfold adO;refine mM _ t0 (mM _ (av1 op hy hk) (mM _ (by simp[qN]) (mM _ (by simp[qN]) (mM _ (by simp[qN]) (mM _ (aiU (by simp) hk) (mM _ (aiU (by simp) hk) (mM _ ?_ (mM _ ?_ (mM _ ?_ (mM _ ?_ (mM _ ?_ (mM _ ?_ (mM _ (avZ h) ?_)))))))))))))
 ·cases ks with
  |nil=>simp only[qN,qx,mV,um];omega
  |cons u l=>simp only[xQ,Bg,qN,qx,mV,um,aiS .top hk,true_and,and_true];omega
 ·have hd:Tj (oz [lV [105,102,32,40],Jz (zf ks 0),lV [41,32],yA L 1]):=by simp only[xQ,Bg,qN,t0,l1,true_and,and_true,mV,um];omega
  exact mM _ ((xQ _).2 ⟨hd,by simp[qN],l2,trivial⟩) hd
 ·simp only[xQ,Bg,qN,t0,l1,true_and,and_true,mV,um];omega
 ·simp only[xQ,Bg,qN,t1,l0,true_and,and_true,mV,um];omega
 ·have he:Tj (bif(zf ks 0).kind==16 then lV [] else(Ba (zf ks 0)) ⟨1,false,true,false,false⟩):=mM _ (by simp[qN]) (Pz n0 _);simp only[xQ,Bg,qN,he,s1,s2,l3,true_and,and_true,mV,um];omega
 ·simp only[xQ,Bg,qN,l0,true_and,and_true,qx,mV,um];omega
 ·rw[qN];omega
def aiV:∀{ks:List Tn},(∀u,u∈ks->Tj (iK u))->Bg (nU ks)
 |[],_=>by rw[nU];trivial
 |t::ts,h=>by rw[nU];exact⟨h t Yh,aiV λu hu=>h u (X9 _ hu)⟩
def X6(t:Tn):Tf t->Tj (iK t):=by refine Tn.ind (P:=λt=>Tf t->Tj (iK t)) ?_ t;intro k op x y ks ih hs;rw[Tf] at hs;rw[iK];exact av2 k op hs.1.1 hs.1.2 hs.2 (aiV λu hu=>ih u hu (xP hs.2 hu))
def ab1(t:Tn):Prop:=(40<=t.kind∧t.kind<=44)∨t.kind=34
section
variable {k op:Int} {x y:aC} {ks:List Tn} (hok:Fb (.mk k op x y ks)) (hss:Ti ks) (hsz:sizes ks<=1048576)
include hok hss hsz
theorem aDE{j:Nat}{u:Tn}(hj:ks[j]? =some u)(hc:cls k op ks.length j=1):Bk u:=by obtain⟨h1,h2⟩:=LW hok hj;rw[hc] at h1;have:=iE (BX hj);exact⟨h2,h1,xP hss (BX hj),au⟩
theorem a5x{j:Nat}{u:Tn}(hj:ks[j]? =some u)(hc:cls k op ks.length j=0):Ex' u:=by obtain⟨h1,h2⟩:=LW hok hj;rw[hc] at h1;have:=iE (BX hj);exact⟨h2,h1,xP hss (BX hj),au⟩
theorem aUg(hk:k=42∨k=43):∀u,u∈ks->Bk u∨Ex' u:=by
 intro u hu;obtain⟨j,hj⟩:=List.mem_iff_getElem?.1 hu;have:cls k op ks.length j=1∨cls k op ks.length j=0:=by
  rcases hk with rfl|rfl
  ·have e:cls 42 op ks.length j=if op=2∨(op=3∧j+1=ks.length) then 1 else 0:=by simp[cls]
   rw[e];split
   ·exact .inl rfl
   ·exact .inr rfl
  ·have e:cls 43 op ks.length j=if j=2 then 1 else 0:=by simp[cls]
   rw[e];split
   ·exact .inl rfl
   ·exact .inr rfl
 rcases this with h|h
 ·exact .inl (aDE hok hss hsz hj h)
 ·exact .inr (a5x hok hss hsz hj h)
end
def aaU{t:Tn}(h:Tf t):t.text.length<=1048576:=by cases t;exact h.1.1
def agG{ks:List Tn}(h:Ti ks):∀u,u∈ks->u.text.length<=1048576:=λu hu=>aaU (xP h hu)
def Bk.size{u:Tn}(h:Bk u):(iK u).size+2<=40 * u.size:=by have hk:=h.k;exact VH u h.ok (by constructor<;>omega)
def ZF:∀(L:List Tn) (b:Bool),(∀u,u∈L->Bk u∨Ex' u)->sizes (FM L b)<=40 * sizes L
 |[],b,_=>Nat.le_refl _
 |u::l,b,h=>by
  have h1:=ZF l false (λv hv=>h v (X9 _ hv));have h2:=u.uq;rw[FM,kW,sizes];rcases h u Yh with hb|hb
  ·have h3:=hb.size;rw[hb.keq,aS];cases b<;>simp only[aS,bG,sizes,gJ]<;>omega
  ·have h3:=nC u .top;rw[hb.kne,bG];cases b<;>simp only[aS,bG,sizes,gJ,Jz]<;>omega
def aiW:∀(L:List Tn) (b:Bool),Ti L->Bg (FM L b)
 |[],b,_=>trivial
 |u::l,b,h=>by have h1:=aiW l false h.2;have h2:=X6 u h.1;have h3:=Pz h.1 .top;rw[FM,Xz];refine⟨?_,h1⟩;cases(u.kind==33)<;>cases b<;>simp only[aS,bG,Bg,qN,Jz]<;>simp[h2,h3]
def av3{ks:List Tn}(h:1<=ks.length):∃u,ks[ks.length - 1]? =some u∧zf ks (ks.length - 1)=u:=by have:ks.length - 1<ks.length:=au;refine⟨ks[ks.length - 1],by simp[this], ?_⟩;simp[zf,this]
def VO{t:Tn}(hok:Fb t)(hi:ab1 t)(hs:Tf t)(hz:t.size<=1048576):
  (∃u,(t.kind=40∨t.kind=41)∧t.kids=[u]∧Bk u)∨((t.kind=42∨t.kind=43)∧t.kids.length<=7∧∀u,u∈t.kids->Bk u∨Ex' u)∨
  (t.kind=44∧1<=t.kids.length∧t.kids.length<=7∧∃u,t.kids[t.kids.length - 1]? =some u∧zf t.kids (t.kids.length - 1)=u∧Bk u)∨t.kind=34:=by
 have hss:=Xw hs;have hks:=t.uq;obtain⟨k,op,x,y,ks⟩:=t;simp only[Tn.kids,Tn.kind] at *;have hc:=Px hok;unfold ab1 at hi;simp only[Tn.kind] at hi;rcases hi with hi|hi
 ·have hk:(k=40∨k=41)∨(k=42∨k=43)∨k=44:=au;rcases hk with hk|hk|hk
  ·obtain⟨u,rfl⟩:=zlo.1 (hc.one au);refine .inl ⟨u,hk,rfl,aDE hok hss au (j:=0) rfl ?_⟩;rcases hk with rfl|rfl<;>simp[cls]
  ·exact .inr (.inl ⟨hk,hc.few au au,aUg hok hss au hk⟩)
  ·have h1:=hc.some_ au;obtain⟨u,h2,h3⟩:=av3 h1;refine .inr (.inr (.inl ⟨hk,h1,hc.few au au,u,h2,h3,aDE hok hss au h2 ?_⟩));subst hk;simp[cls];omega
 ·exact .inr (.inr (.inr hi))
def agH{t:Tn}(hok:Fb t)(hi:ab1 t)(hs:Tf t)(hz:t.size<=1048576):(itemD t).size+1<=40 * t.size:=by
 have hks:=t.uq;unfold itemD;rcases VO hok hi hs hz with⟨u,hk,hu,hb⟩|⟨hk,hn,hb⟩|⟨hk,h1,h7,u,hu,hn,hb⟩|hk
 ·have h2:=hb.size;rw[hu,sizes,sizes] at hks;rw[hu];rcases hk with hk|hk<;>rw[hk]<;>simp only[Int.reduceBEq,aS,bG,oL,sizes,gJ,zf,List.getElem?_cons_zero,Option.getD_some]<;>omega
 ·have h2:=ZF _ true hb;rcases hk with hk|hk<;>rw[hk]<;>simp only[Int.reduceBEq,aS,bG,Bool.true_or,Bool.or_true,oL]<;>omega
 ·have h2:=hb.size;have h3:=iE (BX hu);rw[hk,hn];simp only[Int.reduceBEq,aS,bG,Bool.or_false,oL,sizes,gJ];omega
 ·have h2:=VH t hok (by constructor<;>omega);rw[hk];simp only[Int.reduceBEq,bG,Bool.or_false];omega
def aiX{ks:List Tn}(h:∀u,u∈ks->u.text.length<=1048576)(h0:1<=ks.length)(hn:ks.length<=7){x:aC}(hx:x.length<=1048576):(VZ x ks).length<=10000000:=by
 have hmm:∀z,z∈(ks.take (ks.length - 1)).map Tn.text->z.length<=1048576:=by intro z hz;obtain⟨u,hu,rfl⟩:=List.mem_map.1 hz;exact h u (List.mem_of_mem_take hu)
 have h1:=X5 _ true hmm;rw[List.length_map,Ui] at h1;rw[VZ];simp only[qx,mV,um];have h2:min (ks.length - 1) ks.length<=6:=au;have h3:(1048576+2) * min (ks.length - 1) ks.length<=(1048576+2) * 6:=Nat.mul_le_mul_left _ h2;omega
def arx{t:Tn}(hok:Fb t)(hi:ab1 t)(hs:Tf t)(hz:t.size<=1048576):Tj (itemD t):=by
 have hss:=Xw hs;have h0:=X6 t hs;unfold itemD;rcases VO hok hi hs hz with⟨u,hk,hu,hb⟩|⟨hk,hn,hb⟩|⟨hk,h1,h7,u,hu,hn,hb⟩|hk
 ·have h2:=X6 u hb.sm;rw[hu];rcases hk with hk|hk<;>rw[hk]<;>simp only[Int.reduceBEq,aS,bG,xQ,Bg,qN,zf,List.getElem?_cons_zero,Option.getD_some]<;>simp[h2]
 ·have h2:=aiW _ true hss;rcases hk with hk|hk<;>rw[hk]<;>simp only[Int.reduceBEq,aS,bG,Bool.true_or,Bool.or_true,xQ]<;>exact h2
 ·have h2:=X6 u hb.sm;have h3:=aiX (agG hss) h1 h7 (aaU hs);rw[hk,hn];simp only[Int.reduceBEq,aS,bG,Bool.or_false,xQ,Bg,qN,qx,mV,um];exact⟨au,h2,trivial⟩
 ·rw[hk];simp only[Int.reduceBEq,bG,Bool.or_false];exact h0
def aDF{t:Tn}(hok:Fb t)(hi:ab1 t)(hs:Tf t)(hz:t.size<=1048576)(w:Bool):M.AO t.kind t.op t.text t.other (eU w t.kids)=some (E8 (itemD t)):=by
 have hss:=Xw hs;simp only[jm,M.AO,M.Ot,itemD];rcases VO hok hi hs hz with⟨u,hk,hu,hb⟩|⟨hk,hn,hb⟩|⟨hk,h1,h7,u,hu,hn,hb⟩|hk
 ·have h2:=avX hb w;obtain⟨c0,c1,c2,c3,c4⟩:=jP w u;have i0:idx (eU w [u]) 0=some (u.row w):=rfl;have e0:zf [u] 0=u:=rfl;rw[hu];rcases hk with hk|hk<;>rw[hk]<;>simp only[Int.reduceBEq,aS,bG,e0,i0,c0,c1,c2,c3,c4,h2,jX,ah,JC,JD,JE,JF,JG,JH,fD,ahu,bZ]
 ·have h2:=aDC hb au t.kind t.op t.text t.other w;rcases hk with hk|hk<;>rw[hk] at h2⊢<;>simp only[Int.reduceBEq,aS,bG,Bool.true_or,Bool.or_true,h2,ah,JC,JD,JE,JF,JG,JH,bZ]
 ·have h2:=avX hb w;have h3:=aDD (agG hss) h1 au t.kind t.op t.text t.other (aaU hs) w;obtain⟨c0,c1,c2,c3,c4⟩:=jP w u;have hw:i64.wrap (((eU w t.kids).length:Int) - 1)=((t.kids.length - 1:Nat):Int):=by rw[fV,aG au au];omega
  have hr:((VZ t.text t.kids).length+1).ble 9223372036854775807=true:=aX (by have:=h3.2;omega);rw[hk] at h3⊢;rw[hn];simp only[Int.reduceBEq,aS,bG,Bool.or_false,h3.1,hr,hw,DN w hu,c0,c1,c2,c3,c4,h2,jX,ah,JC,JD,JE,JF,JG,JH,fD,ahu,bZ]
 ·have h2:=M.adJ ((avW t hok (by constructor<;>omega) hs hz).1 w (4 * t.size) (Nat.le_refl _));rw[hk] at h2⊢;simp only[Int.reduceBEq,bG,Bool.or_false,h2,ah,JC,JD,JE,JF,JG,JH,bZ]
def XB:∀(L:List Tn) (x:Tn),F7 (L++[x])=F7 L++[itemD x,QC]
 |[],x=>rfl
 |y::L,x=>by rw[TV,F7,F7,XB L x];rfl
def ZG:∀(L:List Tn),(F7 L).length=2 * L.length
 |[]=>rfl
 |y::L=>by have:=ZG L;rw[F7,mV,mV,this,mV];omega
structure It(u:Tn):Prop where
 ok:Fb u
 i:ab1 u
 sm:Tf u
 sz:u.size<=1048576
def ac6:∀{L:List Tn},(∀u,u∈L->It u)->sizes (F7 L)<=40 * sizes L
 |[],_=>Nat.le_refl _
 |u::l,h=>by have h1:=ac6 (λv hv=>h v (X9 _ hv));have hu:=h u Yh;have h2:=agH hu.ok hu.i hu.sm hu.sz;rw[F7,sizes,sizes,sizes,aaQ];omega
def agI:∀{L:List Tn},(∀u,u∈L->It u)->Bg (F7 L)
 |[],_=>trivial
 |u::l,h=>by have h1:=agI (λv hv=>h v (X9 _ hv));have hu:=h u Yh;exact⟨arx hu.ok hu.i hu.sm hu.sz,agA,h1⟩
def aDG{t:Tn}(hok:Fb t)(hk:t.kind=45)(hs:Tf t)(hz:t.size<=1048576):∀u,u∈t.kids->It u:=by
 intro u hu;have hss:=Xw hs;have hks:=t.uq;obtain⟨k,op,x,y,ks⟩:=t;simp only[Tn.kids,Tn.kind] at *;obtain⟨j,hj⟩:=List.mem_iff_getElem?.1 hu;obtain⟨h1,h2⟩:=LW hok hj;have hc:cls k op ks.length j=5:=by subst hk;simp[cls]
 rw[hc] at h1;have:=iE hu;exact⟨h2,h1,xP hss hu,au⟩
def akk(s:aC)(h0:s≠[])(hs:s.length<=4000000):M.uy s 0=some ((opF s UU 0 0 0).1,((agd s UU 0:Nat):Int)):=by
 have hl:UU.length=39:=rfl;have hn:1<=s.length:=by cases s with|nil=>exact absurd rfl h0|cons=>simp
 simp only[M.uy,M.TK,M.Rl,anm,ah];rw[ap4 s UU (λi g k m hg hm=> ?_) (λk m=> ?_) avL,ah,aej]
 ·have hi:=(MG.1 hg).1;rw[hl] at hi;have hg2:=avL g (BX hg);have hw1:i64.wrap (30+(i:Int))=30+(i:Int):=aG au au;have hw2:i64.wrap ((i:Int)+1)=(i:Int)+1:=aG au au;have hw3:i64.wrap ((s.length:Int) - 0)=(s.length:Int):=by rw[aG au au];omega
  have hw4:i64.wrap (0+(g.length:Int))=(g.length:Int):=by rw[aG au au];omega
  simp only[M.SH,M.H8,qL,bJ,UR,Uj,hg,OJ,ah,cS0,hw1,hw2,hw3,hw4,hl];rw[zdt (show((i:Int))<((39:Nat):Int) by omega),aS,zdt (show(0:Int)>=0 by omega),aS,zdt (show(0:Int)<=(s.length:Int) by omega),aS]
  by_cases hq:g.length<=s.length
  ·rw[zdt au,aS,ars s g.length hq,ah,pre_eq g s hq,X3];cases Nat.blt m g.length<;>cases g.isPrefixOf s<;>rfl
  ·rw[qw au,bG,aiI g s au,Bool.and_false];rfl
 ·simp only[M.SH,M.H8,qL];rw[qw au,bG]
def ab2(a b:Tk)(ha:a.text.length<=2000000)(hb:b.text.length<=2000000):M.uT a.kind a.text a.at_ b.kind b.text b.at_=some (Ik a b):=by
 rw[ac4];simp only[M.uT,M.KI]
 by_cases h1:a.text=[]
 ·rw[show(a.text==[])=true by simpa using h1,aS,aS]
 ·rw[show(a.text==[])=false by simpa using h1,bG,bG]
  by_cases h2:b.text=[]
  ·rw[show(b.text==[])=true by simpa using h2,aS,aS]
  ·obtain⟨c,hc,hc'⟩:=anI h1 ha;obtain⟨d,hd,hd'⟩:=ap5 h2;have hop:=akk (a.text++b.text) (by simp[h1]) (by simp only[qx];omega);rw[show(b.text==[])=false by simpa using h2,bG,bG,hc',hd'];have hnn:∀(c:Bool) (r:Bool),some (bif !c then false else r)=bif c then some r else some false:=by intro c r;cases c<;>rfl
   simp only[hc,hd,ah,ap6,Qr,fU,hop,X3,ge_iff_le,ZC,ake,U3,hnn,aX (show a.text.length+b.text.length<=9223372036854775807 by omega),aS]
def room{n:Nat}(h:n<=1000000000):n.ble 140737488355328=true:=aX au
def OH{n:Nat}(h:n<=1000000000):(n * 32).ble 140737488355328=true:=aX au
def XC{k op:Int}{x y:aC}{r:aA}{j:Nat}{p:Ps}(he:1<=k∧k<=15)(hc:Cnt k op y r.length)(hj:j<r.length)(hr:r.length<=1048576):
  M.fB k op x y r (j:Int) p.level p.mG p.sF p.sG p.lD=some (dP k op r.length j p).BU:=by
 have hb:Nat.blt j r.length=true:=by rw[Nat.blt_eq];exact hj
 have hl:=TR he hc;have hz:(lvl k op==0)=false:=by rw[MJ];omega
 have ho:=agf op;have h15:(zn op==15)=false:=by rw[MJ];omega
 have h2:k=12->j=0∨j=1:=λe=>by have:=hc.two au;omega
 have hk:k=1∨k=2∨k=3∨k=4∨k=5∨k=6∨k=7∨k=8∨k=9∨k=10∨k=11∨k=13∨k=14∨k=15∨k=12:=au;simp only[M.fB,M.P8,(aaS p).2,fU,ap3 j r.length hr,hb,(VL k op x y r).2,hz,aoZ,BN.2,ah,many,nb0,gt0,dP,Bool.not_true,Bool.false_or,bG];cases mY p with
 |false=>rfl
 |true=>
  rcases hk with rfl|rfl|rfl|rfl|rfl|rfl|rfl|rfl|rfl|rfl|rfl|rfl|rfl|rfl|rfl
  case inr.inr.inr.inr.inr.inr.inr.inr.inr.inr.inr.inr.inr.inr=>have hl12:lvl 12 op=zn op:=rfl;rw[hl12,h15];rcases h2 rfl with rfl|rfl<;>cases p.lD<;>simp[Ps.BU,VG,show Nat.beq 1 0=false from rfl]
  all_goals(cases p.lD<;>cases hq:Nat.beq j 0<;>cases hm:Nat.blt 1 r.length<;>simp[lvl,Ps.BU,Ps.top,VG,hq,hm])
def PS(t:Tn):Prop:=∀(o:Bool) (f:Nat) (p:Ps) (l:List Nd) (b:Nat),l.length<=1048576->Lies l b t->5 * t.size<=f->mY p=true->
 M.Di f (bV o l) false ((b+sizes t.kids:Nat):Int) p.level p.mG p.sF p.sG p.lD=some (lJ (wH t p))
def aUh{u:Tn}(hS:PS u){o:Bool}{f:Nat}{p:Ps}{l:List Nd}{b:Nat}(hl:l.length<=1048576)(h:Lies l b u)(hf:5 * u.size+1<=f)(hp:mY p=true):
  M.uZ f (bV o l) false ((b+sizes u.kids:Nat):Int) p.level p.mG p.sF p.sG p.lD=some (lJ (YF u p)):=by
 obtain⟨g,rfl⟩:∃g,f=g+1:=⟨f - 1,au⟩
 have hlt:=h.lt;have h1:=hS o g p l b hl h au hp;have h2:=hS o g .top l b hl h au rfl;have hb:=qM u .top;have hr:idx (bV o l) ((b+sizes u.kids:Nat):Int)=some (Si o ⟨u.kind,u.op,u.text,u.other,ends u.kids b⟩):=by rw[bJ,oM,Lies.root' h];rfl
 have e1:=(lZ 32 (by constructor<;>decide)).2;have e2:=(lZ 33 (by constructor<;>decide)).2;simp only[Ps.top] at h2 hb;rw[M.ajO];simp only[jm,M.IX,hr,ah,JB,Kq,J3,Kr,Hl,(aei u.kind u.op u.text u.other _ p).2,Bool.not_false,aS,bG,YF];cases fits u.kind u.op p with
 |true=>simp only[aS,h1,ah,dn]
 |false=>simp(disch:=omega) only[bG,e1,e2,BN.2,ah,h2,xO,<-mJ,iF,qx,J9,mV,um,room,OH,dn,aS,Ps.top];rfl
end Go.Proofs.YtbpldgeajbfgnaaGreatDoor
