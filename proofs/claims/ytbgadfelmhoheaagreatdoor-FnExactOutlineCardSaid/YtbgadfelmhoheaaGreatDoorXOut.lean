import Derived.Test.YtbgadfelmhoheaaGreatDoorXTok3
import Derived.Test.YtbgadfelmhoheaaGreatDoorXHigh
set_option linter.defProp false
namespace Go.Proofs.YtbgadfelmhoheaaGreatDoor
set_option linter.unusedVariables false
set_option linter.unusedSimpArgs false
open Go Go.Vm
open Go.IntKind (i64)
mutual
def VE:Tn->Prop
 | .mk _ _ x y ks=>(x.length<=1048576∧y.length<=1048576)∧ae6 ks
def ae6:List Tn->Prop
 |[]=>True
 |t::ts=>VE t∧ae6 ts
end
mutual
def akO:∀(t:Tn) (b:Nat),VE t↔∀n,n∈t.flat b->Small n
 | .mk k o x y ks,b=>by
  rw[VE,aif ks b,Tn.flat];constructor
  ·rintro⟨⟨h1,h2⟩,h3⟩ n hn;rcases List.mem_append.1 hn with hn|hn
   ·exact h3 n hn
   ·simp only[List.mem_singleton] at hn;subst hn;exact⟨h1,h2⟩
  ·intro h;have h1:=h ⟨k,o,x,y,ends ks b⟩ (by simp);exact⟨⟨h1.text,h1.other⟩,λn hn=>h n (List.mem_append_left _ hn)⟩
def aif:∀(ks:List Tn) (b:Nat),ae6 ks↔∀n,n∈jA ks b->Small n
 |[],b=>by simp[ae6,jA]
 |t::ts,b=>by
  rw[ae6,akO t b,aif ts (b+t.size),jA];constructor
  ·rintro⟨h1,h2⟩ n hn;rcases List.mem_append.1 hn with hn|hn
   ·exact h1 n hn
   ·exact h2 n hn
  ·intro h;exact⟨λn hn=>h n (List.mem_append_left _ hn),λn hn=>h n (List.mem_append_right _ hn)⟩
end
def KF:∀{ks:List Tn} {u:Tn},ae6 ks->u∈ks->VE u
 |[],_,_,h=>by cases h
 |t::ts,u,h,hu=>by
  rw[ae6] at h;rcases List.mem_cons.1 hu with rfl|hu
  ·exact h.1
  ·exact KF h.2 hu
def Xa:∀{t:Tn},VE t->ae6 t.kids
 | .mk _ _ _ _ _,h=>by rw[VE] at h;exact h.2
def asn(l:List (aA))(h:∀g,g∈l->g.length<=9)(i:Nat):(l[i]?.getD []).length<=9:=by
 cases hx:l[i]? with
 |none=>simp
 |some g=>exact h g (Gy hx)
def aFE:∀g,g∈QO->g.length<=9:=by decide+kernel
def aFF:∀g,g∈OI->g.length<=9:=by decide+kernel
def GZ(k:Int):(spell k).length<=9:=by
 unfold spell;split
 ·simp
 ·split
  ·exact asn _ aFE _
  ·split
   ·exact asn _ aFF _
   ·simp
def Sm(l:List Tk):Prop:=∀t,t∈l->t.text.length<=1048576
def SE:Sm []:=λt h=>by cases h
def rP{t:Tk}{l:List Tk}(h:t.text.length<=1048576)(hl:Sm l):Sm (t::l):=by
 intro u hu;rcases List.mem_cons.1 hu with rfl|hu
 ·exact h
 ·exact hl u hu
def JB{a b:List Tk}(ha:Sm a)(hb:Sm b):Sm (a++b):=by
 intro u hu;rcases List.mem_append.1 hu with hu|hu
 ·exact ha u hu
 ·exact hb u hu
def Gw(k:Int):(tok k).text.length<=1048576:=by have:=GZ k;show(spell k).length<=1048576;omega
def DY{a b:List Tk}(c:Bool)(ha:Sm a)(hb:Sm b):Sm (bif c then a else b):=by cases c<;>assumption
def apj:∀{L:List (List Tk)} (b:Bool),(∀l,l∈L->Sm l)->Sm (BH b L)
 |[],b,_=>by rw[BH];exact SE
 |x::l,b,h=>by have h1:=h x zmf;rw[BH];exact JB (DY _ h1 (rP (Gw _) h1)) (apj false λl hl=>h l (zmm _ hl))
def awi{L:List (List Tk)}(h:∀l,l∈L->Sm l)(j:Nat):Sm (xM L j):=by
 unfold xM;cases hx:L[j]? with
 |none=>exact SE
 |some l=>exact h l (Gy hx)
def awj{k op:Int}{n:Nat}{x:aA}{L:List (List Tk)}(hx:x.length<=1048576)(h:∀l,l∈L->Sm l):Sm (Dj k op n x L):=by
 have t1:∀z:Int,Sm [⟨z,x,0⟩]:=λz=>rP hx SE
 have t2:∀z:Int,Sm [tok z]:=λz=>rP (Gw z) SE
 have n1:=awi h;have c1:=apj true h;unfold Dj;refine DY _ (t1 _) (DY _ (t1 _) (DY _ (t1 _) (DY _ (t1 _) (DY _ ?_ (DY _ ?_ (DY _ ?_ (DY _ ?_ (DY _ ?_ (DY _ ?_ (DY _ ?_ (DY _ ?_ ?_)))))))))))
 ·exact rP hx (rP (Gw _) (JB c1 (t2 _)))
 ·exact rP hx (rP (Gw _) (JB c1 (t2 _)))
 ·exact rP hx (rP (Gw _) (JB c1 (t2 _)))
 ·exact rP (Gw _) (n1 _)
 ·exact rP (Gw _) (n1 _)
 ·exact JB (n1 _) (t2 _)
 ·exact JB (DY _ (rP (Gw _) (JB c1 (t2 _))) (n1 _)) (rP (Gw _) (rP hx SE))
 ·exact JB (n1 _) (rP (Gw _) (JB (n1 _) (rP (Gw _) (n1 _))))
 ·exact JB (n1 _) (JB (DY _ SE (t2 _)) (n1 _))
def akP{k op:Int}{n:Nat}{p:Ps}:∀{ts:List Tn} {j:Nat},(∀u,u∈ts->∀q,Sm (rM u q))->∀l,l∈gW k op n p ts j->Sm l
 |[],j,_,l,hl=>by rw[gW] at hl;cases hl
 |t::ts,j,h,l,hl=>by
  rw[gW] at hl;rcases List.mem_cons.1 hl with rfl|hl
  ·exact DY _ (h t zmf _) (rP (Gw _) (JB (h t zmf _) (rP (Gw _) SE)))
  ·exact akP (λu hu=>h u (zmm _ hu)) l hl
def akQ(t:Tn):VE t->∀p,Sm (rM t p):=by refine Tn.ind (P:=λt=>VE t->∀p,Sm (rM t p)) ?_ t;intro k op x y ks ih h p;rw[VE] at h;rw[rM];exact awj h.1.1 (akP λu hu q=>ih u hu (KF h.2 hu) q)
def apk{k op:Int}{n:Nat}{p:Ps}{j:Nat}{u:Tn}(h:VE u):Sm (qM k op n p j u):=
 DY _ (akQ u h _) (rP (Gw _) (JB (akQ u h _) (rP (Gw _) SE)))
def apl(t:Tn):Az t->Qw t->∀p,rM t p≠[]:=by
 refine Tn.ind (P:=λt=>Az t->Qw t->∀p,rM t p≠[]) ?_ t;intro k op x y ks ih hok he p;have hc:=I4 hok;have he':=he;simp only[Qw,Tn.kind] at he';have ih':∀i u,ks[i]? =some u->∀q,rM u q≠[]:=λi u e q=>by obtain⟨h1,h2⟩:=Sj hok he' e;exact ih u (Gy e) h2 h1 q
 have kne:∀i u,ks[i]? =some u->qM k op ks.length p i u≠[]:=by
  intro i u e;unfold qM;cases(ni k i||fits u.kind u.op (bZ k op ks.length i p)) with
  |true=>exact ih' i u e _
  |false=>simp
 rw[rM];have hk:k=1∨k=2∨k=3∨k=4∨k=5∨k=7∨k=8∨k=6∨k=9∨k=10∨k=11∨k=13∨k=14∨(k=12∨k=15):=by omega
 rcases hk with rfl|rfl|rfl|rfl|rfl|rfl|rfl|rfl|rfl|rfl|rfl|rfl|rfl|hk
 iterate 13 simp[Dj]
 obtain⟨u,v,rfl⟩:=QG (hc.two (by omega));have h0:qM k op 2 p 0 u≠[]:=kne 0 u rfl;rcases hk with rfl|rfl
 ·rw[SC];simp[Dj,xM,h0]
 ·rw[SC];simp[Dj,xM,h0]
def akR{k op:Int}{n:Nat}{p:Ps}{j:Nat}{u:Tn}(h1:Az u)(h2:Qw u):qM k op n p j u≠[]:=by
 unfold qM;cases(ni k j||fits u.kind u.op (bZ k op n j p)) with
 |true=>exact apl u h1 h2 _
 |false=>simp
def MG(t:Tn):Int×Int×aA×au×Int:=(t.kind,t.op,t.text,vH false t.kids,0)
section
variable (t:Tn) (s:aA) (L:List Tn) (a b c d e f g h:Tn)
def Ya:(MG t).1=t.kind:=rfl
def Yb:(MG t).2.1=t.op:=rfl
def Yc:(MG t).2.2.1=t.text:=rfl
def Yd:(MG t).2.2.2.1=vH false t.kids:=rfl
def Ye:(MG t).2.2.2.2=0:=rfl
def Yf:bJ (vH false L)=vH false L:=WW false L
def nN:([D.int .i64 t.kind,D.int .i64 t.op,D.str t.text,D.sl false 5 (vH false t.kids),D.int .i64 0]:Row)=NV false t:=by cases t;rfl
def jf:(t.kind,t.op,t.text,vH false t.kids,(0:Int))=MG t:=rfl
def yg:M.dO s=some (MG (rO s)):=rfl
def abY:M.vM=some (MG NK):=rfl
def aFG:M.gV (vH false L)=some (MG (qL L)):=rfl
def apm:M.gV [NV false a,NV false b]=some (MG (qL [a,b])):=rfl
def aii:M.gV [NV false a,NV false b,NV false c]=some (MG (qL [a,b,c])):=rfl
def aFH:M.gV [NV false a,NV false b,NV false c,NV false d]=some (MG (qL [a,b,c,d])):=rfl
def aQp:M.gV [NV false a,NV false b,NV false c,NV false d,NV false e]=some (MG (qL [a,b,c,d,e])):=rfl
def ajE:M.vN t.kind t.op t.text (vH false t.kids) 0=some (MG (PI t)):=by cases t;rfl
def ae7:M.rY t.kind t.op t.text (vH false t.kids) 0=some (MG (acI t)):=by cases t;rfl
end
def Xb:∀a b:List Tn,vH false (a++b)=vH false a++vH false b:=λa b=>by simp[X7]
def Yg:∀(L:List Tn) (b:Bool) (x:Tn),Ja b (L++[x])=Ja b L++(bif L.isEmpty && b then[x] else[rO [44],NK,x])
 |[],b,x=>by cases b<;>simp[Ja]
 |y::L,b,x=>by rw[Uo,Ja,Ja,Yg L false x];simp
def abZ:∀(L:List Tn) (b:Bool),(Ja b L).length<=3 * L.length
 |[],b=>by simp[Ja]
 |y::L,b=>by have:=abZ L false;cases b<;>simp only[Ja,aT,cu,qO,ng,zo]<;>omega
def VF(p:Ps)(ks:List Tn):List Tn:=ks.map λu=>CZ u p
def Xc(p:Ps)(ks:List Tn):(VF p ks).length=ks.length:=by simp[VF]
def aij(p:Ps)(ks:List Tn):Um p ks=LG (VF p ks):=rfl
def ajF{ks:List Tn}{p:Ps}{b:Int×au->Option ((Int×au)⊕(Int×au))}(hu:ks.length<=1048576)
  (hb:∀(j:Nat) u (L:List Tn),ks[j]? =some u->L.length<=4000000->b ((j:Int),vH false L)=some (.inl (((j+1:Nat):Int),vH false (L++(if j=0 then[CZ u p] else[rO [44],NK,CZ u p])))))
  (he:∀r,b ((ks.length:Int),r)=some (.inr ((ks.length:Int),r))):
  eF b (0,[])=some ((ks.length:Int),vH false (Ja true (VF p ks))):=by
 have:=fF (b:=b) (t:=((ks.length:Int),vH false (Ja true (VF p ks)))) (λj=>((j:Int),vH false (Ja true (VF p (ks.take j))))) ks.length
  (by
   intro j hj;obtain⟨u,hu'⟩:∃u,ks[j]? =some u:=⟨ks[j],by simp[hj]⟩
   have hl:=abZ (VF p (ks.take j)) true;rw[Xc,PW] at hl;rw[hb j u _ hu' (by omega),fP hu'];have e:VF p (ks.take j++[u])=VF p (ks.take j)++[CZ u p]:=by simp[VF]
   rw[e,Yg]
   by_cases h0:j=0
   ·subst h0;rfl
   ·have z:(VF p (ks.take j)).isEmpty=false:=by
     cases hq:VF p (ks.take j) with
     |nil=>have:=Xc p (ks.take j);rw[hq,zo,PW] at this;omega
     |cons _ _=>rfl
    rw[if_neg h0,z,Bool.false_and,cu])
  (by rw[he,List.take_length]) 0 (Nat.zero_le _)
 exact this
def apn{k op:Int}{x y:aA}{ks:List Tn}(w:Bool)(hu:sizes ks<=1048575):M.iW k op x y (gZ w ks)=some (k,op,x,y,encI (iota ks.length)):=by
 have hkl:=lW ks;have hn:=Z4 k op x y (gZ w ks) (by rw[iY];omega)
 rwa [iY] at hn
def DT(u:Tn):Prop:=∀(w:Bool) (f:Nat) (p:Ps),5 * u.size<=f->jX p=true->
 M.zh f u.kind u.op u.text u.other (gZ w u.kids) p.level p.kM p.oV p.oW p.jU=some (MG (kY u p))
def ajG{u:Tn}(hD:DT u){w:Bool}{f:Nat}{p:Ps}(hf:5 * u.size+1<=f)(hp:jX p=true)(hu:u.size<=1048576):
  M.uS f u.kind u.op u.text u.other (gZ w u.kids) p.level p.kM p.oV p.oW p.jU=some (MG (CZ u p)):=by
 obtain⟨g,rfl⟩:∃g,f=g+1:=⟨f - 1,by omega⟩
 have h1:=hD w g p (by omega) hp;have h2:=hD w g .top (by omega) rfl;simp only[Ps.top] at h2;rw[M.abm];simp only[lK,M.zf,Z4 u.kind u.op u.text u.other _ (akM hu w),ah,(ZW u.kind u.op u.text u.other _ p).1,CZ];cases fits u.kind u.op p with
 |true=>simp only[aT,h1,ah,Ya,Yb,Yc,Yd,Ye,Yf,jf]
 |false=>simp only[cu,yg,JA.1,h2,ah,Ya,Yb,Yc,Yd,Ye,Yf,nN,aii,jf,Ps.top]
section
variable {k op:Int} {x y:aA} {ks:List Tn} (ih:∀u,u∈ks->DT u)
include ih
theorem aso{w:Bool}{f:Nat}{p:Ps}{j:Nat}{u:Tn}(hj:ks[j]? =some u)(hf:5 * u.size+2<=f)(hp:jX p=true)(hlv:lvl k op≠0)(hu:sizes ks<=1048575):
  M.xZ f k op x y (gZ w ks) (j:Int) p.level p.kM p.oV p.oW p.jU=some (MG (DV k op ks.length p j u)):=by
 obtain⟨g,rfl⟩:∃g,f=g+1:=⟨f - 1,by omega⟩
 have hkl:=lW ks;have hju:=(G9.1 hj).1;have hus:=kP (Gy hj);have hg:=PO w hj;obtain⟨c0,c1,c2,c3,c4⟩:=PN w u;have hkp:=SA k op x y (encI (iota ks.length)) j p (by rw[aU,KT];omega);rw[aU,KT] at hkp;have hq:=qo (n:=ks.length) (j:=j) hp hju hlv;have e1:=ih u (Gy hj);have h1:=e1 w g (bZ k op ks.length j p) (by omega) hq;have h2:=ajG e1 (w:=w) (f:=g) (p:=bZ k op ks.length j p) (by omega) hq (by omega);rw[M.acH];simp only[lK,M.Bv,apn w hu,ah,hg,c0,c1,c2,c3,c4,hkp,Ps.yu,Y8,DV];unfold CZ at h2;cases htg:ni k j with
 |true=>simp only[aT,Bool.true_or,h1,ah,Ya,Yb,Yc,Yd,Ye,Yf,jf]
 |false=>simp only[cu,Bool.false_or,h2,ah,Ya,Yb,Yc,Yd,Ye,Yf,jf]
theorem awk{w:Bool}{f:Nat}(hf:5 * sizes ks+2<=f)(hu:sizes ks<=1048575):
  M.DR f (gZ w ks)=some (MG (Um .top ks)):=by
 obtain⟨g,rfl⟩:∃g,f=g+1:=⟨f - 1,by omega⟩
 have hkl:=lW ks;rw[M.abn];simp only[lK,M.y9,M.FZ,iY];rw[ajF (ks:=ks) (p:=.top) (by omega) (λj u L hj hL=> ?_) (λr=> ?_)]
 ·simp only[ah,aFG,Ya,Yb,Yc,Yd,Ye,Yf,ajE,ae7,jf];rfl
 ·have hjl:=(G9.1 hj).1;have hus:=kP (Gy hj);obtain⟨c0,c1,c2,c3,c4⟩:=PN w u;have h1:=ajG (ih u (Gy hj)) (w:=w) (f:=g) (p:=.top) (by omega) rfl (by omega);simp only[Ps.top] at h1;have hw:i64.wrap ((j:Int)+1)=((j+1:Nat):Int):=by rw[aC (by omega) (by omega)];omega
  simp only[lK,M.IL,M.xE,PO w hj,c0,c1,c2,c3,c4,ah,yg,abY,M.Dy,M.L9,JA.1,h1,Ya,Yb,Yc,Yd,Ye,Yf,nN,ae1,qO,ng,zo,hw];rw[zdt (by omega),aT]
  by_cases h0:j=0
  ·subst h0;rw[qN (by omega),cu,bn (by omega),aT,bn (by omega),aT,if_pos rfl,Xb];rfl
  ·rw[zdt (by omega),aT,bn (by omega),aT,bn (by omega),aT,bn (by omega),aT,bn (by omega),aT,if_neg h0,Xb,Bf];rfl
 ·simp only[lK,M.IL,M.xE];rw[qN (by omega),cu]
end
def Je{n:Nat}(h:n<=8000000):n.ble 9223372036854775807=true:=bn (by omega)
def OU(k op:Int)(n:Nat)(p:Ps)(u:Tn):kS k op n p [u] 0=[DV k op n p 0 u]:=by rw[kS,kS];rfl
def ae8(k op:Int)(n:Nat)(p:Ps)(u v:Tn):kS k op n p [u,v] 0=[DV k op n p 0 u,DV k op n p 1 v]:=by rw[kS,kS,kS];rfl
def apo(k op:Int)(n:Nat)(p:Ps)(u v z:Tn):kS k op n p [u,v,z] 0=[DV k op n p 0 u,DV k op n p 1 v,DV k op n p 2 z]:=by rw[kS,kS,kS,kS];rfl
def ab1{k op:Int}{n:Nat}{p:Ps}(ht:∀j,ni k j=false)(hq:∀j,j<n->bZ k op n j p=.top):∀(ts:List Tn) (j:Nat),j+ts.length=n->kS k op n p ts j=VF .top ts
 |[],j,_=>by rw[kS];rfl
 |t::ts,j,hj=>by rw[ng] at hj;rw[kS,hq j (by omega),ht j,ab1 ht hq ts (j+1) (by omega),Bool.false_or];rfl
def KW{k op:Int}{ks:List Tn}{p:Ps}(hp:jX p=true)(h:(lvl k op=15)∨(k=13∧Nat.blt 1 ks.length=true∧lvl k op≠0))(ht:∀j,ni k j=false):kS k op ks.length p ks 0=VF .top ks:=by
 refine ab1 ht (λj hj=> ?_) ks 0 (by omega);rcases h with h|⟨h1,h2,h3⟩
 ·exact DX hp hj h
 ·have hb:Nat.blt j ks.length=true:=by rw[Nat.blt_eq];exact hj
  have h4:(lvl k op==0)=false:=by simpa using h3
  subst h1;unfold bZ;rw[hp,hb,h4,h2];simp
def arp{op:Int}{x y:aA}{u:Tn}(hD:DT u)(hT:PT u)(hok:Az u)(he:Qw u)(hs:VE u){w:Bool}{f:Nat}{p:Ps}(hc:Cnt 11 op y 1)(hf:5 * u.size+3<=f)(hp:jX p=true)(hu:u.size<=1048575):
  M.Ba f 11 op x y (gZ w [u]) p.level p.kM p.oV p.oW p.jU=some (MG (kY (.mk 11 op x y [u]) p)):=by
 obtain⟨g,rfl⟩:∃g,f=g+1:=⟨f - 1,by omega⟩
 have ihD:∀v,v∈[u]->DT v:=by intro v hv;rw[List.mem_singleton.1 hv];exact hD
 have ihT:∀v,v∈[u]->PT v:=by intro v hv;rw[List.mem_singleton.1 hv];exact hT
 have hs1:=Z5 u;have hlv:lvl 11 op≠0:=by simp[lvl]
 have hI:I64 op:=by rcases hc.una rfl with rfl|rfl|rfl<;>constructor<;>decide
 have h1:=aso ihD (w:=w) (f:=g) (p:=p) (x:=x) (y:=y) (k:=11) (op:=op) (j:=0) (u:=u) rfl (by omega) hp hlv (by omega);obtain⟨sp,h2,h3,h4⟩:=KU ihT (w:=w) (f:=5 * u.size+2) (p:=p) (toks:=[]) (sp:=[]) (x:=x) (y:=y) (op:=op) (k:=11) (j:=0) (u:=u) rfl (by omega) hp hlv rfl (by simp only[zo];omega) (by simp only[zo];omega) (by omega);have h2':=M.TK h2;rw[rG] at h1 h2';have e0:jJ []=[]:=rfl;rw[e0,List.nil_append] at h2';rw[kY,OU,Lu,M.Zw];have hne:=akR (k:=11) (op:=op) (n:=[u].length) (p:=p) (j:=0) hok he;have hsm:=apk (k:=11) (op:=op) (n:=[u].length) (p:=p) (j:=0) hs;generalize qM 11 op [u].length p 0 u=K at *;cases K with
 |nil=>exact absurd rfl hne
 |cons b K=>have hsl:=GZ op;have hg:M.qI op (spell op) 0 b.kind b.text b.at_=some (DU (tok op) b):=X8 (tok op) b (by show(spell op).length<=_;omega) (by have:=hsm b zmf;omega);have i0:idx (jJ (b::K)) 0=some (aaV b):=rfl;have i1:(jJ (b::K))[0]? =some (aaV b):=rfl;simp(disch:=omega) only[lK,M.vS,h2',ah,(lG op hI).2,(jY op hI).1,i0,i1,cT0,cT1,cT2,hg,h1,yg,Ya,Yb,Yc,Yd,Ye,Yf,nN,apm,jf,Je];have ha:NU 11 op [u].length x (abJ op [b::K]) [DV 11 op [u].length p 0 u]=qL [rO (bif DU (tok op) b then spell op++[32] else spell op),DV 11 op [u].length p 0 u]:=rfl;rw[ha];cases DU (tok op) b<;>rfl
set_option maxHeartbeats 2000000 in
def awl(t:Tn):Az t->Qw t->VE t->t.size<=1048576->DT t:=by
 refine Tn.ind (P:=λt=>Az t->Qw t->VE t->t.size<=1048576->DT t) ?_ t;intro k op x y ks ih hok he hsm hsz;intro w f p hf hp;have hc:=I4 hok;have he':=he;simp only[Qw,Tn.kind] at he';rw[VE] at hsm;obtain⟨⟨hx,hy⟩,hss⟩:=hsm;rw[Tn.size] at hsz hf;have hkE:∀u,u∈ks->Az u∧Qw u∧VE u:=by intro u hu;obtain⟨i,hi⟩:=List.mem_iff_getElem?.1 hu;obtain⟨h1,h2⟩:=Sj hok he' hi;exact⟨h2,h1,KF hss hu⟩
 have ih':∀u,u∈ks->DT u:=by intro u hu;obtain⟨h1,h2,h3⟩:=hkE u hu;have:=kP hu;exact ih u hu h1 h2 h3 (by omega)
 obtain⟨g,rfl⟩:∃g,f=g+1:=⟨f - 1,by omega⟩
 have hlv:lvl k op≠0:=by have:=KE he' hc;omega
 have hL:=awk ih' (w:=w) (f:=g) (by omega) (by omega);have hK:∀(j:Nat) u,ks[j]? =some u->M.xZ g k op x y (gZ w ks) (j:Int) p.level p.kM p.oV p.oW p.jU=some (MG (DV k op ks.length p j u)):=by intro j u hj;have:=kP (Gy hj);exact aso ih' (w:=w) (f:=g) (p:=p) (x:=x) (y:=y) (k:=k) (op:=op) hj (by omega) hp hlv (by omega)
 simp only[Tn.kind,Tn.op,Tn.text,Tn.other,Tn.kids];rw[M.abo];have hk:k=1∨k=2∨k=3∨k=4∨k=5∨k=7∨k=8∨k=9∨k=10∨k=6∨k=11∨k=14∨k=13∨k=12∨k=15:=by omega
 rcases hk with rfl|rfl|rfl|rfl|rfl|rfl|rfl|rfl|rfl|rfl|rfl|rfl|rfl|rfl|rfl
 ·simp only[lK,M.dL,Int.reduceBEq,aT,cu,yg,ah,Ya,Yb,Yc,Yd,Ye,Yf,jf];rfl
 ·simp only[lK,M.dL,Int.reduceBEq,aT,cu,yg,ah,Ya,Yb,Yc,Yd,Ye,Yf,jf];rfl
 ·simp only[lK,M.dL,Int.reduceBEq,aT,cu,yg,ah,Ya,Yb,Yc,Yd,Ye,Yf,jf];rfl
 ·simp only[lK,M.dL,Int.reduceBEq,aT,cu,yg,ah,Ya,Yb,Yc,Yd,Ye,Yf,jf];rfl
 ·simp(disch:=omega) only[lK,M.dL,Int.reduceBEq,aT,cu,yg,ah,hL,Ya,Yb,Yc,Yd,Ye,Yf,nN,aii,jf,Je];rw[kY,KW hp (.inl rfl) (λj=>by simp[ni])];rfl
 ·simp(disch:=omega) only[lK,M.dL,Int.reduceBEq,aT,cu,yg,ah,hL,Ya,Yb,Yc,Yd,Ye,Yf,nN,aii,jf,Je];rw[kY,KW hp (.inl rfl) (λj=>by simp[ni])];rfl
 ·simp(disch:=omega) only[lK,M.dL,Int.reduceBEq,aT,cu,yg,ah,hL,Ya,Yb,Yc,Yd,Ye,Yf,nN,aii,jf,Je];rw[kY,KW hp (.inl rfl) (λj=>by simp[ni])];rfl
 ·obtain⟨u,rfl⟩:=ZF.1 (hc.one (by omega));have hI:I64 op:=by rcases hc.stp (by omega) with rfl|rfl<;>constructor<;>decide
  have k0:=hK 0 u rfl;rw[rG] at k0;simp only[lK,M.dL,Int.reduceBEq,aT,cu,yg,ah,(lG op hI).2,k0,Ya,Yb,Yc,Yd,Ye,Yf,nN,apm,jf];rw[kY,OU];rfl
 ·obtain⟨u,rfl⟩:=ZF.1 (hc.one (by omega));have hI:I64 op:=by rcases hc.stp (by omega) with rfl|rfl<;>constructor<;>decide
  have k0:=hK 0 u rfl;rw[rG] at k0;simp only[lK,M.dL,Int.reduceBEq,aT,cu,yg,ah,(lG op hI).2,k0,Ya,Yb,Yc,Yd,Ye,Yf,nN,apm,jf];rw[kY,OU];rfl
 ·obtain⟨u,rfl⟩:=ZF.1 (hc.one (by omega));have k0:=hK 0 u rfl;rw[rG] at k0;simp only[lK,M.dL,Int.reduceBEq,aT,cu,yg,ah,k0,Ya,Yb,Yc,Yd,Ye,Yf,nN,apm,jf];rw[kY,OU];rfl
 ·obtain⟨u,rfl⟩:=ZF.1 (hc.one (by omega));obtain⟨h1,h2,h3⟩:=hkE u (by simp);rw[Z5] at hf hsz;have a1:=arp (x:=x) (ih' u (by simp)) (awh u h1 h2) h1 h2 h3 (w:=w) (f:=g) (p:=p) hc (by omega) hp (by omega);simp only[lK,M.dL,Int.reduceBEq,aT,cu,a1,ah,Ya,Yb,Yc,Yd,Ye,Yf,jf]
 ·obtain⟨u,v,z,rfl⟩:=WZ (hc.three rfl);have k0:=hK 0 u rfl;have k1:=hK 1 v rfl;have k2:=hK 2 z rfl;rw[rG] at k0;rw[W9] at k1;rw[aro] at k2;simp only[lK,M.dL,Int.reduceBEq,aT,cu,yg,ah,k0,k1,k2,Ya,Yb,Yc,Yd,Ye,Yf,nN,aQp,jf];rw[kY,apo];rfl
 ·cases hm:Nat.blt 1 ks.length with
  |true=>simp(disch:=omega) only[lK,M.dL,Int.reduceBEq,aT,cu,iY,many,hm,yg,ah,hL,Ya,Yb,Yc,Yd,Ye,Yf,nN,aii,jf,Je];rw[kY,KW hp (.inr ⟨rfl,hm,by simp[lvl]⟩) (λj=>by simp[ni])];simp[NU,hm,aij]
  |false=>
   have h1:ks.length=1:=by
    have h2:=hc.some_ (by omega);have h3:¬1<ks.length:=by rw[<-Nat.blt_eq,hm];simp
    omega
   obtain⟨u,rfl⟩:=ZF.1 h1;have k0:=hK 0 u rfl;rw[rG] at k0;simp(disch:=omega) only[lK,M.dL,Int.reduceBEq,aT,cu,iY,many,hm,yg,ah,k0,Ya,Yb,Yc,Yd,Ye,Yf,nN,apm,jf,Je];rw[kY,OU];rfl
 ·obtain⟨u,v,rfl⟩:=QG (hc.two (by omega));have hI:=Z7 (hc.bin rfl).1;have hsl:=GZ op;have k0:=hK 0 u rfl;have k1:=hK 1 v rfl;rw[rG] at k0;rw[W9] at k1;rw[kY,ae8]
  by_cases h99:op=99
  ·subst h99;simp only[lK,M.dL,Int.reduceBEq,aT,cu,yg,ah,k0,k1,Ya,Yb,Yc,Yd,Ye,Yf,nN,aii,jf];rfl
  ·by_cases h45:op=45
   ·subst h45;simp(disch:=omega) only[lK,M.dL,Int.reduceBEq,aT,cu,yg,abY,ah,k0,k1,(lG 45 hI).2,Ya,Yb,Yc,Yd,Ye,Yf,nN,aFH,ajE,ae7,jf,Je];rfl
   ·by_cases h44:op=44
    ·subst h44;simp(disch:=omega) only[lK,M.dL,Int.reduceBEq,aT,cu,yg,abY,ah,k0,k1,(lG 44 hI).2,Ya,Yb,Yc,Yd,Ye,Yf,nN,aFH,ajE,ae7,jf,Je];rfl
    ·have e1:(op==99)=false:=by simpa using h99
     have e2:(op==45)=false:=by simpa using h45
     have e3:(op==44)=false:=by simpa using h44
     simp(disch:=omega) only[lK,M.dL,Int.reduceBEq,e1,e2,e3,aT,cu,yg,abY,ah,k0,k1,(lG op hI).2,qO,ng,zo,Ya,Yb,Yc,Yd,Ye,Yf,nN,aii,jf,Je];simp[NU,e1,e2,e3,uo]
 ·obtain⟨u,v,rfl⟩:=QG (hc.two (by omega));have hI:I64 op:=by rcases hc.asg rfl with rfl|h<;>constructor<;>omega
  have hsl:=GZ op;have k0:=hK 0 u rfl;have k1:=hK 1 v rfl;rw[rG] at k0;rw[W9] at k1;rw[kY,ae8];simp(disch:=omega) only[lK,M.dL,Int.reduceBEq,aT,cu,yg,abY,ah,k0,k1,(lG op hI).2,qO,ng,zo,Ya,Yb,Yc,Yd,Ye,Yf,nN,aii,jf,Je];simp[NU,uo]
structure Ex'(u:Tn):Prop where
 ok:Az u
 e:Qw u
 sm:VE u
 sz:u.size<=1048576
def awm{u:Tn}(h:Ex' u)(w:Bool){p:Ps}(hp:jX p=true):M.kW u.kind u.op u.text u.other (gZ w u.kids) p.level p.kM p.oV p.oW p.jU=some (MG (CZ u p)):=
 M.Zx (ajG (awl u h.ok h.e h.sm h.sz) (f:=5 * u.size+1) (Nat.le_refl _) hp h.sz)
def aFI{u:Tn}(h:Ex' u)(w:Bool):M.zQ u.kind u.op u.text u.other (gZ w u.kids)=some (MG (Gu u)):=by have h1:=awm h w (p:=.top) rfl;simp only[Ps.top] at h1;simp only[lK,M.zQ,M.Kv,JA.1,ah,h1,Ya,Yb,Yc,Yd,Ye,Yf,jf];rfl
def ajH(w:Bool)(ks:List Tn)(n:Nat):(gZ w ks).take n=gZ w (ks.take n):=by simp[MJ,List.map_take]
def ae9(s:aA)(h0:s≠[])(hs:s.length<=4000000):M.pW s 0=some ((opF s OI 0 0 0).1,((abI s OI 0:Nat):Int)):=by
 have hl:OI.length=39:=rfl;have hn:1<=s.length:=by cases s with|nil=>exact absurd rfl h0|cons=>simp
 simp only[M.pW,M.Ol,M.LY,ahE,ah];rw[akI s OI (λi g k m hg hm=> ?_) (λk m=> ?_) apf,ah,ZX]
 ·have hi:=(G9.1 hg).1;rw[hl] at hi;have hg2:=apf g (Gy hg);have hw1:i64.wrap (30+(i:Int))=30+(i:Int):=aC (by omega) (by omega);have hw2:i64.wrap ((i:Int)+1)=(i:Int)+1:=aC (by omega) (by omega);have hw3:i64.wrap ((s.length:Int) - 0)=(s.length:Int):=by rw[aC (by omega) (by omega)];omega
  have hw4:i64.wrap (0+(g.length:Int))=(g.length:Int):=by rw[aC (by omega) (by omega)];omega
  simp only[M.NC,M.DF,kR,bU,IZ,QS,hg,He,ah,cS0,hw1,hw2,hw3,hw4,hl];rw[zdt (show((i:Int))<((39:Nat):Int) by omega),aT,zdt (show(0:Int)>=0 by omega),aT,zdt (show(0:Int)<=(s.length:Int) by omega),aT]
  by_cases hq:g.length<=s.length
  ·rw[zdt (by omega),aT,arl s g.length hq,ah,pre_eq g s hq,ZY];cases Nat.blt m g.length<;>cases g.isPrefixOf s<;>rfl
  ·rw[qN (by omega),cu,adK g s (by omega),Bool.and_false];rfl
 ·simp only[M.NC,M.DF,kR];rw[qN (by omega),cu]
def Yh(a b:Tk)(ha:a.text.length<=2000000)(hb:b.text.length<=2000000):M.qE a.kind a.text a.at_ b.kind b.text b.at_=some (DU a b):=by
 rw[Y9];simp only[M.qE,M.FP]
 by_cases h1:a.text=[]
 ·rw[show(a.text==[])=true by simpa using h1,aT,aT]
 ·rw[show(a.text==[])=false by simpa using h1,cu,cu]
  by_cases h2:b.text=[]
  ·rw[show(b.text==[])=true by simpa using h2,aT,aT]
  ·obtain⟨c,hc,hc'⟩:=aie h1 ha;obtain⟨d,hd,hd'⟩:=akJ h2;have hop:=ae9 (a.text++b.text) (by simp[h1]) (by simp only[qO];omega);rw[show(b.text==[])=false by simpa using h2,cu,cu,hc',hd'];have hnn:∀(c:Bool) (r:Bool),some (bif !c then false else r)=bif c then some r else some false:=by intro c r;cases c<;>rfl
   simp only[hc,hd,ah,akK,KC,dU,hop,ZY,ge_iff_le,Vr,ae2,PL,hnn,bn (show a.text.length+b.text.length<=9223372036854775807 by omega),aT]
def room{n:Nat}(h:n<=1000000000):n.ble 140737488355328=true:=bn (by omega)
def I7{n:Nat}(h:n<=1000000000):(n * 32).ble 140737488355328=true:=bn (by omega)
def SG{k op:Int}{x y:aA}{r:au}{j:Nat}{p:Ps}(he:1<=k∧k<=15)(hc:Cnt k op y r.length)(hj:j<r.length)(hr:r.length<=1048576):
  M.dN k op x y r (j:Int) p.level p.kM p.oV p.oW p.jU=some (bZ k op r.length j p).yu:=by
 have hb:Nat.blt j r.length=true:=by rw[Nat.blt_eq];exact hj
 have hl:=KE he hc;have hz:(lvl k op==0)=false:=by rw[OV];omega
 have ho:=abL op;have h15:(vG op==15)=false:=by rw[OV];omega
 have h2:k=12->j=0∨j=1:=λe=>by have:=hc.two (by omega);omega
 have hk:k=1∨k=2∨k=3∨k=4∨k=5∨k=6∨k=7∨k=8∨k=9∨k=10∨k=11∨k=13∨k=14∨k=15∨k=12:=by omega
 simp only[M.dN,M.JZ,(WY p).2,dU,akH j r.length hr,hb,(QF k op x y r).2,hz,ajD,JA.2,ah,many,nb0,gt0,bZ,Bool.not_true,Bool.false_or,cu];cases jX p with
 |false=>rfl
 |true=>
  rcases hk with rfl|rfl|rfl|rfl|rfl|rfl|rfl|rfl|rfl|rfl|rfl|rfl|rfl|rfl|rfl
  case inr.inr.inr.inr.inr.inr.inr.inr.inr.inr.inr.inr.inr.inr=>have hl12:lvl 12 op=vG op:=rfl;rw[hl12,h15];rcases h2 rfl with rfl|rfl<;>cases p.jU<;>simp[Ps.yu,Qv,show Nat.beq 1 0=false from rfl]
  all_goals(cases p.jU<;>cases hq:Nat.beq j 0<;>cases hm:Nat.blt 1 r.length<;>simp[lvl,Ps.yu,Ps.top,Qv,hq,hm])
def PS(t:Tn):Prop:=∀(o:Bool) (f:Nat) (p:Ps) (l:List Nd) (b:Nat),l.length<=1048576->Lies l b t->5 * t.size<=f->jX p=true->
 M.yU f (aQ o l) false ((b+sizes t.kids:Nat):Int) p.level p.kM p.oV p.oW p.jU=some (jJ (rM t p))
def aFJ{u:Tn}(hS:PS u){o:Bool}{f:Nat}{p:Ps}{l:List Nd}{b:Nat}(hl:l.length<=1048576)(h:Lies l b u)(hf:5 * u.size+1<=f)(hp:jX p=true):
  M.qJ f (aQ o l) false ((b+sizes u.kids:Nat):Int) p.level p.kM p.oV p.oW p.jU=some (jJ (Ul u p)):=by
 obtain⟨g,rfl⟩:∃g,f=g+1:=⟨f - 1,by omega⟩
 have hlt:=h.lt;have h1:=hS o g p l b hl h (by omega) hp;have h2:=hS o g .top l b hl h (by omega) rfl;have hb:=nM u .top;have hr:idx (aQ o l) ((b+sizes u.kids:Nat):Int)=some (KN o ⟨u.kind,u.op,u.text,u.other,ends u.kids b⟩):=by rw[bU,jK,Lies.root' h];rfl
 have e1:=(jY 32 (by constructor<;>decide)).2;have e2:=(jY 33 (by constructor<;>decide)).2;simp only[Ps.top] at h2 hb;rw[M.aeD];simp only[lK,M.Eo,hr,ah,Lp,NR,NQ,NS,Jo,(ZW u.kind u.op u.text u.other _ p).2,Bool.not_false,aT,cu,Ul];cases fits u.kind u.op p with
 |true=>simp only[aT,h1,ah,bM]
 |false=>simp(disch:=omega) only[cu,e1,e2,JA.2,ah,h2,tH,<-kJ,fB,qO,LJ,ng,zo,room,I7,bM,aT,Ps.top];rfl
def adN:∀(L:List (List Tk)) (b:Bool) (x:List Tk),BH b (L++[x])=BH b L++(bif L.isEmpty && b then x else tok 36::x)
 |[],b,x=>by cases b<;>simp[BH]
 |y::L,b,x=>by rw[Uo,BH,BH,adN L false x];simp
def DZ(ks:List Tn):List (List Tk):=ks.map λu=>Ul u .top
def adO:∀ks:List Tn,OT (DZ ks)+2 * ks.length<=8 * sizes ks
 |[]=>by simp[DZ,OT,sizes]
 |t::ts=>by have h1:=adM t .top;have h2:=adO ts;simp only[DZ,TN,OT,sizes,ng] at h2⊢;omega
def Vs(ks:List Tn)(b:Bool):(BH b (DZ ks)).length<=9 * sizes ks:=by
 have h1:=SB (DZ ks) b;have h2:=adO ks;have h3:(DZ ks).length=ks.length:=by simp[DZ]
 omega
def ab2{k op:Int}{n:Nat}{p:Ps}(ht:∀j,ni k j=false)(hq:∀j,j<n->bZ k op n j p=.top):∀(ts:List Tn) (j:Nat),j+ts.length=n->gW k op n p ts j=DZ ts
 |[],j,_=>by rw[gW];rfl
 |t::ts,j,hj=>by rw[ng] at hj;rw[gW,hq j (by omega),ht j,ab2 ht hq ts (j+1) (by omega),Bool.false_or];rfl
def At(l:List Nd)(b:Nat)(ks:List Tn):Prop:=∀j u,ks[j]? =some u->Lies l (b+sizes (ks.take j)) u
def Df{ks:List Tn}{b j:Nat}{u:Tn}(hj:ks[j]? =some u):idx (encI (ends ks b)) (j:Int)=some [D.int .i64 ((b+sizes (ks.take j)+sizes u.kids:Nat):Int)]:=by rw[bU,kU,aeP hj];rfl
def apq{ks:List Tn}(ih:∀u,u∈ks->PS u){o:Bool}{f:Nat}{l:List Nd}{b:Nat}(hl:l.length<=1048576)(hat:At l b ks)(hf:5 * sizes ks+2<=f)(hu:sizes ks<=1048575):
  M.yS f (aQ o l) false (encI (ends ks b))=some (jJ (BH true (DZ ks))):=by
 obtain⟨g,rfl⟩:∃g,f=g+1:=⟨f - 1,by omega⟩
 have hkl:=lW ks;have e1:=(jY 36 (by constructor<;>decide)).2;have hloop:=fF (b:=M.Ci (M.qJ g) (encI (ends ks b)) (aQ o l) false) (t:=((ks.length:Int),jJ (BH true (DZ ks)))) (λj=>((j:Int),jJ (BH true (DZ (ks.take j))))) ks.length
  (by
   intro j hj;obtain⟨u,hu'⟩:∃u,ks[j]? =some u:=⟨ks[j],by simp[hj]⟩
   have hus:=kP (Gy hu');have hst:=NJ hu';have ha:=aFJ (ih u (Gy hu')) (o:=o) (f:=g) (p:=.top) hl (hat j u hu') (by omega) rfl;have hi:=Df (b:=b) hu';have hel:=adM u .top;have hcl:=Vs (ks.take j) true;have hsn:BH true (DZ (ks.take (j+1)))=BH true (DZ (ks.take j))++(bif(DZ (ks.take j)).isEmpty && true then Ul u .top else tok 36::Ul u .top):=by rw[fP hu',DZ,List.map_append];exact adN _ _ _
   have hw:i64.wrap ((j:Int)+1)=((j+1:Nat):Int):=by rw[aC (by omega) (by omega)];omega
   simp only[Ps.top] at ha hel;rw[hsn];simp only[lK,M.Ci,M.wY,aU,gU];rw[zdt (by omega),aT]
   by_cases h0:j=0
   ·subst h0;rw[qN (by omega),cu];have z:(DZ (ks.take 0)).isEmpty=true:=rfl;simp(disch:=omega) only[hi,ah,MI,JA.2,ha,<-kJ,fB,qO,room,I7,aT,hw,z,Bool.and_true,Ps.top]
   ·rw[zdt (by omega),aT];have z:(DZ (ks.take j)).isEmpty=false:=by
     have hl2:(DZ (ks.take j)).length=j:=by rw[DZ,List.length_map,PW];omega
     cases hq:DZ (ks.take j) with
     |nil=>rw[hq,zo] at hl2;omega
     |cons _ _=>rfl
    simp(disch:=omega) only[hi,ah,MI,JA.2,ha,e1,tH,<-kJ,fB,qO,LJ,ng,zo,room,I7,aT,cu,hw,z,Bool.false_and,Ps.top];simp)
  (by simp only[lK,M.Ci,M.wY,aU,gU];rw[qN (by omega),cu,List.take_length]) 0 (Nat.zero_le _)
 have e0:jJ (BH true (DZ (ks.take 0)))=[]:=rfl;rw[rG,e0] at hloop;rw[M.abb];simp only[M.yR,M.FN,hloop,ah,bM,aT]
def Un{ks:List Tn}(ih:∀u,u∈ks->PS u){o:Bool}{f:Nat}{l:List Nd}{b:Nat}{k op:Int}{x y:aA}{p:Ps}{j:Nat}{u:Tn}(he:1<=k∧k<=15)(hc:Cnt k op y ks.length)(hp:jX p=true)(hl:l.length<=1048576)(hat:At l b ks)(hf:5 * sizes ks+1<=f)(hu:sizes ks<=1048575)(hj:ks[j]? =some u)(ht:ni k j=false):
  (idx (encI (ends ks b)) (j:Int)=some [D.int .i64 ((b+sizes (ks.take j)+sizes u.kids:Nat):Int)]∧
   M.dN k op x y (encI (ends ks b)) (j:Int) p.level p.kM p.oV p.oW p.jU=some (bZ k op ks.length j p).yu∧
   M.qJ f (aQ o l) false ((b+sizes (ks.take j)+sizes u.kids:Nat):Int) (bZ k op ks.length j p).yu.1 (bZ k op ks.length j p).yu.2.1 (bZ k op ks.length j p).yu.2.2.1 (bZ k op ks.length j p).yu.2.2.2.1 (bZ k op ks.length j p).yu.2.2.2.2=some (jJ (qM k op ks.length p j u)))∧(qM k op ks.length p j u).length+2<=8 * u.size:=by
 have hkl:=lW ks;have hus:=kP (Gy hj);have hjl:j<ks.length:=(G9.1 hj).1;have hen:(encI (ends ks b)).length=ks.length:=by rw[aU,gU]
 have hlv:lvl k op≠0:=by have:=KE he hc;omega
 refine⟨⟨Df hj, ?_, ?_⟩,I5 (nM u)⟩
 ·have h:=SG (x:=x) (r:=encI (ends ks b)) (j:=j) (p:=p) he (by rw[hen];exact hc) (by omega) (by omega);rw[hen] at h;exact h
 ·have h:=aFJ (ih u (Gy hj)) (o:=o) (f:=f) (p:=bZ k op ks.length j p) hl (hat j u hj) (by omega) (qo hp hjl hlv);rw[qM,ht,Bool.false_or];exact h
def afa{ks:List Tn}(ih:∀u,u∈ks->PS u){o:Bool}{f:Nat}{l:List Nd}{b:Nat}(hl:l.length<=1048576)(hat:At l b ks)(hf:5 * sizes ks+3<=f)(hu:sizes ks<=1048575)(t':Int)(x:aA)(c:Int)(hop:c=32∨c=34):
  M.AQ f (aQ o l) false t' x 0 (encI (ends ks b)) c=some (jJ (⟨t',x,0⟩::tok c::(BH true (DZ ks)++[tok (c+1)]))):=by
 obtain⟨g,rfl⟩:∃g,f=g+1:=⟨f - 1,by omega⟩
 have h1:=apq ih (o:=o) (f:=g) (b:=b) hl hat (by omega) hu;have h2:=Vs ks true;have e1:=(jY c (by rcases hop with rfl|rfl<;>constructor<;>decide)).2;have e2:=(jY (c+1) (by rcases hop with rfl|rfl<;>constructor<;>decide)).2;have e3:i64.wrap (c+1)=c+1:=by rcases hop with rfl|rfl<;>rfl
 have hr:([[D.int .i64 t',D.str x,D.int .i64 0],[D.int .i64 c,D.str (spell c),D.int .i64 0]]:au)=jJ [⟨t',x,0⟩,tok c]:=rfl;rw[M.Zm];simp(disch:=omega) only[lK,M.vP,e1,e2,e3,h1,ah,hr,tH (c+1),<-kJ,fB,qO,LJ,ng,zo,room,I7,bM,aT];simp
def ab3{u:Tn}(hS:PS u)(hok:Az u)(he:Qw u)(hh:13<=lvl u.kind u.op){o:Bool}{f:Nat}{l:List Nd}{b:Nat}(hl:l.length<=1048576)(h:Lies l b u)(hf:5 * u.size+1<=f)(p:Ps)(hp:jX p=true):
  M.yT f (aQ o l) false ((b+sizes u.kids:Nat):Int)=some (jJ (rM u p)):=by
 obtain⟨g,rfl⟩:∃g,f=g+1:=⟨f - 1,by omega⟩
 have h1:=hS o g ⟨14,false,false,false,false⟩ l b hl h (by omega) rfl;rw[ajw u hok hh he _ p rfl hp] at h1;rw[M.XI];simp only[M.uj,h1,ah,bM,aT]
def SH(k:Int)(h:k=12∨k=14∨k=6∨k=11∨k=13)(j:Nat):ni k j=false:=by rcases h with rfl|rfl|rfl|rfl|rfl<;>simp[ni]
def akS{ks:List Tn}(ih:∀u,u∈ks->PS u){o:Bool}{f:Nat}{l:List Nd}{b:Nat}{k op:Int}{x y:aA}{p:Ps}(hk:k=12∨k=14)(hc:Cnt k op y ks.length)(hp:jX p=true)(hl:l.length<=1048576)(hat:At l b ks)(hf:5 * sizes ks+2<=f)(hu:sizes ks<=1048575):
  M.AU f (aQ o l) false k op x y (encI (ends ks b)) p.level p.kM p.oV p.oW p.jU=some (jJ (Dj k op ks.length x (gW k op ks.length p ks 0))):=by
 obtain⟨g,rfl⟩:∃g,f=g+1:=⟨f - 1,by omega⟩
 rw[M.Zn];rcases hk with rfl|rfl
 ·obtain⟨u,v,rfl⟩:=QG (hc.two (by omega));have hsz:=sz2 u v;obtain⟨⟨a1,a2,a3⟩,a4⟩:=Un ih (o:=o) (f:=g) (b:=b) (k:=12) (op:=op) (x:=x) (y:=y) (p:=p) (j:=0) (u:=u) (by omega) hc hp hl hat (by omega) hu rfl (SH 12 (by omega) 0);obtain⟨⟨b1,b2,b3⟩,b4⟩:=Un ih (o:=o) (f:=g) (b:=b) (k:=12) (op:=op) (x:=x) (y:=y) (p:=p) (j:=1) (u:=v) (by omega) hc hp hl hat (by omega) hu rfl (SH 12 (by omega) 1);rw[rG] at a1 a2;rw[W9] at b1 b2;generalize (bZ 12 op [u,v].length 0 p).yu=q0 at a2 a3;generalize hk0:qM 12 op [u,v].length p 0 u=K0 at a3 a4;generalize (bZ 12 op [u,v].length 1 p).yu=q1 at b2 b3;generalize hk1:qM 12 op [u,v].length p 1 v=K1 at b3 b4;rw[SC,hk0,hk1]
  by_cases h99:op=99
  ·have e99:(op !=99)=false:=by simp[h99]
   simp(disch:=omega) only[lK,M.o9,a1,a2,a3,b1,b2,b3,MI,ah,Int.reduceBEq,e99,cu,<-kJ,fB,qO,LJ,ng,zo,room,I7,bM,aT];simp[Dj,xM,h99]
  ·have e99:(op !=99)=true:=by simpa using h99
   have e98:(op==99)=false:=by simpa using h99
   have e1:=(jY op (Z7 (hc.bin rfl).1)).2;simp(disch:=omega) only[lK,M.o9,a1,a2,a3,b1,b2,b3,e1,MI,ah,Int.reduceBEq,e99,cu,tH,<-kJ,fB,qO,LJ,ng,zo,room,I7,bM,aT];simp[Dj,xM,e98]
 ·obtain⟨u,v,z,rfl⟩:=WZ (hc.three rfl);have hsz:=sz3 u v z;obtain⟨⟨a1,a2,a3⟩,a4⟩:=Un ih (o:=o) (f:=g) (b:=b) (k:=14) (op:=op) (x:=x) (y:=y) (p:=p) (j:=0) (u:=u) (by omega) hc hp hl hat (by omega) hu rfl (SH 14 (by omega) 0);obtain⟨⟨b1,b2,b3⟩,b4⟩:=Un ih (o:=o) (f:=g) (b:=b) (k:=14) (op:=op) (x:=x) (y:=y) (p:=p) (j:=1) (u:=v) (by omega) hc hp hl hat (by omega) hu rfl (SH 14 (by omega) 1);obtain⟨⟨c1,c2,c3⟩,c4⟩:=Un ih (o:=o) (f:=g) (b:=b) (k:=14) (op:=op) (x:=x) (y:=y) (p:=p) (j:=2) (u:=z) (by omega) hc hp hl hat (by omega) hu rfl (SH 14 (by omega) 2);rw[rG] at a1 a2;rw[W9] at b1 b2;rw[aro] at c1 c2;generalize (bZ 14 op [u,v,z].length 0 p).yu=q0 at a2 a3;generalize hk0:qM 14 op [u,v,z].length p 0 u=K0 at a3 a4;generalize (bZ 14 op [u,v,z].length 1 p).yu=q1 at b2 b3;generalize hk1:qM 14 op [u,v,z].length p 1 v=K1 at b3 b4;generalize (bZ 14 op [u,v,z].length 2 p).yu=q2 at c2 c3;generalize hk2:qM 14 op [u,v,z].length p 2 z=K2 at c3 c4;rw[aph,hk0,hk1,hk2];have e1:=(jY 65 (by constructor<;>decide)).2;have e2:=(jY 66 (by constructor<;>decide)).2;simp(disch:=omega) only[lK,M.o9,a1,a2,a3,b1,b2,b3,c1,c2,c3,e1,e2,MI,ah,Int.reduceBEq,cu,tH,<-kJ,fB,qO,LJ,ng,zo,room,I7,bM,aT];simp[Dj,xM]
def Z8{k op:Int}{ks:List Tn}{p:Ps}(hp:jX p=true)(h:(lvl k op=15)∨(k=13∧Nat.blt 1 ks.length=true∧lvl k op≠0))(ht:∀j,ni k j=false):gW k op ks.length p ks 0=DZ ks:=by
 refine ab2 ht (λj hj=> ?_) ks 0 (by omega);rcases h with h|⟨h1,h2,h3⟩
 ·exact DX hp hj h
 ·have hb:Nat.blt j ks.length=true:=by rw[Nat.blt_eq];exact hj
  have h4:(lvl k op==0)=false:=by simpa using h3
  subst h1;unfold bZ;rw[hp,hb,h4,h2];simp
def Z9(k:Int)(x:aA):([[D.int .i64 k,D.str x,D.int .i64 0]]:au)=jJ [⟨k,x,0⟩]:=rfl
def aik(x:aA):([[D.int .i64 24,D.str (spell 24),D.int .i64 0],[D.int .i64 6,D.str x,D.int .i64 0]]:au)=jJ [tok 24,⟨6,x,0⟩]:=rfl
set_option maxHeartbeats 2000000 in
def al4(t:Tn):Az t->Qw t->t.size<=1048576->PS t:=by
 refine Tn.ind (P:=λt=>Az t->Qw t->t.size<=1048576->PS t) ?_ t;intro k op x y ks ih hok he hsz;intro o f p l b hl h hf hp;have aQq:=h;simp only[Qw,Tn.kind] at he;have hc:=I4 hok;have hsz':sizes ks+1=(Tn.mk k op x y ks).size:=by rw[Tn.size]
 have ih':∀u,u∈ks->PS u:=by intro u hu;obtain⟨i,hi⟩:=List.mem_iff_getElem?.1 hu;obtain⟨h1,h2⟩:=Sj hok he hi;have:=kP hu;exact ih u hu h2 h1 (by omega)
 have hat:At l b ks:=λj u hj=>Lies.OO h hj
 obtain⟨g,rfl⟩:∃g,f=g+1:=⟨f - 1,by omega⟩
 have hr:idx (aQ o l) ((b+sizes ks:Nat):Int)=some (KN o ⟨k,op,x,y,ends ks b⟩):=by have hr0:l[b+sizes ks]? =some ⟨k,op,x,y,ends ks b⟩:=Lies.root' h;rw[bU,jK,hr0];rfl
 have hkl:=lW ks;have tgt:∀{u:Tn},ks[0]? =some u->cls k op ks.length 0=6->Az u∧Qw u∧13<=lvl u.kind u.op:=by intro u hu hcls;obtain⟨h1,h2⟩:=Sj hok he hu;obtain⟨h3,_⟩:=OQ hok hu;rw[hcls] at h3;exact⟨h2,h1,(aeS h3).1⟩
 rw[M.abd,Tn.kids];have hk:k=1∨k=2∨k=3∨k=4∨k=5∨k=7∨k=8∨k=6∨k=9∨k=10∨k=11∨k=13∨k=15∨k=12∨k=14:=by omega
 rw[rM];rcases hk with rfl|rfl|rfl|rfl|rfl|rfl|rfl|rfl|rfl|rfl|rfl|rfl|rfl|rfl|rfl
 ·simp only[lK,M.dZ,hr,ah,Lp,NR,NQ,NS,Jo,M.bH,M.aZ,Int.reduceBEq,Int.reduceBNe,aT,cu,Z9];rfl
 ·simp only[lK,M.dZ,hr,ah,Lp,NR,NQ,NS,Jo,M.bH,M.aZ,Int.reduceBEq,Int.reduceBNe,aT,cu,Z9];rfl
 ·simp only[lK,M.dZ,hr,ah,Lp,NR,NQ,NS,Jo,M.bH,M.aZ,Int.reduceBEq,Int.reduceBNe,aT,cu,Z9];rfl
 ·simp only[lK,M.dZ,hr,ah,Lp,NR,NQ,NS,Jo,M.bH,M.aZ,Int.reduceBEq,Int.reduceBNe,aT,cu,Z9];rfl
 ·have a1:=afa ih' (o:=o) (f:=g) (b:=b) hl hat (by omega) (by omega) 6 x 34 (.inr rfl);rw[Z8 hp (.inl rfl) (λj=>by simp[ni])];simp only[lK,M.dZ,hr,ah,Lp,NR,NQ,NS,Jo,M.bH,M.aZ,Int.reduceBEq,Int.reduceBNe,aT,cu,a1,bM];rfl
 ·have a1:=afa ih' (o:=o) (f:=g) (b:=b) hl hat (by omega) (by omega) 7 x 32 (.inl rfl);rw[Z8 hp (.inl rfl) (λj=>by simp[ni])];simp only[lK,M.dZ,hr,ah,Lp,NR,NQ,NS,Jo,M.bH,M.aZ,Int.reduceBEq,Int.reduceBNe,aT,cu,a1,bM];rfl
 ·have a1:=afa ih' (o:=o) (f:=g) (b:=b) hl hat (by omega) (by omega) 8 x 32 (.inl rfl);rw[Z8 hp (.inl rfl) (λj=>by simp[ni])];simp only[lK,M.dZ,hr,ah,Lp,NR,NQ,NS,Jo,M.bH,M.aZ,Int.reduceBEq,Int.reduceBNe,aT,cu,a1,bM];rfl
 ·obtain⟨u,rfl⟩:=ZF.1 (hc.one (by omega));have hs1:=Z5 u;have e1:=(jY 68 (by constructor<;>decide)).2;obtain⟨⟨a1,a2,a3⟩,a4⟩:=Un ih' (o:=o) (f:=g) (b:=b) (k:=6) (op:=op) (x:=x) (y:=y) (p:=p) (j:=0) (u:=u) (by omega) hc hp hl hat (by omega) (by omega) rfl (SH 6 (by omega) 0);rw[rG] at a1 a2;rw[Lu];generalize (bZ 6 op [u].length 0 p).yu=q0 at a2 a3;generalize qM 6 op [u].length p 0 u=K0 at a3 a4⊢;simp(disch:=omega) only[lK,M.dZ,hr,ah,Lp,NR,NQ,NS,Jo,M.bH,M.aZ,Int.reduceBEq,Int.reduceBNe,aT,cu,a1,a2,a3,e1,MI,tH,<-kJ,fB,qO,LJ,ng,zo,room,I7,bM];simp[Dj,xM]
 ·obtain⟨u,rfl⟩:=ZF.1 (hc.one (by omega));have hs1:=Z5 u;have e1:=(jY op (by rcases hc.stp (by omega) with rfl|rfl<;>constructor<;>decide)).2;have a1:=Df (ks:=[u]) (b:=b) (j:=0) (u:=u) rfl;obtain⟨t1,t2,t3⟩:=tgt (u:=u) rfl (by simp[cls]);have a3:=ab3 (ih' u (by simp)) t1 t2 t3 (o:=o) (f:=g) (p:=bZ 9 op [u].length 0 p) hl (hat 0 u rfl) (by rw[Z5] at hsz';omega) (qo hp (by simp) (by simp[lvl]));have a4:=nM u (bZ 9 op [u].length 0 p);rw[Z5] at hsz';rw[rG] at a1;rw[Lu,qM,show ni 9 0=true from rfl,Bool.true_or,aT];generalize rM u (bZ 9 op [u].length 0 p)=K0 at a3 a4⊢;simp(disch:=omega) only[lK,M.dZ,hr,ah,Lp,NR,NQ,NS,Jo,M.bH,M.aZ,Int.reduceBEq,Int.reduceBNe,aT,cu,a1,a3,e1,MI,tH,<-kJ,fB,qO,LJ,ng,zo,room,I7,bM];simp[Dj,xM]
 ·obtain⟨u,rfl⟩:=ZF.1 (hc.one (by omega));have hs1:=Z5 u;have e1:=(jY op (by rcases hc.stp (by omega) with rfl|rfl<;>constructor<;>decide)).2;have a1:=Df (ks:=[u]) (b:=b) (j:=0) (u:=u) rfl;obtain⟨t1,t2,t3⟩:=tgt (u:=u) rfl (by simp[cls]);have a3:=ab3 (ih' u (by simp)) t1 t2 t3 (o:=o) (f:=g) (p:=bZ 10 op [u].length 0 p) hl (hat 0 u rfl) (by rw[Z5] at hsz';omega) (qo hp (by simp) (by simp[lvl]));have a4:=nM u (bZ 10 op [u].length 0 p);rw[Z5] at hsz';rw[rG] at a1;rw[Lu,qM,show ni 10 0=true from rfl,Bool.true_or,aT];generalize rM u (bZ 10 op [u].length 0 p)=K0 at a3 a4⊢;simp(disch:=omega) only[lK,M.dZ,hr,ah,Lp,NR,NQ,NS,Jo,M.bH,M.aZ,Int.reduceBEq,Int.reduceBNe,aT,cu,a1,a3,e1,MI,tH,<-kJ,fB,qO,LJ,ng,zo,room,I7,bM];simp[Dj,xM]
 ·obtain⟨u,rfl⟩:=ZF.1 (hc.one (by omega));have hs1:=Z5 u;have e1:=(jY op (by rcases hc.una (by omega) with rfl|rfl|rfl<;>constructor<;>decide)).2;obtain⟨⟨a1,a2,a3⟩,a4⟩:=Un ih' (o:=o) (f:=g) (b:=b) (k:=11) (op:=op) (x:=x) (y:=y) (p:=p) (j:=0) (u:=u) (by omega) hc hp hl hat (by omega) (by omega) rfl (SH 11 (by omega) 0);rw[rG] at a1 a2;rw[Lu];generalize (bZ 11 op [u].length 0 p).yu=q0 at a2 a3;generalize qM 11 op [u].length p 0 u=K0 at a3 a4⊢;simp(disch:=omega) only[lK,M.dZ,hr,ah,Lp,NR,NQ,NS,Jo,M.bH,M.aZ,Int.reduceBEq,Int.reduceBNe,aT,cu,a1,a2,a3,e1,MI,tH,<-kJ,fB,qO,LJ,ng,zo,room,I7,bM];simp[Dj,xM]
 ·have e1:=(jY 24 (by constructor<;>decide)).2;have e2:=(jY 32 (by constructor<;>decide)).2;have e3:=(jY 33 (by constructor<;>decide)).2;obtain⟨u,hu⟩:∃u,ks[0]? =some u:=by have:=hc.some_ (by omega);exact⟨ks[0],by simp⟩
  obtain⟨⟨a1,a2,a3⟩,a4⟩:=Un ih' (o:=o) (f:=g) (b:=b) (k:=13) (op:=op) (x:=x) (y:=y) (p:=p) (j:=0) (u:=u) (by omega) hc hp hl hat (by omega) (by omega) hu (SH 13 (by omega) 0);have hus:=kP (Gy hu);rw[rG] at a1 a2;have hel:(encI (ends ks b)).length=ks.length:=by rw[aU,gU]
  cases hm:Nat.blt 1 ks.length with
  |true=>have b1:=apq ih' (o:=o) (f:=g) (b:=b) hl hat (by omega) (by omega);have b2:=Vs ks true;rw[Z8 hp (.inr ⟨rfl,hm,by simp[lvl]⟩) (λj=>by simp[ni])];simp(disch:=omega) only[lK,M.dZ,hr,ah,Lp,NR,NQ,NS,Jo,M.bH,M.aZ,Int.reduceBEq,Int.reduceBNe,aT,cu,a1,a2,a3,b1,e1,e2,e3,MI,hel,many,hm,aik,tH 32,tH 33,<-kJ,fB,qO,LJ,ng,zo,room,I7,bM];simp[Dj,hm]
  |false=>
   have h1:ks.length=1:=by
    have h2:=hc.some_ (by omega);have h3:¬1<ks.length:=by rw[<-Nat.blt_eq,hm];simp
    omega
   obtain⟨u',rfl⟩:=ZF.1 h1;obtain rfl:u'=u:=by simpa using hu
   rw[Lu];generalize (bZ 13 op [u'].length 0 p).yu=q0 at a2 a3;generalize qM 13 op [u'].length p 0 u'=K0 at a3 a4⊢;simp(disch:=omega) only[lK,M.dZ,hr,ah,Lp,NR,NQ,NS,Jo,M.bH,M.aZ,Int.reduceBEq,Int.reduceBNe,aT,cu,a1,a2,a3,e1,e2,e3,MI,hel,many,hm,aik,<-kJ,fB,qO,LJ,ng,zo,room,I7,bM];simp[Dj,xM,show Nat.blt 1 1=false from rfl]
 ·obtain⟨u,v,rfl⟩:=QG (hc.two (by omega));have hsv:=sz2 u v;have e1:=(jY op (by rcases hc.asg rfl with rfl|h<;>constructor<;>omega)).2;have a1:=Df (ks:=[u,v]) (b:=b) (j:=0) (u:=u) rfl;obtain⟨t1,t2,t3⟩:=tgt (u:=u) rfl (by simp[cls]);have a3:=ab3 (ih' u (by simp)) t1 t2 t3 (o:=o) (f:=g) (p:=bZ 15 op [u,v].length 0 p) hl (hat 0 u rfl) (by omega) (qo hp (by simp) (by simp[lvl]));have a4:=nM u (bZ 15 op [u,v].length 0 p);obtain⟨⟨b1,b2,b3⟩,b4⟩:=Un ih' (o:=o) (f:=g) (b:=b) (k:=15) (op:=op) (x:=x) (y:=y) (p:=p) (j:=1) (u:=v) (by omega) hc hp hl hat (by omega) (by omega) rfl rfl;rw[rG] at a1;rw[W9] at b1 b2;have e98:(op==99)=false:=by rw[OV];have:=hc.asg rfl;omega
  rw[SC]
  conv=>rhs;rw[qM,show ni 15 0=true from rfl,Bool.true_or,aT]
  generalize rM u (bZ 15 op [u,v].length 0 p)=K0 at a3 a4⊢;generalize (bZ 15 op [u,v].length 1 p).yu=q1 at b2 b3;generalize qM 15 op [u,v].length p 1 v=K1 at b3 b4⊢;simp(disch:=omega) only[lK,M.dZ,hr,ah,Lp,NR,NQ,NS,Jo,M.bH,M.aZ,Int.reduceBEq,Int.reduceBNe,aT,cu,a1,a3,b1,b2,b3,e1,MI,tH,<-kJ,fB,qO,LJ,ng,zo,room,I7,bM];simp[Dj,xM,e98]
 ·have a1:=akS ih' (o:=o) (f:=g) (b:=b) (k:=12) (op:=op) (x:=x) (y:=y) (p:=p) (.inl rfl) hc hp hl hat (by omega) (by omega);simp only[lK,M.dZ,hr,ah,Lp,NR,NQ,NS,Jo,M.bH,M.aZ,Int.reduceBEq,Int.reduceBNe,aT,cu,a1,bM]
 ·have a1:=akS ih' (o:=o) (f:=g) (b:=b) (k:=14) (op:=op) (x:=x) (y:=y) (p:=p) (.inr rfl) hc hp hl hat (by omega) (by omega);simp only[lK,M.dZ,hr,ah,Lp,NR,NQ,NS,Jo,M.bH,M.aZ,Int.reduceBEq,Int.reduceBNe,aT,cu,a1,bM]
def dE(t:Tn):au:=jC true (t.flat 0)
def al5(t:Tn):Row:=[D.sl true 4 (dE t)]
def Aw(s:aA):M.dA s=some (dE (rO s)):=by simp[M.dA,M.Ik,dE,rO,Tn.flat,jA,ends,jC,ZB,encI]
def ajI:M.oq=some (dE NK):=by simp[M.oq,M.Il,dE,NK,Tn.flat,jA,ends,jC,ZB,encI]
def Gx(t:Tn):[[D.sl true 4 (dE t)]].all eY=true:=al0 _
def Tt(L:List Tn):bJ (L.map al5)=zn L:=by
 induction L with
 |nil=>rfl
 |cons t L ih=>
  have h1:uw (al5 t)=[D.sl false 4 (jC false (t.flat 0))]:=by simp[al5,uw,D.fz,dE]
  rw[TN,bJ,ih,h1];rfl
section
variable (a b c d e f g h:Tn)
def fz1:bJ [[D.sl true 4 (dE a)]]=zn [a]:=Tt [a]
def fz2:bJ [[D.sl true 4 (dE a)],[D.sl true 4 (dE b)]]=zn [a,b]:=Tt [a,b]
def fz3:bJ [[D.sl true 4 (dE a)],[D.sl true 4 (dE b)],[D.sl true 4 (dE c)]]=zn [a,b,c]:=Tt [a,b,c]
def fz4:bJ [[D.sl true 4 (dE a)],[D.sl true 4 (dE b)],[D.sl true 4 (dE c)],[D.sl true 4 (dE d)]]=zn [a,b,c,d]:=Tt [a,b,c,d]
def fz5:bJ [[D.sl true 4 (dE a)],[D.sl true 4 (dE b)],[D.sl true 4 (dE c)],[D.sl true 4 (dE d)],[D.sl true 4 (dE e)]]=zn [a,b,c,d,e]:=Tt [a,b,c,d,e]
end
def LH(ts:List Tn)(h:sizes ts<=90000000):M.bW 6 0 (zn ts)=some (dE (qL ts)):=ajC 6 0 ts h
def ajJ(t:Tn)(h:sizes [t]<=90000000):M.bW 4 4 (zn [t])=some (dE (PI t)):=ajC 4 4 [t] h
def apr(t:Tn)(h:sizes [t]<=90000000):M.bW 5 0 (zn [t])=some (dE (acI t)):=ajC 5 0 [t] h
def ail(p:Ps):∀ks:List Tn,sizes (VF p ks)+3 * ks.length<=16 * sizes ks
 |[]=>by simp[VF,sizes]
 |t::ts=>by have h1:=x9 t p;have h2:=ail p ts;simp only[VF,TN,sizes,ng] at h2⊢;omega
def DS(t:Tn):Prop:=∀(o:Bool) (f:Nat) (p:Ps) (l:List Nd) (b:Nat),l.length<=1048576->Lies l b t->5 * t.size<=f->jX p=true->
 M.yY f (aQ o l) false ((b+sizes t.kids:Nat):Int) p.level p.kM p.oV p.oW p.jU=some (dE (kY t p))
def SI{u:Tn}{o:Bool}{l:List Nd}{b:Nat}(h:Lies l b u):idx (aQ o l) ((b+sizes u.kids:Nat):Int)=some (KN o ⟨u.kind,u.op,u.text,u.other,ends u.kids b⟩):=by rw[bU,jK,Lies.root' h];rfl
def awn{u:Tn}(hS:DS u){o:Bool}{f:Nat}{p:Ps}{l:List Nd}{b:Nat}(hl:l.length<=1048576)(h:Lies l b u)(hf:5 * u.size+1<=f)(hp:jX p=true):
  M.oG f (aQ o l) false ((b+sizes u.kids:Nat):Int) p.level p.kM p.oV p.oW p.jU=some (dE (CZ u p)):=by
 obtain⟨g,rfl⟩:∃g,f=g+1:=⟨f - 1,by omega⟩
 have hlt:=h.lt;have h1:=hS o g p l b hl h (by omega) hp;have h2:=hS o g .top l b hl h (by omega) rfl;have hb:=Gv u .top;simp only[Ps.top] at h2 hb;rw[M.aeE];simp only[lK,M.Ep,SI h,ah,Lp,NR,NQ,NS,Jo,(ZW u.kind u.op u.text u.other _ p).2,CZ];cases fits u.kind u.op p with
 |true=>simp only[aT,h1,ah]
 |false=>
  have hs:sizes [rO [40],kY u ⟨1,false,false,false,false⟩,rO [41]]<=90000000:=by simp only[sizes,iD];omega
  simp only[cu,Aw,JA.2,ah,h2,fz3,LH _ hs,Gx,aT,Ps.top]
def aps{ks:List Tn}(ih:∀u,u∈ks->DS u){o:Bool}{f:Nat}{p:Ps}(hp:jX p=true){l:List Nd}{b:Nat}(hl:l.length<=1048576)(hat:At l b ks)(hf:5 * sizes ks+2<=f)(hu:sizes ks<=1048575):
  M.yV f (aQ o l) false (encI (ends ks b)) p.level p.kM p.oV p.oW p.jU=some (dE (Um p ks)):=by
 obtain⟨g,rfl⟩:∃g,f=g+1:=⟨f - 1,by omega⟩
 have hkl:=lW ks;have hpz:=ail p ks;have hcz:=XW (VF p ks) true;rw[Xc] at hcz;have hloop:=fF (b:=M.Ce (M.oG g) (encI (ends ks b)) (aQ o l) false p.level p.kM p.oV p.oW p.jU) (t:=((ks.length:Int),(Ja true (VF p ks)).map al5)) (λj=>((j:Int),(Ja true (VF p (ks.take j))).map al5)) ks.length
  (by
   intro j hj;obtain⟨u,hu'⟩:∃u,ks[j]? =some u:=⟨ks[j],by simp[hj]⟩
   have hus:=kP (Gy hu');have ha:=awn (ih u (Gy hu')) (o:=o) (f:=g) (p:=p) hl (hat j u hu') (by omega) hp;have hi:=Df (b:=b) hu';have hcl:=abZ (VF p (ks.take j)) true;rw[Xc,PW] at hcl;have hw:i64.wrap ((j:Int)+1)=((j+1:Nat):Int):=by rw[aC (by omega) (by omega)];omega
   have e:VF p (ks.take (j+1))=VF p (ks.take j)++[CZ u p]:=by rw[fP hu'];simp[VF]
   rw[e,Yg];simp only[lK,M.Ce,M.wX,aU,gU,Aw,ajI,hi,MI,ha,ah,qO,List.length_map,ng,zo,hw];rw[zdt (by omega),aT]
   by_cases h0:j=0
   ·subst h0;rw[qN (by omega),cu,bn (by omega),aT,bn (by omega),aT];rfl
   ·have z:(VF p (ks.take j)).isEmpty=false:=by
     cases hq:VF p (ks.take j) with
     |nil=>have:=Xc p (ks.take j);rw[hq,zo,PW] at this;omega
     |cons _ _=>rfl
    rw[zdt (by omega),aT,bn (by omega),aT,bn (by omega),aT,bn (by omega),aT,bn (by omega),aT,z,Bool.false_and,cu,List.map_append,Bf];rfl)
  (by simp only[lK,M.Ce,M.wX,aU,gU];rw[qN (by omega),cu,List.take_length]) 0 (Nat.zero_le _)
 have NH:M.FM (M.oG g) (encI (ends ks b)) (aQ o l) false p.level p.kM p.oV p.oW p.jU (0,[])=some ((ks.length:Int),(Ja true (VF p ks)).map al5):=hloop;have z1:sizes [qL (Ja true (VF p ks))]<=90000000:=by simp only[sizes,nO];omega
 have z2:sizes [PI (qL (Ja true (VF p ks)))]<=90000000:=by simp only[sizes,nO,NP];omega
 rw[M.abf];simp only[M.yQ,NH,ah,Tt,LH _ (show sizes (Ja true (VF p ks))<=90000000 by omega),Gx,aT,fz1,ajJ _ z1,apr _ z2];rfl
def Xd{ks:List Tn}(ih:∀u,u∈ks->DS u){o:Bool}{f:Nat}{l:List Nd}{b:Nat}{k op:Int}{x y:aA}{p:Ps}{j:Nat}{u:Tn}(he:1<=k∧k<=15)(hc:Cnt k op y ks.length)(hp:jX p=true)(hl:l.length<=1048576)(hat:At l b ks)(hf:5 * sizes ks+1<=f)(hu:sizes ks<=1048575)(hj:ks[j]? =some u)(ht:ni k j=false):
  (idx (encI (ends ks b)) (j:Int)=some [D.int .i64 ((b+sizes (ks.take j)+sizes u.kids:Nat):Int)]∧
   M.dN k op x y (encI (ends ks b)) (j:Int) p.level p.kM p.oV p.oW p.jU=some (bZ k op ks.length j p).yu∧
   M.oG f (aQ o l) false ((b+sizes (ks.take j)+sizes u.kids:Nat):Int) (bZ k op ks.length j p).yu.1 (bZ k op ks.length j p).yu.2.1 (bZ k op ks.length j p).yu.2.2.1 (bZ k op ks.length j p).yu.2.2.2.1 (bZ k op ks.length j p).yu.2.2.2.2=some (dE (DV k op ks.length p j u)))∧(DV k op ks.length p j u).size+3<=16 * u.size:=by
 have hkl:=lW ks;have hus:=kP (Gy hj);have hjl:j<ks.length:=(G9.1 hj).1;have hen:(encI (ends ks b)).length=ks.length:=by rw[aU,gU]
 have hlv:lvl k op≠0:=by have:=KE he hc;omega
 refine⟨⟨Df hj, ?_, ?_⟩,adB (Gv u)⟩
 ·have h:=SG (x:=x) (r:=encI (ends ks b)) (j:=j) (p:=p) he (by rw[hen];exact hc) (by omega) (by omega);rw[hen] at h;exact h
 ·have h:=awn (ih u (Gy hj)) (o:=o) (f:=f) (p:=bZ k op ks.length j p) hl (hat j u hj) (by omega) (qo hp hjl hlv);rw[DV,ht,Bool.false_or];exact h
def afb{ks:List Tn}(ih:∀u,u∈ks->DS u){o:Bool}{f:Nat}{l:List Nd}{b:Nat}(hl:l.length<=1048576)(hat:At l b ks)(hf:5 * sizes ks+3<=f)(hu:sizes ks<=1048575)(k op:Int)(x y:aA)(hx:x.length<=1048576)(c d:UInt8):
  M.AX f (aQ o l) false k op x y (encI (ends ks b)) [c] [d]=some (dE (qL [rO (x++[c]),Um .top ks,rO [d]])):=by
 obtain⟨g,rfl⟩:∃g,f=g+1:=⟨f - 1,by omega⟩
 have h1:=aps ih (o:=o) (f:=g) (p:=.top) rfl (b:=b) hl hat (by omega) hu;have h2:=Qz .top ks;simp only[Ps.top] at h1 h2;have hs:sizes [rO (x++[c]),Um ⟨1,false,false,false,false⟩ ks,rO [d]]<=90000000:=by simp only[sizes,iD];omega
 rw[M.Zq];simp(disch:=omega) only[M.vO,ng,zo,Je,aT,Aw,JA.2,h1,ah,fz3,LH _ hs,Gx,Ps.top]
def ab4{u:Tn}(hS:DS u)(hok:Az u)(he:Qw u)(hh:13<=lvl u.kind u.op){o:Bool}{f:Nat}{l:List Nd}{b:Nat}(hl:l.length<=1048576)(h:Lies l b u)(hf:5 * u.size+1<=f)(p:Ps)(hp:jX p=true):
  M.yX f (aQ o l) false ((b+sizes u.kids:Nat):Int)=some (dE (kY u p)):=by
 obtain⟨g,rfl⟩:∃g,f=g+1:=⟨f - 1,by omega⟩
 have h1:=hS o g ⟨14,false,false,false,false⟩ l b hl h (by omega) rfl;rw[ajx u hok hh he _ p rfl hp] at h1;rw[M.XK];simp only[M.uh,h1,ah]
def aFK{ks:List Tn}(ih:∀u,u∈ks->DS u){o:Bool}{f:Nat}{l:List Nd}{b:Nat}{op:Int}{x y:aA}{p:Ps}(hc:Cnt 12 op y ks.length)(hp:jX p=true)(hl:l.length<=1048576)(hat:At l b ks)(hf:5 * sizes ks+2<=f)(hu:sizes ks<=1048575)(gp:Bool):
  M.Fe f (aQ o l) false 12 op x y (encI (ends ks b)) p.level p.kM p.oV p.oW p.jU=some (dE (NU 12 op ks.length x gp (kS 12 op ks.length p ks 0))):=by
 obtain⟨g,rfl⟩:∃g,f=g+1:=⟨f - 1,by omega⟩
 rw[M.acF];obtain⟨u,v,rfl⟩:=QG (hc.two (by omega));have hsz:=sz2 u v;have hI:=Z7 (hc.bin rfl).1;have hsl:=GZ op;obtain⟨⟨a1,a2,a3⟩,a4⟩:=Xd ih (o:=o) (f:=g) (b:=b) (k:=12) (op:=op) (x:=x) (y:=y) (p:=p) (j:=0) (u:=u) (by omega) hc hp hl hat (by omega) hu rfl (SH 12 (by omega) 0);obtain⟨⟨b1,b2,b3⟩,b4⟩:=Xd ih (o:=o) (f:=g) (b:=b) (k:=12) (op:=op) (x:=x) (y:=y) (p:=p) (j:=1) (u:=v) (by omega) hc hp hl hat (by omega) hu rfl (SH 12 (by omega) 1);rw[rG] at a1 a2;rw[W9] at b1 b2;rw[ae8];generalize (bZ 12 op [u,v].length 0 p).yu=q0 at a2 a3;generalize DV 12 op [u,v].length p 0 u=K0 at a3 a4⊢;generalize (bZ 12 op [u,v].length 1 p).yu=q1 at b2 b3;generalize DV 12 op [u,v].length p 1 v=K1 at b3 b4⊢
 by_cases h99:op=99
 ·subst h99;have hs:sizes [K0,rO [32],K1]<=90000000:=by simp only[sizes,iD];omega
  simp only[M.qK,a1,a2,a3,b1,b2,b3,MI,ah,Int.reduceBEq,aT,cu,Aw,fz3,LH _ hs,Gx];rfl
 ·have e1:(op==99)=false:=by simpa using h99
  have hs:sizes [K0,rO ([32]++spell op),NK,K1]<=90000000:=by simp only[sizes,iD,NM];omega
  have z1:sizes [qL [K0,rO ([32]++spell op),NK,K1]]<=90000000:=by simp only[sizes,iD,NM,nO];omega
  have z2:sizes [PI (qL [K0,rO ([32]++spell op),NK,K1])]<=90000000:=by simp only[sizes,iD,NM,nO,NP];omega
  by_cases h45:op=45
  ·subst h45;simp(disch:=omega) only[M.qK,a1,a2,a3,b1,b2,b3,MI,ah,Int.reduceBEq,aT,cu,(lG 45 hI).1,Aw,ajI,fz4,fz1,LH _ hs,ajJ _ z1,apr _ z2,Gx,Je];rfl
  ·have e2:(op==45)=false:=by simpa using h45
   by_cases h44:op=44
   ·subst h44;simp(disch:=omega) only[M.qK,a1,a2,a3,b1,b2,b3,MI,ah,Int.reduceBEq,aT,cu,(lG 44 hI).1,Aw,ajI,fz4,fz1,LH _ hs,ajJ _ z1,apr _ z2,Gx,Je];rfl
   ·have e3:(op==44)=false:=by simpa using h44
    have hs3:sizes [K0,rO ([32]++spell op++[32]),K1]<=90000000:=by simp only[sizes,iD];omega
    simp(disch:=omega) only[M.qK,a1,a2,a3,b1,b2,b3,MI,ah,e1,e2,e3,aT,cu,(lG op hI).1,qO,ng,zo,Aw,fz3,LH _ hs3,Gx,Je];simp[NU,e1,e2,e3,uo]
set_option maxHeartbeats 4000000 in
def ajK(t:Tn):Az t->Qw t->VE t->t.size<=1048576->DS t:=by
 refine Tn.ind (P:=λt=>Az t->Qw t->VE t->t.size<=1048576->DS t) ?_ t;intro k op x y ks ih hok he hsm hsz;intro o f p l b hl h hf hp;have aQq:=h;simp only[Qw,Tn.kind] at he;have hc:=I4 hok;rw[VE] at hsm;obtain⟨⟨hx,hy⟩,hss⟩:=hsm;rw[Tn.size] at hsz hf;have hkE:∀u,u∈ks->Az u∧Qw u∧VE u:=by intro u hu;obtain⟨i,hi⟩:=List.mem_iff_getElem?.1 hu;obtain⟨h1,h2⟩:=Sj hok he hi;exact⟨h2,h1,KF hss hu⟩
 have ih':∀u,u∈ks->DS u:=by intro u hu;obtain⟨h1,h2,h3⟩:=hkE u hu;have:=kP hu;exact ih u hu h1 h2 h3 (by omega)
 have hat:At l b ks:=λj u hj=>Lies.OO h hj
 obtain⟨g,rfl⟩:∃g,f=g+1:=⟨f - 1,by omega⟩
 have hr:idx (aQ o l) ((b+sizes ks:Nat):Int)=some (KN o ⟨k,op,x,y,ends ks b⟩):=by have hr0:l[b+sizes ks]? =some ⟨k,op,x,y,ends ks b⟩:=Lies.root' h;rw[bU,jK,hr0];rfl
 have hkl:=lW ks;have tgt:∀{u:Tn},ks[0]? =some u->cls k op ks.length 0=6->Az u∧Qw u∧13<=lvl u.kind u.op:=by intro u hu hcls;obtain⟨h1,h2⟩:=Sj hok he hu;obtain⟨h3,_⟩:=OQ hok hu;rw[hcls] at h3;exact⟨h2,h1,(aeS h3).1⟩
 rw[M.abg,Tn.kids];have hk:k=1∨k=2∨k=3∨k=4∨k=5∨k=7∨k=8∨k=6∨k=9∨k=10∨k=11∨k=13∨k=15∨k=12∨k=14:=by omega
 rw[kY];rcases hk with rfl|rfl|rfl|rfl|rfl|rfl|rfl|rfl|rfl|rfl|rfl|rfl|rfl|rfl|rfl
 ·simp only[lK,M.eu,hr,ah,Lp,NR,NQ,NS,Jo,M.bH,M.aZ,Int.reduceBEq,Int.reduceBNe,aT,cu,Aw];rfl
 ·simp only[lK,M.eu,hr,ah,Lp,NR,NQ,NS,Jo,M.bH,M.aZ,Int.reduceBEq,Int.reduceBNe,aT,cu,Aw];rfl
 ·simp only[lK,M.eu,hr,ah,Lp,NR,NQ,NS,Jo,M.bH,M.aZ,Int.reduceBEq,Int.reduceBNe,aT,cu,Aw];rfl
 ·simp only[lK,M.eu,hr,ah,Lp,NR,NQ,NS,Jo,M.bH,M.aZ,Int.reduceBEq,Int.reduceBNe,aT,cu,Aw];rfl
 ·have a1:=afb ih' (o:=o) (f:=g) (b:=b) hl hat (by omega) (by omega) 5 op x y hx 91 93;rw[KW hp (.inl rfl) (λj=>by simp[ni])];simp only[lK,M.eu,hr,ah,Lp,NR,NQ,NS,Jo,M.bH,M.aZ,Int.reduceBEq,Int.reduceBNe,aT,cu,a1];rfl
 ·have a1:=afb ih' (o:=o) (f:=g) (b:=b) hl hat (by omega) (by omega) 7 op x y hx 40 41;rw[KW hp (.inl rfl) (λj=>by simp[ni])];simp only[lK,M.eu,hr,ah,Lp,NR,NQ,NS,Jo,M.bH,M.aZ,Int.reduceBEq,Int.reduceBNe,aT,cu,a1];rfl
 ·have a1:=afb ih' (o:=o) (f:=g) (b:=b) hl hat (by omega) (by omega) 8 op x y hx 40 41;rw[KW hp (.inl rfl) (λj=>by simp[ni])];simp only[lK,M.eu,hr,ah,Lp,NR,NQ,NS,Jo,M.bH,M.aZ,Int.reduceBEq,Int.reduceBNe,aT,cu,a1];rfl
 ·obtain⟨u,rfl⟩:=ZF.1 (hc.one (by omega));have hs1:=Z5 u;obtain⟨⟨a1,a2,a3⟩,a4⟩:=Xd ih' (o:=o) (f:=g) (b:=b) (k:=6) (op:=op) (x:=x) (y:=y) (p:=p) (j:=0) (u:=u) (by omega) hc hp hl hat (by omega) (by omega) rfl (SH 6 (by omega) 0);rw[rG] at a1 a2;rw[OU];generalize (bZ 6 op [u].length 0 p).yu=q0 at a2 a3;generalize DV 6 op [u].length p 0 u=K0 at a3 a4⊢;have hs:sizes [rO [36],K0]<=90000000:=by simp only[sizes,iD];omega
  simp only[lK,M.eu,hr,ah,Lp,NR,NQ,NS,Jo,M.bH,M.aZ,Int.reduceBEq,Int.reduceBNe,aT,cu,a1,a2,a3,MI,Aw,fz2,LH _ hs,Gx];rfl
 ·obtain⟨u,rfl⟩:=ZF.1 (hc.one (by omega));have hs1:=Z5 u;have hI:I64 op:=by rcases hc.stp (by omega) with rfl|rfl<;>constructor<;>decide
  have a1:=Df (ks:=[u]) (b:=b) (j:=0) (u:=u) rfl;obtain⟨t1,t2,t3⟩:=tgt (u:=u) rfl (by simp[cls]);have a3:=ab4 (ih' u (by simp)) t1 t2 t3 (o:=o) (f:=g) (p:=bZ 9 op [u].length 0 p) hl (hat 0 u rfl) (by omega) (qo hp (by simp) (by simp[lvl]));have a4:=Gv u (bZ 9 op [u].length 0 p);rw[rG] at a1;rw[OU,DV,show ni 9 0=true from rfl,Bool.true_or,aT];generalize kY u (bZ 9 op [u].length 0 p)=K0 at a3 a4⊢;have hs:sizes [rO (spell op),K0]<=90000000:=by simp only[sizes,iD];omega
  simp only[lK,M.eu,hr,ah,Lp,NR,NQ,NS,Jo,M.bH,M.aZ,Int.reduceBEq,Int.reduceBNe,aT,cu,a1,a3,(lG op hI).1,MI,Aw,fz2,LH _ hs,Gx];rfl
 ·obtain⟨u,rfl⟩:=ZF.1 (hc.one (by omega));have hs1:=Z5 u;have hI:I64 op:=by rcases hc.stp (by omega) with rfl|rfl<;>constructor<;>decide
  have a1:=Df (ks:=[u]) (b:=b) (j:=0) (u:=u) rfl;obtain⟨t1,t2,t3⟩:=tgt (u:=u) rfl (by simp[cls]);have a3:=ab4 (ih' u (by simp)) t1 t2 t3 (o:=o) (f:=g) (p:=bZ 10 op [u].length 0 p) hl (hat 0 u rfl) (by omega) (qo hp (by simp) (by simp[lvl]));have a4:=Gv u (bZ 10 op [u].length 0 p);rw[rG] at a1;rw[OU,DV,show ni 10 0=true from rfl,Bool.true_or,aT];generalize kY u (bZ 10 op [u].length 0 p)=K0 at a3 a4⊢;have hs:sizes [K0,rO (spell op)]<=90000000:=by simp only[sizes,iD];omega
  simp only[lK,M.eu,hr,ah,Lp,NR,NQ,NS,Jo,M.bH,M.aZ,Int.reduceBEq,Int.reduceBNe,aT,cu,a1,a3,(lG op hI).1,MI,Aw,fz2,LH _ hs,Gx];rfl
 ·obtain⟨u,rfl⟩:=ZF.1 (hc.one (by omega));have hs1:=Z5 u;obtain⟨u1,u2,u3⟩:=hkE u (by simp);have hI:I64 op:=by rcases hc.una (by omega) with rfl|rfl|rfl<;>constructor<;>decide
  have ihS:∀v,v∈[u]->PS v:=by intro v hv;rw[List.mem_singleton.1 hv];exact al4 u u1 u2 (by omega)
  obtain⟨⟨a1,a2,a3⟩,a4⟩:=Xd ih' (o:=o) (f:=g) (b:=b) (k:=11) (op:=op) (x:=x) (y:=y) (p:=p) (j:=0) (u:=u) (by omega) hc hp hl hat (by omega) (by omega) rfl (SH 11 (by omega) 0);obtain⟨⟨c1,c2,c3⟩,c4⟩:=Un ihS (o:=o) (f:=5 * sizes [u]+1) (b:=b) (k:=11) (op:=op) (x:=x) (y:=y) (p:=p) (j:=0) (u:=u) (by omega) hc hp hl hat (by omega) (by omega) rfl (SH 11 (by omega) 0);have c3':=M.acC c3;rw[rG] at a1 a2;rw[OU,Lu];have hne:=akR (k:=11) (op:=op) (n:=[u].length) (p:=p) (j:=0) u1 u2;have aFL:=apk (k:=11) (op:=op) (n:=[u].length) (p:=p) (j:=0) u3;clear c3 c2;generalize (bZ 11 op [u].length 0 p).yu=q0 at a2 a3 c3';generalize DV 11 op [u].length p 0 u=K0 at a3 a4⊢;generalize qM 11 op [u].length p 0 u=K at hne aFL c3'⊢;cases K with
  |nil=>exact absurd rfl hne
  |cons t0 K=>
   have hsl:=GZ op;have hg:M.qE op (spell op) 0 t0.kind t0.text t0.at_=some (DU (tok op) t0):=Yh (tok op) t0 (by show(spell op).length<=_;omega) (by have:=aFL t0 zmf;omega);have i0:idx (jJ (t0::K)) 0=some (aaV t0):=rfl;have i1:(jJ (t0::K))[0]? =some (aaV t0):=rfl;have hs:sizes [rO (spell op),K0]<=90000000:=by simp only[sizes,iD];omega
   have hs2:sizes [rO (spell op++[32]),K0]<=90000000:=by simp only[sizes,iD];omega
   have ha:NU 11 op [u].length x (abJ op [t0::K]) [K0]=qL [rO (bif DU (tok op) t0 then spell op++[32] else spell op),K0]:=rfl;rw[ha];simp(disch:=omega) only[lK,M.eu,hr,ah,Lp,NR,NQ,NS,Jo,M.bH,M.aZ,Int.reduceBEq,Int.reduceBNe,aT,cu,a1,a2,a3,c3',i0,i1,cT0,cT1,cT2,hg,(lG op hI).1,(jY op hI).2,MI,Aw,fz2,LH _ hs,LH _ hs2,Gx,Je];cases DU (tok op) t0<;>rfl
 ·obtain⟨u,hu⟩:∃u,ks[0]? =some u:=by have:=hc.some_ (by omega);exact⟨ks[0],by simp⟩
  obtain⟨⟨a1,a2,a3⟩,a4⟩:=Xd ih' (o:=o) (f:=g) (b:=b) (k:=13) (op:=op) (x:=x) (y:=y) (p:=p) (j:=0) (u:=u) (by omega) hc hp hl hat (by omega) (by omega) hu (SH 13 (by omega) 0);have hus:=kP (Gy hu);rw[rG] at a1 a2;have hel:(encI (ends ks b)).length=ks.length:=by rw[aU,gU]
  cases hm:Nat.blt 1 ks.length with
  |true=>
   have b1:=aps ih' (o:=o) (f:=g) (p:=.top) rfl (b:=b) hl hat (by omega) (by omega);have b2:=Qz .top ks;simp only[Ps.top] at b1 b2;have e1:((ks.length:Int)==1)=false:=by rw[Nat.blt_eq] at hm;rw[OV];omega
   have hs:sizes [rO [40],Um ⟨1,false,false,false,false⟩ ks,rO ([41,32,105,110,32]++x)]<=90000000:=by simp only[sizes,iD];omega
   rw[KW hp (.inr ⟨rfl,hm,by simp[lvl]⟩) (λj=>by simp[ni])];simp(disch:=omega) only[lK,M.eu,hr,ah,Lp,NR,NQ,NS,Jo,M.bH,M.aZ,Int.reduceBEq,Int.reduceBNe,aT,cu,hel,e1,Aw,JA.2,b1,fz3,LH _ hs,Gx,Je];simp[NU,hm,aij,Ps.top]
  |false=>
   have h1:ks.length=1:=by
    have h2:=hc.some_ (by omega);have h3:¬1<ks.length:=by rw[<-Nat.blt_eq,hm];simp
    omega
   obtain⟨u',rfl⟩:=ZF.1 h1;obtain rfl:u'=u:=by simpa using hu
   rw[OU];have e1:(([u'].length:Int)==1)=true:=rfl;generalize (bZ 13 op [u'].length 0 p).yu=q0 at a2 a3;generalize DV 13 op [u'].length p 0 u'=K0 at a3 a4⊢;have hs:sizes [K0,rO ([32,105,110,32]++x)]<=90000000:=by simp only[sizes,iD];omega
   simp(disch:=omega) only[lK,M.eu,hr,ah,Lp,NR,NQ,NS,Jo,M.bH,M.aZ,Int.reduceBEq,Int.reduceBNe,aT,cu,hel,e1,a1,a2,a3,MI,Aw,fz2,LH _ hs,Gx,Je];rfl
 ·obtain⟨u,v,rfl⟩:=QG (hc.two (by omega));have hsv:=sz2 u v;have hI:I64 op:=by rcases hc.asg rfl with rfl|h<;>constructor<;>omega
  have hsl:=GZ op;have a1:=Df (ks:=[u,v]) (b:=b) (j:=0) (u:=u) rfl;obtain⟨t1,t2,t3⟩:=tgt (u:=u) rfl (by simp[cls]);have a3:=ab4 (ih' u (by simp)) t1 t2 t3 (o:=o) (f:=g) (p:=bZ 15 op [u,v].length 0 p) hl (hat 0 u rfl) (by omega) (qo hp (by simp) (by simp[lvl]));have a4:=Gv u (bZ 15 op [u,v].length 0 p);obtain⟨⟨b1,b2,b3⟩,b4⟩:=Xd ih' (o:=o) (f:=g) (b:=b) (k:=15) (op:=op) (x:=x) (y:=y) (p:=p) (j:=1) (u:=v) (by omega) hc hp hl hat (by omega) (by omega) rfl rfl;rw[rG] at a1;rw[W9] at b1 b2;rw[ae8]
  conv=>rhs;rw[DV,show ni 15 0=true from rfl,Bool.true_or,aT]
  generalize kY u (bZ 15 op [u,v].length 0 p)=K0 at a3 a4⊢;generalize (bZ 15 op [u,v].length 1 p).yu=q1 at b2 b3;generalize DV 15 op [u,v].length p 1 v=K1 at b3 b4⊢;have hs3:sizes [K0,rO ([32]++spell op++[32]),K1]<=90000000:=by simp only[sizes,iD];omega
  simp(disch:=omega) only[lK,M.eu,hr,ah,Lp,NR,NQ,NS,Jo,M.bH,M.aZ,Int.reduceBEq,Int.reduceBNe,aT,cu,a1,a3,b1,b2,b3,(lG op hI).1,MI,qO,ng,zo,Aw,fz3,LH _ hs3,Gx,Je];simp[NU,uo]
 ·have a1:=aFK ih' (o:=o) (f:=g) (b:=b) (op:=op) (x:=x) (y:=y) (p:=p) hc hp hl hat (by omega) (by omega) (abJ op (gW 12 op ks.length p ks 0));simp only[lK,M.eu,hr,ah,Lp,NR,NQ,NS,Jo,M.bH,M.aZ,Int.reduceBEq,Int.reduceBNe,aT,cu,a1]
 ·obtain⟨u,v,z,rfl⟩:=WZ (hc.three rfl);have hsz3:=sz3 u v z;obtain⟨⟨a1,a2,a3⟩,a4⟩:=Xd ih' (o:=o) (f:=g) (b:=b) (k:=14) (op:=op) (x:=x) (y:=y) (p:=p) (j:=0) (u:=u) (by omega) hc hp hl hat (by omega) (by omega) rfl (SH 14 (by omega) 0);obtain⟨⟨b1,b2,b3⟩,b4⟩:=Xd ih' (o:=o) (f:=g) (b:=b) (k:=14) (op:=op) (x:=x) (y:=y) (p:=p) (j:=1) (u:=v) (by omega) hc hp hl hat (by omega) (by omega) rfl (SH 14 (by omega) 1);obtain⟨⟨c1,c2,c3⟩,c4⟩:=Xd ih' (o:=o) (f:=g) (b:=b) (k:=14) (op:=op) (x:=x) (y:=y) (p:=p) (j:=2) (u:=z) (by omega) hc hp hl hat (by omega) (by omega) rfl (SH 14 (by omega) 2);rw[rG] at a1 a2;rw[W9] at b1 b2;rw[aro] at c1 c2;rw[apo];generalize (bZ 14 op [u,v,z].length 0 p).yu=q0 at a2 a3;generalize DV 14 op [u,v,z].length p 0 u=K0 at a3 a4⊢;generalize (bZ 14 op [u,v,z].length 1 p).yu=q1 at b2 b3;generalize DV 14 op [u,v,z].length p 1 v=K1 at b3 b4⊢;generalize (bZ 14 op [u,v,z].length 2 p).yu=q2 at c2 c3;generalize DV 14 op [u,v,z].length p 2 z=K2 at c3 c4⊢;have hs:sizes [K0,rO [32,63,32],K1,rO [32,58,32],K2]<=90000000:=by simp only[sizes,iD];omega
  simp only[lK,M.eu,hr,ah,Lp,NR,NQ,NS,Jo,M.bH,M.aZ,Int.reduceBEq,Int.reduceBNe,aT,cu,a1,a2,a3,b1,b2,b3,c1,c2,c3,MI,Aw,fz5,LH _ hs,Gx];rfl
section
variable {o:Bool} {l:List Nd} {b:Nat} (hl:l.length<=1048576)
include hl
theorem aQr{u:Tn}(h:Ex' u)(hh:Lies l b u){p:Ps}(hp:jX p=true):M.lY (aQ o l) false ((b+sizes u.kids:Nat):Int) p.level p.kM p.oV p.oW p.jU=some (dE (CZ u p)):=
 M.acG (awn (ajK u h.ok h.e h.sm h.sz) (f:=5 * u.size+1) hl hh (Nat.le_refl _) hp)
end
structure Bk(u:Tn):Prop where
 ok:Az u
 k:u.kind=33
 sm:VE u
 sz:u.size<=1048576
def Ex'.kne{u:Tn}(h:Ex' u):(u.kind==33)=false:=by have:=h.e;unfold Qw at this;rw[OV];omega
def Vt:∀(L:List (aA)) (b:Bool) (x:aA),uX (L++[x]) b=uX L b++(bif L.isEmpty && b then x else[44,32]++x)
 |[],b,x=>by simp[uX]
 |y::L,b,x=>by rw[Uo,uX,uX,Vt L false x,Bool.and_false,List.isEmpty_cons,Bool.false_and,Bf]
def Ox:∀(l:List (aA)),joinL [44,32] l=uX l true∧∀x,[44,32]++joinL [44,32] (x::l)=uX (x::l) false
 |[]=>⟨rfl,λx=>by simp[joinL,uX]⟩
 |y::l=>by
  have ih:=(Ox l).2;constructor
  ·cases l with
   |nil=>simp[joinL,uX]
   |cons z l=>have h1:=(Ox l).2 z;rw[joinL,h1];rfl
  ·intro x;rw[joinL,ih y];simp[uX]
def PU{N:Nat}:∀(l:List (aA)) (b:Bool),(∀x,x∈l->x.length<=N)->(uX l b).length<=(N+2) * l.length
 |[],b,_=>by simp[uX]
 |x::l,b,h=>by have h1:=PU l false (λy hy=>h y (zmm _ hy));have h2:=h x zmf;rw[uX,qO,ng,Nat.mul_add,Nat.mul_one];cases b<;>simp only[aT,cu,qO,ng,zo]<;>omega
def Yi:∀l:List (aA),ajj (encS l)=some l
 |[]=>rfl
 |x::l=>by have h:=Yi l;unfold encS at *;rw[TN,ajj];simp only[h]
def afc{N:Nat}:∀(l:List (aA)),(∀x,x∈l->x.length<=N)->afM l<=N * l.length
 |[],_=>Nat.le_refl _
 |x::l,h=>by have h1:=afc l (λy hy=>h y (zmm _ hy));have h2:=h x zmf;rw[afM,ng,Nat.mul_add,Nat.mul_one];omega
def awo{ks:List Tn}(h:∀u,u∈ks->u.text.length<=1048576)(h0:1<=ks.length)(hn:ks.length<=1000)(k op:Int)(x y:aA)(hx:x.length<=1048576)(w:Bool):M.zN k op x y (gZ w ks)=some (Si x ks)∧(Si x ks).length<=1060000000:=by
 obtain⟨A,hA⟩:∃A,ks.take (ks.length - 1)=A:=⟨_,rfl⟩
 have hAl:A.length+1=ks.length:=by rw[<-hA,PW];omega
 have hAm:∀u,u∈A->u.text.length<=1048576:=λu hu=>h u (List.mem_of_mem_take (hA ▸ hu))
 have hmm:∀z,z∈A.map Tn.text->z.length<=1048576:=by intro z hz;obtain⟨u,hu,rfl⟩:=List.mem_map.1 hz;exact hAm u hu
 have hloop:=fF (b:=M.EJ (gZ w A) (A.length:Int) k op x y (gZ w ks)) (t:=((A.length:Int),encS (A.map Tn.text))) (λj=>((j:Int),encS ((A.take j).map Tn.text))) A.length
  (by
   intro j hj;obtain⟨u,hu'⟩:∃u,A[j]? =some u:=⟨A[j],by simp[hj]⟩
   obtain⟨c0,c1,c2,c3,c4⟩:=PN w u;have hl:(encS ((A.take j).map Tn.text)).length=j:=by simp[encS];omega
   have hw:i64.wrap ((j:Int)+1)=((j+1:Nat):Int):=by rw[aC (by omega) (by omega)];omega
   simp only[lK,M.EJ,M.y8,PO w hu',c0,c1,c2,c3,c4,ah,hl,ng,zo,hw];rw[zdt (by omega),aT,bn (by omega),aT,bn (by omega),aT,fP hu',List.map_append,encS,encS,List.map_append];rfl)
  (by simp only[lK,M.EJ,M.y8];rw[qN (by omega),cu,List.take_length]) 0 (Nat.zero_le _)
 have NH:M.IJ (gZ w A) (A.length:Int) k op x y (gZ w ks) (0,[])=some ((A.length:Int),encS (A.map Tn.text)):=hloop;have hw:i64.wrap (((gZ w ks).length:Int) - 1)=((ks.length - 1:Nat):Int):=by rw[iY,aC (by omega) (by omega)];omega
 have hcut:cut (gZ w ks) 0 ((ks.length - 1:Nat):Int)=some (gZ w A):=by rw[arl _ _ (by rw[iY];omega),ajH,hA]
 have hs:=afc _ hmm;rw[List.length_map] at hs;have hj:M.strings_Join (encS (A.map Tn.text)) [44,32]=some (uX (A.map Tn.text) true):=by simp only[M.strings_Join,Yi];rw[bn (by rw[List.length_map];simp only[ng,zo];omega),aT,(Ox _).1]
 have hjl:=PU _ true hmm;rw[List.length_map] at hjl;constructor
 ·rw[iY] at hw;simp only[M.zN,M.Kt,iY,hw,hcut,ah,NH,hj];rw[bn (by omega),aT,bn (by simp only[qO,ng,zo];omega),aT,bn (by simp only[qO,ng,zo];omega),aT,bn (by simp only[qO,ng,zo];omega),aT,Si,hA,Bf]
 ·rw[Si,hA];simp only[qO,ng,zo];omega
mutual
def Tv:Tn->Prop
 | .mk _ _ x _ ks=>x.length<=1000000000∧JC ks
def JC:List Tn->Prop
 |[]=>True
 |t::ts=>Tv t∧JC ts
end
mutual
def Xe:∀(t:Tn) (b:Nat),Tv t->∀n,n∈t.flat b->n.text.length<=1000000000
 | .mk k o x y ks,b,h,n,hn=>by
  rw[Tv] at h;rw[Tn.flat] at hn;rcases List.mem_append.1 hn with hn|hn
  ·exact adP ks b h.2 n hn
  ·simp only[List.mem_singleton] at hn;subst hn;exact h.1
def adP:∀(ks:List Tn) (b:Nat),JC ks->∀n,n∈jA ks b->n.text.length<=1000000000
 |[],b,_,n,hn=>by simp[jA] at hn
 |t::ts,b,h,n,hn=>by
  rw[JC] at h;rw[jA] at hn;rcases List.mem_append.1 hn with hn|hn
  ·exact Xe t b h.1 n hn
  ·exact adP ts _ h.2 n hn
end
def ab5(s:aA):Tv (rO s)↔s.length<=1000000000:=by simp[rO,Tv,JC]
def ain:Tv NK:=by simp[NK,Tv,JC]
def aio(d:Tn):Tv (PI d)↔Tv d:=by simp[PI,Tv,JC]
def akT(d:Tn):Tv (acI d)↔Tv d:=by simp[acI,Tv,JC]
def afd(l:List Tn):Tv (qL l)↔JC l:=by simp[qL,Tv]
def aip:∀l:List Tn,JC l↔∀t,t∈l->Tv t
 |[]=>by simp[JC]
 |t::ts=>by simp[JC,aip ts]
def aiq(a b:List Tn):JC (a++b)↔JC a∧JC b:=by simp only[aip,List.mem_append];exact⟨λh=>⟨λt ht=>h t (.inl ht),λt ht=>h t (.inr ht)⟩,λh t ht=>ht.elim (h.1 t) (h.2 t)⟩
def Dh{a b:Tn}(c:Bool)(ha:Tv a)(hb:Tv b):Tv (bif c then a else b):=by cases c<;>assumption
def apt{a b:List Tn}(c:Bool)(ha:JC a)(hb:JC b):JC (bif c then a else b):=by cases c<;>assumption
def air:∀(L:List Tn) (b:Bool),JC L->JC (Ja b L)
 |[],b,_=>by simp[Ja,JC]
 |x::l,b,h=>by rw[JC] at h;rw[Ja,aiq];exact⟨apt _ ⟨h.1,trivial⟩ ⟨by simp[ab5],ain,h.1,trivial⟩,air l false h.2⟩
def al6{L:List Tn}(h:JC L):Tv (LG L):=by rw[LG,akT,aio,afd];exact air L true h
def Xf:∀{L:List Tn} (j:Nat),JC L->Tv (uo L j)
 |[],j,_=>by simp[uo,ab5]
 |x::l,0,h=>h.1
 |x::l,j+1,h=>Xf (L:=l) j h.2
def apu(k op:Int)(n:Nat){x:aA}(g:Bool){L:List Tn}(hx:x.length<=1048576)(h:JC L):Tv (NU k op n x g L):=by
 have hs:=GZ op;have h0:=Xf 0 h;have h1:=Xf 1 h;have h2:=Xf 2 h;have hl:=al6 h;unfold NU;refine Dh _ ?_ (Dh _ ?_ (Dh _ ?_ (Dh _ ?_ (Dh _ ?_ (Dh _ ?_ (Dh _ ?_ (Dh _ ?_ (Dh _ (Dh _ ?_ ?_) (Dh _ ?_ (Dh _ ?_ ?_))))))))))
 all_goals simp only[afd,akT,aio,JC,ab5,h0,h1,h2,hl,ain,true_and,and_true,qO,ng,zo]
 all_goals first
  |omega
  |(cases g<;>simp only[aT,cu,qO,ng,zo]<;>omega)
def adQ{a:Tn}(h:Tv a):Tv (qL [rO [40],a,rO [41]]):=by rw[afd];exact⟨by simp[ab5],h,by simp[ab5],trivial⟩
def adR(k op:Int)(n:Nat)(p:Ps):∀(ts:List Tn) (j:Nat),(∀u,u∈ts->∀q,Tv (kY u q))->JC (kS k op n p ts j)
 |[],j,_=>by rw[kS];trivial
 |t::ts,j,h=>by rw[kS];exact⟨Dh _ (h t zmf _) (adQ (h t zmf _)),adR k op n p ts (j+1) λu hu=>h u (zmm _ hu)⟩
def adS(t:Tn):VE t->∀q,Tv (kY t q):=by refine Tn.ind (P:=λt=>VE t->∀q,Tv (kY t q)) ?_ t;intro k op x y ks ih hs q;rw[VE] at hs;rw[kY];exact apu _ _ _ _ hs.1.1 (adR _ _ _ _ _ _ λu hu=>ih u hu (KF hs.2 hu))
def al7{t:Tn}(h:VE t)(q:Ps):Tv (CZ t q):=Dh _ (adS t h q) (adQ (adS t h _))
def ajL(t:Tn):Prop:=(40<=t.kind∧t.kind<=44)∨t.kind=34
section
variable {k op:Int} {x y:aA} {ks:List Tn} (hok:Az (.mk k op x y ks)) (hss:ae6 ks) (hsz:sizes ks<=1048576)
include hok hss hsz
theorem awp{j:Nat}{u:Tn}(hj:ks[j]? =some u)(hc:cls k op ks.length j=1):Bk u:=by obtain⟨h1,h2⟩:=OQ hok hj;rw[hc] at h1;have:=kP (Gy hj);exact⟨h2,h1,KF hss (Gy hj),by omega⟩
theorem aQs{j:Nat}{u:Tn}(hj:ks[j]? =some u)(hc:cls k op ks.length j=0):Ex' u:=by obtain⟨h1,h2⟩:=OQ hok hj;rw[hc] at h1;have:=kP (Gy hj);exact⟨h2,h1,KF hss (Gy hj),by omega⟩
theorem aFM(hk:k=42∨k=43):∀u,u∈ks->Bk u∨Ex' u:=by
 intro u hu;obtain⟨j,hj⟩:=List.mem_iff_getElem?.1 hu;have:cls k op ks.length j=1∨cls k op ks.length j=0:=by
  rcases hk with rfl|rfl
  ·have e:cls 42 op ks.length j=if op=2∨(op=3∧j+1=ks.length) then 1 else 0:=by simp[cls]
   rw[e];split
   ·exact .inl rfl
   ·exact .inr rfl
  ·have e:cls 43 op ks.length j=if j=2 then 1 else 0:=by simp[cls]
   rw[e];split
   ·exact .inl rfl
   ·exact .inr rfl
 rcases this with h|h
 ·exact .inl (awp hok hss hsz hj h)
 ·exact .inr (aQs hok hss hsz hj h)
end
def Xg{t:Tn}(h:VE t):t.text.length<=1048576:=by cases t;exact h.1.1
def Bk.size{u:Tn}(h:Bk u):(abK u).size+2<=40 * u.size:=by have hk:=h.k;exact ajB u h.ok (by constructor<;>omega)
def apv{ks:List Tn}(h:1<=ks.length):∃u,ks[ks.length - 1]? =some u∧MF ks (ks.length - 1)=u:=by
 have:ks.length - 1<ks.length:=by omega
 refine⟨ks[ks.length - 1],by simp[this], ?_⟩;simp[MF,this]
def Vu{t:Tn}(hok:Az t)(hi:ajL t)(hs:VE t)(hz:t.size<=1048576):
  (∃u,(t.kind=40∨t.kind=41)∧t.kids=[u]∧Bk u)∨((t.kind=42∨t.kind=43)∧t.kids.length<=7∧∀u,u∈t.kids->Bk u∨Ex' u)∨
  (t.kind=44∧1<=t.kids.length∧t.kids.length<=7∧∃u,t.kids[t.kids.length - 1]? =some u∧MF t.kids (t.kids.length - 1)=u∧Bk u)∨t.kind=34:=by
 have hss:=Xa hs;have hks:=t.vK;obtain⟨k,op,x,y,ks⟩:=t;simp only[Tn.kids,Tn.kind] at *;have hc:=I4 hok;unfold ajL at hi;simp only[Tn.kind] at hi;rcases hi with hi|hi
 ·have hk:(k=40∨k=41)∨(k=42∨k=43)∨k=44:=by omega
  rcases hk with hk|hk|hk
  ·obtain⟨u,rfl⟩:=ZF.1 (hc.one (by omega));refine .inl ⟨u,hk,rfl,awp hok hss (by omega) (j:=0) rfl ?_⟩;rcases hk with rfl|rfl<;>simp[cls]
  ·exact .inr (.inl ⟨hk,hc.few (by omega) (by omega),aFM hok hss (by omega) hk⟩)
  ·have h1:=hc.some_ (by omega);obtain⟨u,h2,h3⟩:=apv h1;refine .inr (.inr (.inl ⟨hk,h1,hc.few (by omega) (by omega),u,h2,h3,awp hok hss (by omega) h2 ?_⟩));subst hk;simp[cls];omega
 ·exact .inr (.inr (.inr hi))
structure It(u:Tn):Prop where
 ok:Az u
 i:ajL u
 sm:VE u
 sz:u.size<=1048576
def aQt{t:Tn}(hok:Az t)(hk:t.kind=45)(hs:VE t)(hz:t.size<=1048576):∀u,u∈t.kids->It u:=by
 intro u hu;have hss:=Xa hs;have hks:=t.vK;obtain⟨k,op,x,y,ks⟩:=t;simp only[Tn.kids,Tn.kind] at *;obtain⟨j,hj⟩:=List.mem_iff_getElem?.1 hu;obtain⟨h1,h2⟩:=OQ hok hj;have hc:cls k op ks.length j=5:=by subst hk;simp[cls]
 rw[hc] at h1;have:=kP hu;exact⟨h2,h1,KF hss hu,by omega⟩
def apw(l:List Nd)(o:Bool)(d:Int)(hl:l.length<=1048576)(hk:∀n,n∈l->n.kids.length<=1048576∧∀e,e∈n.kids-> -4000000000<=e+d∧e+d<=4000000000):
  M.sW (aQ o l) d=some (aQ true (l.map (Nd.up d))):=by
 simp only[M.sW,M.Ih];have hloop:=fF (b:=M.BZ (aQ o l) d) (t:=((l.length:Int),aQ true (l.map (Nd.up d)))) (λi=>((i:Int),aQ true ((l.take i).map (Nd.up d)))) l.length
  (by
   intro i hi;obtain⟨n,hn⟩:∃n,l[i]? =some n:=⟨l[i],by simp[hi]⟩
   obtain⟨hkl,hke⟩:=hk n (Gy hn);have hin:=fF (b:=M.BX (aQ o l) d (i:Int) (aQ true ((l.take i).map (Nd.up d))) n.kind n.op n.text n.other) (t:=((n.kids.length:Int),encI (n.kids.map (· +d)))) (λj=>((j:Int),encI ((n.kids.take j).map (· +d)))) n.kids.length
    (by
     intro j hj;obtain⟨e,he⟩:∃e,n.kids[j]? =some e:=⟨n.kids[j],by simp[hj]⟩
     have:=hke e (Gy he);simp only[lK,M.BX,M.wS,bU,jK,hn,He,ah,Jo,aU,kU,he,MI,List.length_map,PW,LJ];rw[zdt (by omega),aT,bn (by omega),aT,bn (by omega),aT,aC (by omega) (by omega),aC (by omega) (by omega),fP he];simp[encI])
    (by simp only[lK,M.BX,M.wS,bU,jK,hn,He,ah,Jo,aU];rw[qN (by omega),cu,List.take_length]) 0 (Nat.zero_le _)
   simp only[rG,List.take_zero,List.map_nil] at hin;have hin':M.FD (aQ o l) d (i:Int) (aQ true ((l.take i).map (Nd.up d))) n.kind n.op n.text n.other (0,[])=some ((n.kids.length:Int),encI (n.kids.map (· +d))):=hin;simp only[lK,M.BZ,M.wU,dn,bU,jK,hn,He,ah,Lp,NR,NQ,NS,Jo,hin',Bh,aT,List.length_map,PW,LJ];rw[zdt (by omega),aT,bn (by omega),aT,bn (by omega),aT,aC (by omega) (by omega),fP hn,List.map_append,MC];rfl)
  (by simp only[lK,M.BZ,M.wU,dn];rw[qN (by omega),cu,List.take_length]) 0 (Nat.zero_le _)
 simp only[rG,List.take_zero,List.map_nil] at hloop;have NH:M.FH (aQ o l) d (0,[])=some ((l.length:Int),aQ true (l.map (Nd.up d))):=hloop;rw[NH,ah]
def al8{l:List Nd}{o:Bool}(hl:l.length<=1048576)(t:Tn):∀(f b:Nat),Lies l b t->t.size<=f->
  M.iK f (aQ o l) ((b+sizes t.kids:Nat):Int)=some (t.kind,t.op,t.text,t.other,gZ true t.kids):=by
 refine Tn.ind (P:=λt=>∀(f b:Nat),Lies l b t->t.size<=f->M.iK f (aQ o l) ((b+sizes t.kids:Nat):Int)=some (t.kind,t.op,t.text,t.other,gZ true t.kids)) ?_ t;intro k op x y ks ih f b h hf;cases f with
 |zero=>rw[Tn.size] at hf;omega
 |succ f=>
  have hroot:l[b+sizes ks]? =some ⟨k,op,x,y,ends ks b⟩:=h.root;have hlt:=h.lt;rw[Tn.size] at hf hlt;have hkl:=lW ks;simp only[lK,M.iK,M.Bq,bU,jK,Tn.kids,Tn.kind,Tn.op,Tn.text,Tn.other,hroot,He,ah,Lp,NR,NQ,NS,Jo,aU,gU];have hrec:∀j t,ks[j]? =some t->M.iK f (aQ o l) ((b+sizes (ks.take j)+sizes t.kids:Nat):Int)=some (t.kind,t.op,t.text,t.other,gZ true t.kids):=λj t hj=>ih t (Gy hj) f _ (Lies.OO h hj) (by have:=NJ hj;omega)
  have hloop:=fF (b:=M.jS (M.iK f))
   (t:=if ks=[] then .inl (aQ o l,encI (ends ks b),(ks.length:Int),0,0,0,[],[],k,op,x,y) else .inr (aQ o l,encI (ends ks b),(ks.length:Int),(ks.length:Int),0,0,[],[],k,op,x,y,gZ true ks))
   (λj=>if j=0 then .inl (aQ o l,encI (ends ks b),(ks.length:Int),0,0,0,[],[],k,op,x,y) else .inr (aQ o l,encI (ends ks b),(ks.length:Int),(j:Int),0,0,[],[],k,op,x,y,gZ true (ks.take j))) ks.length
   (by
    intro j hj;obtain⟨t,ht⟩:∃t,ks[j]? =some t:=⟨ks[j],by simp⟩
    have hr:=hrec j t ht;have he:=aeP (b:=b) ht;rw[if_neg (show¬j+1=0 by omega),ajs ht,avP]
    by_cases h0:j=0
    ·subst h0;rw[if_pos rfl];have hi:idx (encI (ends ks b)) 0=some [D.int .i64 ((b+sizes (ks.take 0)+sizes t.kids:Nat):Int)]:=by have:=bU (encI (ends ks b)) 0;rw[rG] at this;rw[this,kU,he];rfl
     simp only[lK,M.jS,M.jR,hi,ah,MI,hr];rw[zdt (by omega),aT];rfl
    ·rw[if_neg h0];simp only[lK,M.jS,M.jR,bU,kU,he,He,ah,MI,hr,iY,PW,LJ];rw[zdt (by omega),aT,bn (by omega),aT,bn (by omega),aT,aC (by omega) (by omega)];rfl)
   (by
    by_cases h0:ks.length=0
    ·have he:ks=[]:=List.length_eq_zero_iff.1 h0;rw[if_pos h0,if_pos he];simp only[lK,M.jS,M.jR];rw[qN (by omega),cu]
    ·have he:¬ks=[]:=λe=>h0 (by rw[e];rfl)
     rw[if_neg h0,if_neg he,List.take_length];simp only[lK,M.jS,M.jR];rw[qN (by omega),cu]) 0 (Nat.zero_le _)
  rw[if_pos rfl] at hloop;rw[M.DJ,hloop,ah]
  by_cases he:ks=[]
  ·rw[if_pos he,he];rfl
  ·rw[if_neg he];rfl
def Za{l:List Nd}{o:Bool}(hl:l.length<=1048576){t:Tn}{b:Nat}(h:Lies l b t):M.jZ (aQ o l) ((b+sizes t.kids:Nat):Int)=some (t.kind,t.op,t.text,t.other,gZ true t.kids):=
 M.Rx (al8 hl t t.size b h (Nat.le_refl _))
def ab6{T:Tn}{o:Bool}(hT:T.size<=1048576):M.mO (aQ o (T.flat 0))=some (encI (T.Zg 0),true):=by have h:=OL (T.flat 0) o (by rw[T.flat_length];omega) (λn hn=>by have:=(ML T 0 n hn).1;omega) (T.flat 0) 0 [] rfl rfl (Nat.zero_le _) Nj;rw[rG,Oh] at h;have e:encI ([]:List Int)=[]:=rfl;rw[e] at h;simp only[M.mO,M.AO];rw[h,ah];simp only[qR,letE,Bh,aT]
def arq{T t:Tn}{o:Bool}{b:Nat}(hT:T.size<=1048576)(h:Lies (T.flat 0) b t):M.zI (aQ o (T.flat 0)) ((b+sizes t.kids:Nat):Int)=some (aQ true (t.flat 0)):=by
 have hlt:=h.lt;rw[T.flat_length] at hlt;have hs:=t.vK;have hst:=h.Zg rfl;rw[show b+t.size - 1=b+sizes t.kids by omega] at hst;have hg:idx (encI (T.Zg 0)) ((b+sizes t.kids:Nat):Int)=some [D.int .i64 (b:Int)]:=by rw[bU,kU,hst];rfl
 have hg2:(encI (T.Zg 0))[(((b+sizes t.kids:Nat):Int)).toNat]? =some [D.int .i64 (b:Int)]:=by rw[QS,kU,hst];rfl
 have hw:i64.wrap (((b+sizes t.kids:Nat):Int)+1)=((b+t.size:Nat):Int):=by rw[aC (by omega) (by omega)];omega
 have hcut:cut (aQ o (T.flat 0)) (b:Int) ((b+t.size:Nat):Int)=some (aQ o (t.flat b)):=by
  unfold cut;have hc:(decide (0<=(b:Int)) && decide ((b:Int)<=((b+t.size:Nat):Int)) && decide (((b+t.size:Nat):Int)<=((aQ o (T.flat 0)).length:Int)))=true:=by rw[dn,T.flat_length];simp only[zq,decide_eq_true_eq];omega
  rw[hc,aT,QS,QS,show b+t.size - b=t.size by omega];have:=h.part;congr 1;rw[<-this];simp[aQ,List.map_drop,List.map_take]
 have hw2:i64.wrap (0 - (b:Int))=0 - (b:Int):=aC (by omega) (by omega);have hsh:M.sW (aQ o (t.flat b)) (0 - (b:Int))=some (aQ true (t.flat 0)):=by
  rw[apw (t.flat b) o _ (by rw[t.flat_length];omega) (λn hn=> ?_)]
  ·rw[t.aex b 0];rfl
  ·obtain⟨h1,h2⟩:=ML t b n hn;refine⟨by omega,λe he=> ?_⟩;have:=h2 e he;omega
 simp only[M.zI,M.JX,ab6 hT,ah,hg,hg2,MI,hw,hcut,hw2,hsh]
section
variable (l:List Nd) (o:Bool) (hl:l.length<=1048576) (hk:∀n,n∈l->n.kids.length<=1048576) (hsm:∀n,n∈l->Small n)
include hl hk hsm
end
def Vw(l:List (aA)):ay (encS l)=true:=by simp[ay,encS,D.flat]
def ab7{β:Type}(k:Int)(a b:β):(bif TL k then(bif k !=33 then(bif k !=34 then a else b) else b) else b)=bif abU k then a else b:=by unfold abU TL;simp only[bne];cases(decide (k>=20) && decide (k<=34))<;>cases(k==33)<;>cases(k==34)<;>rfl
def Vx(l:List Nd)(o:Bool)(hl:l.length<=1048576):M.o7 (aQ o l)=some (VD l:Int):=by
 have hloop:=fF (b:=M.wV (aQ o l)) (t:=((VD l:Int),(l.length:Int))) (λj=>((VD (l.take j):Int),(j:Int))) l.length
  (by
   intro j hj;obtain⟨n,hn⟩:∃n,l[j]? =some n:=⟨l[j],by simp[hj]⟩
   have h1:=X6 (l.take j);rw[PW] at h1;have hw1:i64.wrap ((VD (l.take j):Int)+1)=(VD (l.take j):Int)+1:=aC (by omega) (by omega);have hw:i64.wrap ((j:Int)+1)=((j+1:Nat):Int):=by rw[aC (by omega) (by omega)];omega
   simp only[M.wV,M.rD,dn,bU,jK,hn,He,ah,Lp,(aW n.kind).1,hw,hw1];rw[zdt (by omega),aT,ab7,aia hn];cases abU n.kind<;>rfl)
  (by simp only[M.wV,M.rD,dn];rw[qN (by omega),cu,List.take_length]) 0 (Nat.zero_le _)
 have h:M.Ac (aQ o l) (0,0)=some ((VD l:Int),(l.length:Int)):=hloop;simp only[M.o7,M.Cb,h,ah]
def Vy(l:List Nd)(o:Bool)(hl:l.length<=1048576):M.o8 (aQ o l)=some (VD l:Int):=by
 have hloop:=fF (b:=M.xC (aQ o l) (l.length:Int)) (t:=((VD l:Int),(l.length:Int))) (λj=>((VD (l.take j):Int),(j:Int))) l.length
  (by
   intro j hj;obtain⟨n,hn⟩:∃n,l[j]? =some n:=⟨l[j],by simp[hj]⟩
   have h1:=X6 (l.take j);rw[PW] at h1;have hw1:i64.wrap ((VD (l.take j):Int)+1)=(VD (l.take j):Int)+1:=aC (by omega) (by omega);have hw:i64.wrap ((j:Int)+1)=((j+1:Nat):Int):=by rw[aC (by omega) (by omega)];omega
   simp only[lK,M.xC,M.rF,bU,jK,hn,He,ah,Lp,NR,NQ,NS,Jo,(aW n.kind).2,hw,hw1];rw[zdt (by omega),aT,ab7,aia hn];cases abU n.kind<;>rfl)
  (by simp only[lK,M.xC,M.rF];rw[qN (by omega),cu,List.take_length]) 0 (Nat.zero_le _)
 have h:M.Ak (aQ o l) (l.length:Int) (0,0)=some ((VD l:Int),(l.length:Int)):=hloop;simp only[M.o8,M.CO,dn,h,ah]
def ais(neg:Bool):∀(N n:Nat) (out:aA),n<=N->0<n->out.length+n<=2000000->M.GX neg ((n:Int),out)=some (0,Lib.decDigits n++out)
 |0,n,out,h1,h2,_=>absurd h2 (by omega)
 |N+1,n,out,h1,h2,h3=>by
  have hm:(n:Int).tmod 10=((n % 10:Nat):Int):=rfl;have hd:(n:Int).tdiv 10=((n / 10:Nat):Int):=rfl;have hlt:n % 10<10:=Nat.mod_lt _ (by omega);have hle:n / 10<=n:=Nat.div_le_self _ _;have hw1:i64.wrap (48+((n % 10:Nat):Int))=((48+n % 10:Nat):Int):=by rw[aC (by omega) (by omega)];omega
  have hw2:IntKind.u8.wrap ((48+n % 10:Nat):Int)=((48+n % 10:Nat):Int):=by
   have:IntKind.u8.wrap ((48+n % 10:Nat):Int)=((48+n % 10:Nat):Int) % 256:=by simp[IntKind.wrap,IntKind.bits,IntKind.signed]
   rw[this];omega
  have hw3:i64.wrap ((n / 10:Nat):Int)=((n / 10:Nat):Int):=aC (by omega) (by omega);have hne:((n:Int) !=0)=true:=by simp;omega
  have hbody:M.OD neg ((n:Int),out)=some (.inl (((n / 10:Nat):Int),[UInt8.ofNat (48+n % 10)]++out)):=by simp only[M.OD,M.JY,hne,aT,hm,hd,hw1,hw2,hw3,QS,ng,zo];rw[qN (by omega),cu,bn (by omega),aT]
  rw[M.GX,gQ hbody,Lib.decDigits]
  by_cases h10:n<10
  ·rw[dif_pos h10];have e0:n / 10=0:=Nat.div_eq_of_lt h10;have em:n % 10=n:=Nat.mod_eq_of_lt h10;rw[e0,em];exact dP rfl
  ·rw[dif_neg h10];have h4:0<n / 10:=Nat.div_pos (by omega) (by omega);have h5:n / 10<n:=Nat.div_lt_self h2 (by omega);have:=ais neg N (n / 10) ([UInt8.ofNat (48+n % 10)]++out) (by omega) h4 (by simp only[qO,ng,zo];omega);rw[M.GX] at this;rw[this,Bf]
def ait(n:Nat)(h:n<=1048576):M.KP (n:Int)=some (Lib.decDigits n):=by
 simp only[M.KP,M.Qn]
 by_cases h0:n=0
 ·subst h0;rw[Lib.decDigits];rfl
 ·have hne:((n:Int)==0)=false:=by simp;omega
  rw[hne,cu,qN (by omega),ais false n n [] (Nat.le_refl _) (by omega) (by simp;omega),ah,cu,List.append_nil]
def aiu(n:Nat)(h:n<=1048576):M.KQ (n:Int)=some (Lib.decDigits n):=by simp only[M.KQ,M.Qp,M.strconv_Itoa,Lib.itoa];rw[zdt (by omega),zdt (by omega),if_neg (by omega),QS];rfl
def tL:List Nd->Nat
 |[]=>0
 |n::l=>n.text.length+1+tL l
def asq:∀l:List Nd,(∀n,n∈l->n.text.length<=1000000000)->tL l<=1000000001 * l.length
 |[],_=>by simp[tL]
 |n::l,h=>by
  have h1:=h n zmf;have h2:=asq l λm hm=>h m (zmm _ hm)
  rw[tL,ng,Nat.mul_add];omega
def adT{L:List Nd}{o:Bool}(hL:L.length<=1000000):∀(l:List Nd) (i:Nat) (acc:aA),L.drop i=l->i+l.length=L.length->acc.length+tL l<=20000000000000->
  M.jQ (jC o L) ((i:Int),acc.map byteRow)=(match flL l with
   |none=>some (.inl ())
   |some s=>some (.inr ((L.length:Int),(acc++s).map byteRow)))
 |[],i,acc,hd,hi,_=>by rw[M.jQ];refine dP ?_;simp only[M.nG,M.lF,kH];rw[zo] at hi;rw[qN (by omega),cu,List.append_nil,show i=L.length by omega]
 |n::l,i,acc,hd,hi,hb=>by
  rw[ng] at hi;rw[tL] at hb;have hn:L[i]? =some n:=by have:=congrArg (λx=>x[0]?) hd;simpa using this
  have hd':L.drop (i+1)=l:=by have:=congrArg (λx=>x.drop 1) hd;simpa using this
  have hw:i64.wrap ((i:Int)+1)=((i+1:Nat):Int):=by rw[aC (by omega) (by omega)];omega
  have hin:((i:Int)<(L.length:Int)):=by omega
  have step:∀(s:aA),s.length<=n.text.length+1->M.nG (jC o L) ((i:Int),acc.map byteRow)=some (.inl (((i+1:Nat):Int),(acc++s).map byteRow))->
    M.jQ (jC o L) ((i:Int),acc.map byteRow)=(match(flL l).map (s++ ·) with
     |none=>some (.inl ())
     |some s=>some (.inr ((L.length:Int),(acc++s).map byteRow))):=by
   intro s hs hb';have:=adT (o:=o) hL l (i+1) (acc++s) hd' (by omega) (by rw[qO];omega);rw[M.jQ] at this;rw[M.jQ,gQ hb',this];cases flL l with
   |none=>rfl
   |some x=>simp only[He,Bf]
  rw[flL];cases h1:n.kind==1 with
  |true=>rw[aT];refine step n.text (by omega) ?_;simp only[M.nG,M.lF,kH,bU,BA,hn,He,ah,cD0,cD2,h1,aT,List.length_map,hw];rw[zdt hin,aT,bn (by omega),aT,bn (by omega),aT,List.map_append]
  |false=>
  rw[cu];cases h2:n.kind==2 with
  |true=>rw[aT];refine step [32] (by simp) ?_;simp only[M.nG,M.lF,kH,bU,BA,hn,He,ah,cD0,cD2,h1,h2,aT,cu,List.length_map,hw];rw[zdt hin,aT,bn (by omega),aT,bn (by omega),aT,List.map_append];rfl
  |false=>
  rw[cu];cases h3:n.kind==3 with
  |true=>rw[aT,M.jQ];refine dP ?_;simp only[M.nG,M.lF,kH,bU,BA,hn,He,ah,cD0,h1,h2,h3,aT,cu];rw[zdt hin,aT]
  |false=>rw[cu];have h:=step [] (by simp) (by simp only[M.nG,M.lF,kH,bU,BA,hn,He,ah,cD0,h1,h2,h3,cu,hw,List.append_nil];rw[zdt hin,aT]);rw[h];cases flL l<;>rfl
def aiv{t:Tn}{o:Bool}(hd:VB t=true)(hz:t.size<=4000)(hx:Tv t):M.qF (jC o (t.flat 0))=some (flR (KR t)):=by
 have hxx:=Xe t 0 hx;have hf:=ah9 t 0 hd;have ht:=asq _ hxx;rw[t.flat_length] at ht;have h:=adT (o:=o) (L:=t.flat 0) (by rw[t.flat_length];omega) (t.flat 0) 0 [] rfl (by omega) (by simp only[zo];omega);rw[hf] at h;have h0:M.jQ (jC o (t.flat 0)) (0,[])=M.jQ (jC o (t.flat 0)) (((0:Nat):Int),([]:aA).map byteRow):=rfl;simp only[M.qF,M.FT,acJ (t:=t) (by omega) hxx,ah,hd,Bool.true_and];rw[zdt hz,h0,h];cases KR t with
 |none=>rfl
 |some s=>simp only[Bool.not_true,cu,ah,qR,letE,List.nil_append,bytesOf_map];rfl
def ars{o:Option (aA)}{N:Nat}(h:∀s,o=some s->s.length<=N):(flR o).1.length<=N:=by
 cases o with
 |none=>simp[flR]
 |some s=>exact h s rfl
structure Ey(u:Tn):Prop where
 x:Ex' u
 p:pln u
 z:u.size<=400
def Ey.Tv{u:Tn}(h:Ey u):Go.Proofs.YtbgadfelmhoheaaGreatDoor.Tv (Gu u):=al7 h.x.sm .top
def Ey.dok{u:Tn}(h:Ey u):VB (Gu u)=true:=alW h.x.ok h.x.e h.p .top
def Ey.size{u:Tn}(h:Ey u):(Gu u).size<=4000:=by have:=ah3 h.x.ok h.x.e;have:=h.z;omega
def adU{u:Tn}(h:Ey u):(asl u).length<=5000000000000:=by
 refine ars λs hs=> ?_
 have h1:=abT _ _ hs;have h2:=ajz 1000000000 (Gu u) 0 (Xe _ 0 h.Tv);have h3:=h.size;omega
def al9{u:Tn}(h:Ey u)(o:Bool):M.qF (jC o ((Gu u).flat 0))=some (flR (KR (Gu u))):=aiv h.dok h.size h.Tv
def Yj:∀{ks:List Tn} {x:aA},(∀u,u∈ks->u.kind=33∨Ey u)->x∈lI ks->x.length<=5000000000000
 |[],_,_,h=>by simp[lI] at h
 |u::l,x,hk,h=>by
  rw[lI,List.mem_append] at h;rcases h with h|h
  ·rcases hk u zmf with h3|h3
   ·rw[show(u.kind==33)=true by rw[h3];rfl,aT] at h;cases h
   ·cases hq:u.kind==33 with
    |true=>rw[hq,aT] at h;cases h
    |false=>rw[hq,cu,List.mem_singleton] at h;rw[h];exact adU h3
  ·exact Yj (λv hv=>hk v (zmm _ hv)) h
def QH:∀ks:List Tn,(lI ks).length<=ks.length
 |[]=>Nat.le_refl _
 |u::l=>by have:=QH l;rw[lI,qO,ng];cases u.kind==33<;>simp only[aT,cu,ng,zo]<;>omega
def adV{ks:List Tn}(h:∀u,u∈ks->u.kind=33∨Ey u)(hn:ks.length<=7):(uX (lI ks) true).length<=36000000000000:=by have h1:=PU (lI ks) true (λx hx=>Yj h hx);have h2:=QH ks;have h3:(5000000000000+2) * (lI ks).length<=(5000000000000+2) * 7:=Nat.mul_le_mul_left _ (by omega);omega
end Go.Proofs.YtbgadfelmhoheaaGreatDoor
