import Derived.Test.YtbgadfelmhoheaaGreatDoorXHigh
import Derived.Lib.ItoaNum
set_option linter.defProp false
namespace Go.Proofs.YtbgadfelmhoheaaGreatDoor
set_option linter.unusedVariables false
set_option linter.unusedSimpArgs false
open Go Go.Vm
open Go.IntKind (i64)
def ahW(c:UInt8)(a b:aA):hasB c (a++b)=(hasB c a||hasB c b):=by simp[hasB]
def PK(c d:UInt8)(b:aA):hasB c (d::b)=((d==c)||hasB c b):=by simp[hasB]
def n10{c:UInt8}(h:(c.toNat:Int)≠10):(c==10)=false:=OV.2 λe=>h (by rw[e];rfl)
def av9{s:aA}(h:∀i:Nat,i<s.length->G7 s (i:Int)≠10):hasB 10 s=false:=by
 cases hb:hasB 10 s with
 |false=>rfl
 |true=>
  unfold hasB at hb;rw[List.any_eq_true] at hb;obtain⟨c,hc,he⟩:=hb;obtain⟨i,hi,hx⟩:=List.mem_iff_getElem.1 hc;have:=h i hi;rw[KA,List.getElem?_eq_getElem hi,hx] at this;have aQo:c=10:=by simpa using he
  subst aQo;exact absurd rfl this
def asi{p:UInt8->Bool}:∀{l:aA} {j:Nat},j<(l.takeWhile p).length->∃c,l[j]? =some c∧p c=true
 |[],j,h=>by simp at h
 |c::l,j,h=>by
  rw[List.takeWhile_cons] at h;cases hp:p c with
  |false=>rw[hp] at h;simp at h
  |true=>
   rw[hp] at h;simp only[if_true,ng] at h;cases j with
   |zero=>exact⟨c,rfl,hp⟩
   |succ j=>obtain⟨d,h1,h2⟩:=asi (p:=p) (l:=l) (j:=j) (by omega);exact⟨d,by rw[List.getElem?_cons_succ];exact h1,h2⟩
def aq3{b:Int}(h:isD b=true):b≠10:=by unfold isD at h;rw[zq,decide_eq_true_eq,decide_eq_true_eq] at h;omega
def ZU{s:aA}{a:Int}(h0:0<=a):∀i,a<=i->i<tu s a->G7 s i≠10:=by
 intro i h1 h2;unfold tu at h2;rw[if_pos h0] at h2;obtain⟨c,hc,hp⟩:=asi (p:=λc=>isD (c.toNat:Int)) (l:=s.drop a.toNat) (j:=(i - a).toNat) (by omega);rw[List.getElem?_drop,show a.toNat+(i - a).toNat=i.toNat by omega] at hc;have e:i=(i.toNat:Int):=by omega
 rw[e,KA,hc];exact aq3 hp
def adC{s:aA}{r:Int}(h0:0<=r):∀i,r<=i->i<RS s r->G7 s i≠10:=by
 intro i h1 h2;unfold RS at h2;cases he:(G7 s r==101)||(G7 s r==69) with
 |false=>rw[he,cu] at h2;omega
 |true=>
  have hr:G7 s r≠10:=by rw[Bool.or_eq_true,beq_iff_eq,beq_iff_eq] at he;omega
  by_cases hi:i=r
  ·rw[hi];exact hr
  rw[he,aT] at h2;cases hs:(G7 s (r+1)==43)||(G7 s (r+1)==45) with
  |true=>
   have hr1:G7 s (r+1)≠10:=by rw[Bool.or_eq_true,beq_iff_eq,beq_iff_eq] at hs;omega
   rw[hs,aT] at h2
   by_cases hi1:i=r+1
   ·rw[hi1];exact hr1
   cases hd:decide (tu s (r+1+1)>r+1+1) with
   |true=>rw[hd,aT] at h2;exact ZU (by omega) i (by omega) h2
   |false=>rw[hd,cu] at h2;omega
  |false=>
   rw[hs,cu] at h2;cases hd:decide (tu s (r+1)>r+1) with
   |true=>rw[hd,aT] at h2;exact ZU (by omega) i (by omega) h2
   |false=>rw[hd,cu] at h2;omega
def awc{s:aA}(hl:s.length<=1048576)(h:RU s 0=(s.length:Int)):hasB 10 s=false:=by
 refine av9 λi hi=> ?_
 unfold RU at h;rw[if_neg (by omega)] at h;have r0:=Jv hl (a:=0) (by omega)
 by_cases h1:(i:Int)<tu s 0
 ·exact ZU (by omega) _ (by omega) h1
 cases hp:G7 s (tu s 0)==46 with
 |true=>
  rw[hp,aT] at h;have hp':G7 s (tu s 0)≠10:=by rw[beq_iff_eq] at hp;omega
  by_cases h2:(i:Int)=tu s 0
  ·rw[h2];exact hp'
  have r1:=Jv hl (a:=tu s 0+1) (by omega);cases hq:(tu s 0==0) &&(tu s (tu s 0+1)==tu s 0+1) with
  |true=>rw[hq,aT] at h;omega
  |false=>
   rw[hq,cu] at h
   by_cases h3:(i:Int)<tu s (tu s 0+1)
   ·exact ZU (by omega) _ (by omega) h3
   ·exact adC (r:=tu s (tu s 0+1)) (by omega) _ (by omega) (by omega)
 |false=>
  rw[hp,cu] at h;cases hq:tu s 0==0 with
  |true=>rw[hq,aT] at h;omega
  |false=>rw[hq,cu] at h;exact adC (r:=tu s 0) (by omega) _ (by omega) (by omega)
def aeT{q:Int}(hq:q≠10):∀(n:Nat) (l:aA) (i:Int),l.length<=n->0<=i->Zy q l i=i+(l.length:Int)->hasB 10 l=false
 |n,[],i,_,h0,h=>by rw[Zy] at h;simp at h;omega
 |0,c::l,i,hn,_,_=>by simp at hn
 |n+1,c::l,i,hn,h0,h=>by
  rw[XR] at h;rw[ng] at h hn;rw[PK]
  by_cases h1:(c.toNat:Int)=q
  ·rw[if_pos h1] at h;have hl:l=[]:=List.eq_nil_of_length_eq_zero (by omega);rw[hl,n10 (by omega)];rfl
  rw[if_neg h1] at h
  by_cases h2:(c.toNat:Int)=10
  ·rw[if_pos h2] at h;omega
  rw[if_neg h2] at h;rw[n10 h2,Bool.false_or]
  by_cases h3:(c.toNat:Int)=92
  ·rw[if_pos h3] at h;cases l with
   |nil=>simp at h;omega
   |cons d l=>
    simp only[] at h;rw[ng] at h hn
    by_cases h4:(d.toNat:Int)=10
    ·rw[if_pos h4] at h;omega
    ·rw[if_neg h4] at h;rw[PK,n10 h4,Bool.false_or];exact aeT hq n l (i+2) (by omega) (by omega) (by omega)
  ·rw[if_neg h3] at h;exact aeT hq n l (i+1) (by omega) (by omega) (by omega)
def adD{s:aA}{q:Int}(hq:q≠10)(h:quoted s 0 q=(s.length:Int)):hasB 10 s=false:=by
 unfold quoted at h;split at h
 ·next h1=>
  cases s with
  |nil=>rfl
  |cons c l=>have hc:G7 (c::l) 0=(c.toNat:Int):=rfl;rw[hc] at h1;rw[PK,n10 (by omega),Bool.false_or];rw[show(0+1:Int).toNat=1 from rfl,List.drop_succ_cons,List.drop_zero,ng] at h;exact aeT hq l.length l (0+1) (Nat.le_refl _) (by omega) (by omega)
 ·omega
def aq4{b:Int}(h:isW b=true):b≠10:=by unfold isW isL isD at h;simp only[Bool.or_eq_true,zq,decide_eq_true_eq,beq_iff_eq] at h;omega
def akB:∀{s:aA},ajn s=true->hasB 10 s=false
 |[],_=>rfl
 |c::l,h=>by unfold ajn at h;rw[List.all_cons,zq] at h;rw[PK,n10 (aq4 h.1),Bool.false_or];exact akB h.2
def aq5{s:aA}(h:EY s=true):hasB 10 s=false:=by unfold EY MK at h;rw[zq,zq] at h;exact akB h.1.1
def adE(s:aA):∀(l:List (aA)) (i:Int),GY s l i>=0->s∈l
 |[],i,h=>by rw[GY] at h;omega
 |x::l,i,h=>by
  rw[GY] at h;split at h
  ·next hx=>rw[beq_iff_eq] at hx;rw[hx];exact zmf
  ·exact zmm _ (adE s l (i+1) h)
def aq6:∀g,g∈aeI->hasB 10 g=false:=by decide+kernel
def aq7:∀g,g∈QO->hasB 10 g=false:=by decide+kernel
def aq8:∀g,g∈OI->hasB 10 g=false:=by decide+kernel
def awd{s:aA}(h:Ui s=true):hasB 10 s=false:=by unfold Ui at h;rw[decide_eq_true_eq] at h;exact aq6 _ (adE s _ _ h)
def akC(l:List (aA))(h:∀g,g∈l->hasB 10 g=false)(i:Nat):hasB 10 (l[i]?.getD [])=false:=by
 cases hx:l[i]? with
 |none=>rfl
 |some g=>exact h g (Gy hx)
def ao4{k:Int}(hk:k≠1):hasB 10 (spell k)=false:=by
 unfold spell;rw[if_neg hk];split
 ·exact akC _ aq7 _
 ·split
  ·exact akC _ aq8 _
  ·rfl
def ahX{k op:Int}{t o:aA}{kids:au}(h:M.aB k op t o kids=some true)(hk:1<=k∧k<=16):M.dD k op t o kids=some true∧M.bI k op t o kids=some true:=by
 have e1:(decide (k>=1) && decide (k<=16))=true:=by rw[zq,decide_eq_true_eq,decide_eq_true_eq];exact hk
 simp only[M.aB,M.aO,dU,e1,ah,aT] at h;cases hm:M.bK k op t o kids with
 |none=>rw[hm] at h;cases h
 |some r=>
  rw[hm,ah] at h;cases ho:M.dD k op t o kids with
  |none=>rw[ho] at h;cases h
  |some b=>
   rw[ho,ah] at h;cases b with
   |false=>cases h
   |true=>
    rw[aT] at h;cases hx:M.bI k op t o kids with
    |none=>rw[hx] at h;cases h
    |some c=>
     rw[hx,ah] at h;cases c with
     |false=>cases h
     |true=>exact⟨rfl,rfl⟩
def aFx{k op:Int}{t o:aA}{kids:au}(h:M.aB k op t o kids=some true)(hk:1<=k∧k<=15):op≠1:=by
 have h:=(ahX h (by omega)).1;rintro rfl;have hk:k=1∨k=2∨k=3∨k=4∨k=5∨k=6∨k=7∨k=8∨k=9∨k=10∨k=11∨k=12∨k=13∨k=14∨k=15:=by omega
 have e12:=(uV 1).1;have e15:=(lH 1).1;have n12:YX 1=false:=by decide
 have n15:YZ 1=false:=by decide
 rw[n12] at e12;rw[n15] at e15;rcases hk with rfl|rfl|rfl|rfl|rfl|rfl|rfl|rfl|rfl|rfl|rfl|rfl|rfl|rfl|rfl
 all_goals first
  |(have h':some ((1:Int)==0)=some true:=h;cases h';done)
  |(have h':some ((1:Int)==52)=some true:=h;cases h';done)
  |(have h':some ((1:Int)==61)=some true:=h;cases h';done)
  |(have h':((M.sS 1).bind λr=>some r)=some true:=h;rw[e12] at h';cases h';done)
  |(have h':((M.mY 1).bind λr=>some r)=some true:=h;rw[e15] at h';cases h';done)
def ahY{x:Option Bool}{c:Bool}{y:Bool}(hx:x=some y)(h:(x.bind λr=>bif r then some c else some false)=some true):y=true:=by
 rw[hx,ah] at h;cases y with
 |true=>rfl
 |false=>cases h
def awe{k op:Int}{t o:aA}{kids:au}(h:M.aB k op t o kids=some true)(hk:1<=k∧k<=15)(ht:t.length<=1048576):hasB 10 t=false:=by
 have h:=(ahX h (by omega)).2;have hn:=(Tj t ht).1;have h3:=(Qs 3 t 0 ht (by unfold I64;omega)).1;have h4:=(Qs 4 t 0 ht (by unfold I64;omega)).1;have h5:=(Qs 5 t 0 ht (by unfold I64;omega)).1;have hb:=(Me t).1;have hk:(k=1∨k=5∨k=7∨k=13)∨k=2∨k=3∨k=4∨k=8∨(k=6∨k=9∨k=10∨k=11∨k=12∨k=14∨k=15):=by omega
 rcases hk with hk|rfl|rfl|rfl|rfl|hk
 ·rcases hk with rfl|rfl|rfl|rfl<;>exact aq5 (ahY hn h)
 ·have h':=ahY h3 h;unfold KD at h';cases hs:t==[] with
  |true=>rw[hs] at h';cases h'
  |false=>rw[hs] at h';have h2:(RU t 0==(t.length:Int))=true:=h';exact awc ht (beq_iff_eq.1 h2)
 ·have h':=ahY h4 h;unfold KD at h';cases hs:t==[] with
  |true=>rw[hs] at h';cases h'
  |false=>rw[hs] at h';have h2:(quoted t 0 34==(t.length:Int))=true:=h';exact adD (by omega) (beq_iff_eq.1 h2)
 ·have h':=ahY h5 h;unfold KD at h';cases hs:t==[] with
  |true=>rw[hs] at h';cases h'
  |false=>
   rw[hs] at h';have h2:(Vh t 0==(t.length:Int))=true:=h';have h2:=beq_iff_eq.1 h2;unfold Vh at h2;cases hq:quoted t 0 47==0+2 with
   |true=>rw[hq,aT] at h2;omega
   |false=>rw[hq,cu] at h2;exact adD (by omega) h2
 ·exact awd (ahY hb h)
 ·have:(bif t==[] then some (o==[]) else some false)=some true:=by rcases hk with rfl|rfl|rfl|rfl|rfl|rfl|rfl<;>exact h
  cases hs:t==[] with
  |true=>rw[beq_iff_eq] at hs;rw[hs];rfl
  |false=>rw[hs] at this;cases this
mutual
def pln:Tn->Prop
 | .mk k op x _ ks=>((1<=k∧k<=15)->hasB 10 x=false∧op≠1)∧ao5 ks
def ao5:List Tn->Prop
 |[]=>True
 |t::ts=>pln t∧ao5 ts
end
def Sr:∀{ks:List Tn},ao5 ks↔∀t,t∈ks->pln t
 |[]=>by rw[ao5];simp
 |t::ts=>by rw[ao5,Sr];simp
def ao6{l:List Nd}(hall:OM (np l) l 0=true)(hsm:∀n,n∈l->Small n)(hkl:∀n,n∈l->n.kids.length<=400)(t:Tn):∀b,Lies l b t->pln t:=by refine Tn.ind (P:=λt=>∀b,Lies l b t->pln t) ?_ t;intro k op x y ks ih b h;have hr:=h.root;have hm:=Gy hr;have hn:=WS hall hr;unfold np at hn;rw[zq] at hn;have hf:=(abC (hsm _ hm) (hkl _ hm)).1;rw[hn.1] at hf;rw[pln];refine⟨λhk=>⟨awe hf hk (hsm _ hm).1,aFx hf hk⟩,Sr.2 λu hu=> ?_⟩;obtain⟨i,hi,hx⟩:=List.mem_iff_getElem.1 hu;exact ih u hu _ (Lies.OO h (G9.2 ⟨hi,hx⟩))
def ahZ{t:Tn}(h:Jy (t.flat 0)=true)(hsm:∀n,n∈t.flat 0->Small n):pln t:=by unfold Jy at h;rw[zq,zq] at h;obtain⟨r,hv⟩:=abx h.1;exact ao6 h.2.2 hsm hv.WQ t 0 (Lies.whole t)
def ao7(s:aA):VB (rO s)= !(hasB 10 s):=by simp[rO,VB,BJ,abO]
def ao8:VB NK=true:=rfl
def ah0(d:Tn):VB (PI d)=VB d:=by simp[PI,VB,BJ,abO]
def akD(d:Tn):VB (acI d)=VB d:=by simp[acI,VB,BJ,abO]
def ZV(l:List Tn):VB (qL l)=BJ l:=by simp[qL,VB,abO]
def ah1:∀a b:List Tn,BJ (a++b)=(BJ a && BJ b)
 |[],b=>by rw[List.nil_append,BJ,Bool.true_and]
 |x::a,b=>by rw[Uo,BJ,BJ,ah1 a b,Bool.and_assoc]
def ah2:∀(L:List Tn) (b:Bool),BJ L=true->BJ (Ja b L)=true
 |[],b,_=>by rw[Ja];rfl
 |x::l,b,h=>by
  rw[BJ,zq] at h;rw[Ja,ah1,ah2 l false h.2,Bool.and_true];cases b with
  |true=>rw[aT,BJ,h.1];rfl
  |false=>rw[cu,BJ,BJ,BJ,h.1];rfl
def alV{L:List Tn}(h:BJ L=true):VB (LG L)=true:=by rw[LG,akD,ah0,ZV];exact ah2 L true h
def WT:∀{L:List Tn} (j:Nat),BJ L=true->VB (uo L j)=true
 |[],j,_=>by simp[uo,ao7,hasB]
 |x::l,0,h=>by rw[BJ,zq] at h;exact h.1
 |x::l,j+1,h=>by rw[BJ,zq] at h;have:=WT (L:=l) j h.2;simp only[uo,List.getElem?_cons_succ] at this⊢;exact this
def C9{a b:Tn}(c:Bool)(ha:VB a=true)(hb:VB b=true):VB (bif c then a else b)=true:=by cases c<;>assumption
def ao9(k op:Int)(n:Nat){x:aA}(g:Bool){L:List Tn}(hx:hasB 10 x=false)(hop:op≠1)(h:BJ L=true):VB (NU k op n x g L)=true:=by
 have h1:=alV h;have h0:=WT 0 h;have ha:=WT 1 h;have hb:=WT 2 h;have hs:=ao4 hop;have e1:hasB 10 [91]=false:=rfl;have e2:hasB 10 [40]=false:=rfl;have e3:hasB 10 [32]=false:=rfl;have e4:hasB 10 [41,32,105,110,32]=false:=rfl;have e5:hasB 10 [32,105,110,32]=false:=rfl;have e6:hasB 10 [93]=false:=rfl;have e7:hasB 10 [41]=false:=rfl;have e8:hasB 10 [36]=false:=rfl;have e9:hasB 10 [32,63,32]=false:=rfl;have e10:hasB 10 [32,58,32]=false:=rfl;have e11:((32:UInt8)==10)=false:=rfl;have hg:hasB 10 (bif g then spell op++[32] else spell op)=false:=by cases g<;>simp only[aT,cu,ahW,hs,e3,Bool.or_false]
 unfold NU;refine C9 _ ?_ (C9 _ ?_ (C9 _ ?_ (C9 _ ?_ (C9 _ ?_ (C9 _ ?_ (C9 _ ?_ (C9 _ ?_ (C9 _ (C9 _ ?_ ?_) (C9 _ ?_ (C9 _ ?_ ?_))))))))))
 all_goals simp only[ao7,ZV,akD,ah0,ao8,BJ,ahW,PK,h1,h0,ha,hb,hx,hs,hg,e1,e2,e3,e4,e5,e6,e7,e8,e9,e10,e11,Bool.or_false,Bool.not_false,Bool.and_true,Bool.and_self]
def adF(k op:Int)(n:Nat)(p:Ps):∀(ts:List Tn) (j:Nat),(∀u,u∈ts->∀q,VB (kY u q)=true)->BJ (kS k op n p ts j)=true
 |[],j,_=>by rw[kS];rfl
 |t::ts,j,h=>by rw[kS,BJ,adF k op n p ts (j+1) λu hu=>h u (zmm _ hu),Bool.and_true];refine C9 _ (h t zmf _) ?_;rw[ZV,BJ,BJ,BJ,h t zmf];rfl
def adG(t:Tn):Az t->Qw t->pln t->∀q,VB (kY t q)=true:=by refine Tn.ind (P:=λt=>Az t->Qw t->pln t->∀q,VB (kY t q)=true) ?_ t;intro k op x y ks ih hok he hp q;rw[pln] at hp;have h1:=hp.1 he;rw[kY];refine ao9 _ _ _ _ h1.1 h1.2 (adF _ _ _ _ _ _ λu hu=> ?_);obtain⟨i,hi,hx⟩:=List.mem_iff_getElem.1 hu;have hk:=Sj hok he (G9.2 ⟨hi,hx⟩);exact ih u hu hk.2 hk.1 (Sr.1 hp.2 u hu)
def alW{t:Tn}(h:Az t)(he:Qw t)(hp:pln t)(q:Ps):VB (CZ t q)=true:=by refine C9 _ (adG t h he hp _) ?_;rw[ZV,BJ,BJ,BJ,adG t h he hp _];rfl
def apa{k op:Int}(h:1<=lvl k op):fits k op .top=true:=by unfold fits;rw[show jX Ps.top=true from rfl,OV.2 (show lvl k op≠0 by omega)];simp only[Ps.top,Bool.not_true,Bool.or_false,cu,Bool.false_and,Bool.false_or];exact zdt h
def aFy{k op:Int}{n:Nat}{p:Ps}:∀{ts:List Tn} {i:Nat},(∀j u,ts[j]? =some u->(DV k op n p (i+j) u).size<=10 * u.size)->sizes (kS k op n p ts i)<=10 * sizes ts
 |[],i,_=>by rw[kS];simp[sizes]
 |t::ts,i,h=>by
  have h1:=h 0 t rfl;have h2:=aFy (k:=k) (op:=op) (n:=n) (p:=p) (ts:=ts) (i:=i+1) λj u hu=>by
   have:=h (j+1) u (by rw[List.getElem?_cons_succ];exact hu)
   rwa [show i+(j+1)=i+1+j by omega] at this
  unfold DV at h1;simp only[Nat.add_zero] at h1;rw[kS,sizes,sizes];omega
def asj{k op:Int}{n:Nat}{p:Ps}:∀{ts:List Tn} {i:Nat},(∀j u,ts[j]? =some u->(DV k op n p (i+j) u).size+3<=10 * u.size)->sizes (kS k op n p ts i)+3 * ts.length<=10 * sizes ts
 |[],i,_=>by rw[kS];simp[sizes]
 |t::ts,i,h=>by
  have h1:=h 0 t rfl;have h2:=asj (k:=k) (op:=op) (n:=n) (p:=p) (ts:=ts) (i:=i+1) λj u hu=>by
   have:=h (j+1) u (by rw[List.getElem?_cons_succ];exact hu)
   rwa [show i+(j+1)=i+1+j by omega] at this
  unfold DV at h1;simp only[Nat.add_zero] at h1;rw[kS,sizes,sizes,ng];omega
def alX{k op:Int}{n:Nat}{x:aA}{g:Bool}{L:List Tn}(h:k=5∨k=7∨k=8∨(k=13∧Nat.blt 1 n=true)):(NU k op n x g L).size=(LG L).size+3:=by
 rcases h with rfl|rfl|rfl|⟨rfl,h⟩
 ·show(qL [rO (x++[91]),LG L,rO [93]]).size=_;simp only[nO,iD,sizes];omega
 ·show(qL [rO (x++[40]),LG L,rO [41]]).size=_;simp only[nO,iD,sizes];omega
 ·show(qL [rO (x++[40]),LG L,rO [41]]).size=_;simp only[nO,iD,sizes];omega
 ·show(bif Nat.blt 1 n then qL [rO [40],LG L,rO ([41,32,105,110,32]++x)] else qL [uo L 0,rO ([32,105,110,32]++x)]).size=_;rw[h,aT];simp only[nO,iD,sizes];omega
def size_pos(t:Tn):1<=t.size:=by cases t;rw[Tn.size];omega
def alY{k op:Int}{n:Nat}{x:aA}{g:Bool}{L:List Tn}(h:¬(k=5∨k=7∨k=8∨(k=13∧Nat.blt 1 n=true))):(NU k op n x g L).size<=sizes L+7:=by
 have h2:=XY L 0;have h3:=abM L;have p2:=size_pos (uo L 2);have e5:(k==5)=false:=OV.2 (by omega);have e7:(k==7)=false:=OV.2 (by omega);have e8:(k==8)=false:=OV.2 (by omega);unfold NU;rw[e5,e7,e8];simp only[Bool.or_false,cu];cases e13:k==13 with
 |false=>
  simp only[cu];refine jk _ ?_ (jk _ ?_ (jk _ ?_ (jk _ ?_ (jk _ ?_ (jk _ ?_ (jk _ ?_ (jk _ ?_ ?_)))))))
  all_goals(simp only[iD,nO,ZT,NP,NM,sizes]<;>omega)
 |true=>
  have hn:Nat.blt 1 n=false:=by
   cases hb:Nat.blt 1 n with
   |false=>rfl
   |true=>exact absurd (.inr (.inr (.inr ⟨beq_iff_eq.1 e13,hb⟩))) h
  rw[hn];simp only[aT,cu];refine jk _ ?_ (jk _ ?_ (jk _ ?_ (jk _ ?_ (jk _ ?_ (jk _ ?_ ?_)))))
  all_goals(simp only[iD,nO,ZT,NP,NM,sizes]<;>omega)
def aeU(t:Tn):Az t->Qw t->∀q,jX q=true->(kY t q).size+3<=10 * t.size:=by
 refine Tn.ind (P:=λt=>Az t->Qw t->∀q,jX q=true->(kY t q).size+3<=10 * t.size) ?_ t;intro k op x y ks ih hok he q hq;have hl0:lvl k op≠0:=by have:=(KE (k:=k) (op:=op) he (I4 hok)).1;omega
 have aFz:∀j u,ks[j]? =some u->(Qw u∧Az u)∧jX (bZ k op ks.length j q)=true∧u∈ks:=by intro j u hu;exact⟨Sj hok he hu,qo hq (G9.1 hu).1 hl0,Gy hu⟩
 rw[kY,Tn.size]
 by_cases hl:k=5∨k=7∨k=8∨(k=13∧Nat.blt 1 ks.length=true)
 ·have h1:=asj (k:=k) (op:=op) (n:=ks.length) (p:=q) (ts:=ks) (i:=0) λj u hu=>by
   obtain⟨⟨h1,h2⟩,h3,h4⟩:=aFz j u hu;rw[Nat.zero_add];have hpos:bZ k op ks.length j q=.top:=by
    have hb:Nat.blt j ks.length=true:=by rw[Nat.blt_eq];exact(G9.1 hu).1
    unfold bZ;rw[hq,hb,OV.2 hl0];have:(lvl k op==15||(k==13 && Nat.blt 1 ks.length))=true:=by
     rcases hl with rfl|rfl|rfl|⟨rfl,hb⟩
     ·rfl
     ·rfl
     ·rfl
     ·rw[hb];rfl
    rw[this];rfl
   unfold DV;have hlu:1<=lvl u.kind u.op:=by cases u;exact(KE h1 (I4 h2)).1
   rw[hpos,apa hlu,Bool.or_true,aT];exact ih u h4 h2 h1 .top rfl
  have h2:=Vl (kS k op ks.length q ks 0);rw[Qx] at h2;rw[alX hl];omega
 ·have h1:=aFy (k:=k) (op:=op) (n:=ks.length) (p:=q) (ts:=ks) (i:=0) λj u hu=>by obtain⟨⟨h1,h2⟩,h3,h4⟩:=aFz j u hu;rw[Nat.zero_add];unfold DV;have a1:=ih u h4 h2 h1 _ h3;have a2:=ih u h4 h2 h1 .top rfl;exact jk _ (by omega) (by rw[Qy];omega)
  have h2:=alY (op:=op) (x:=x) (g:=abJ op (gW k op ks.length q ks 0)) (L:=kS k op ks.length q ks 0) hl;omega
def ah3{t:Tn}(h:Az t)(he:Qw t):(Gu t).size<=10 * t.size:=by have h1:=aeU t h he .top rfl;unfold Gu CZ;exact jk _ (by omega) (by rw[Qy];omega)
noncomputable def mkNode(k:Int)(n:Nd):Nd:=⟨k,k+1,mk (k+2),mk (k+3),NI (k+4) n.kids.length⟩
def wK:List Nd->Nat
 |[]=>0
 |n::l=>4+n.kids.length+wK l
def X5:∀a b:List Nd,wK (a++b)=wK a+wK b
 |[],b=>by simp[wK]
 |n::a,b=>by rw[Uo,wK,wK,X5 a b];omega
noncomputable def vF(k:Int):List Nd->List Nd
 |[]=>[]
 |n::l=>mkNode k n::vF (k+4+n.kids.length) l
def Sv(k:Int)(l:List Nd):(vF k l).length=l.length:=by
 induction l generalizing k with
 |nil=>rfl
 |cons n l ih=>rw[vF,ng,ih,ng]
def abP(k:Int)(a b:List Nd):vF k (a++b)=vF k a++vF (k+wK a) b:=by
 induction a generalizing k with
 |nil=>simp[vF,wK]
 |cons n a ih=>
  have e:k+4+(n.kids.length:Int)+(wK a:Int)=k+(wK (n::a):Int):=by rw[wK];omega
  rw[Uo,vF,vF,ih,e,Uo]
def ajy{l:List Nd}{i:Nat}{n:Nd}(h:l[i]? =some n):wK (l.take i)+4+n.kids.length<=wK l:=by
 obtain⟨hi,rfl⟩:=G9.1 h;have e:l=l.take i++l[i]::l.drop (i+1):=by rw[<-List.drop_eq_getElem_cons hi,List.take_append_drop]
 have:=congrArg wK e;rw[X5,wK] at this;omega
def apb:∀l:List Nd,l.length<=wK l
 |[]=>Nat.le_refl _
 |n::l=>by have:=apb l;rw[wK,ng];omega
def aq9{l:List Nd}{i:Nat}{n:Nd}(h:l[i]? =some n):wK (l.take (i+1))=wK (l.take i)+(4+n.kids.length):=by rw[List.take_add_one,h,X5];rfl
def aeV(k:Int)(l:List Nd)(h0:0<=k)(h1:k+wK l<=900000000):M.rC k (aQ true l)=some (k+wK l,aQ true (vF k l)):=by
 simp only[M.rC,M.EO];have hwl:=apb l;have hloop:=fF (b:=M.yG) (t:=(k+wK l,(l.length:Int),aQ true (vF k l))) (λi=>(k+wK (l.take i),(i:Int),aQ true (vF k (l.take i))++aQ true (l.drop i))) l.length
  (by
   intro i hi;obtain⟨n,hn⟩:∃n,l[i]? =some n:=⟨l[i],by simp[hi]⟩
   have hd:l.drop i=n::l.drop (i+1):=by rw[List.drop_eq_getElem_cons hi];rw[List.getElem?_eq_getElem hi] at hn;rw[Option.some.inj hn]
   have hla:(aQ true (vF k (l.take i))).length=i:=by rw[dn,Sv,PW];omega
   have hw:=ajy hn;generalize hK:k+(wK (l.take i):Int)=K;have w1:i64.wrap (K+1)=K+1:=aC (by omega) (by omega);have w2:i64.wrap (K+1+1)=K+2:=(aC (by omega) (by omega)).trans (by omega);have w3:i64.wrap (K+2+1)=K+3:=(aC (by omega) (by omega)).trans (by omega);have w4:i64.wrap (K+3+1)=K+4:=(aC (by omega) (by omega)).trans (by omega);have hm:=ahQ (K+4) n.kids (by omega) (by omega) (by omega);have hlen:decide ((i:Int)<((aQ true (vF k (l.take i))++KN true n::aQ true (l.drop (i+1))).length:Int))=true:=zdt (by rw[qO,hla,ng];omega);have he:aQ true (n::l.drop (i+1))=KN true n::aQ true (l.drop (i+1)):=rfl;have s0:splice (KN true n) 0 [D.int .i64 K]=[.int .i64 K,.int .i64 n.op,.str n.text,.str n.other,.sl true 1 (encI n.kids)]:=rfl;have s1:splice [D.int .i64 K,.int .i64 n.op,.str n.text,.str n.other,.sl true 1 (encI n.kids)] 1 [D.int .i64 (K+1)]=[.int .i64 K,.int .i64 (K+1),.str n.text,.str n.other,.sl true 1 (encI n.kids)]:=rfl;have s2:splice [D.int .i64 K,.int .i64 (K+1),.str n.text,.str n.other,.sl true 1 (encI n.kids)] 2 [D.str (mk (K+2))]=[.int .i64 K,.int .i64 (K+1),.str (mk (K+2)),.str n.other,.sl true 1 (encI n.kids)]:=rfl;have s3:splice [D.int .i64 K,.int .i64 (K+1),.str (mk (K+2)),.str n.other,.sl true 1 (encI n.kids)] 3 [D.str (mk (K+3))]=[.int .i64 K,.int .i64 (K+1),.str (mk (K+2)),.str (mk (K+3)),.sl true 1 (encI n.kids)]:=rfl;have s4:∀r,splice [D.int .i64 K,.int .i64 (K+1),.str (mk (K+2)),.str (mk (K+3)),.sl true 1 (encI n.kids)] 4 [D.sl true 1 r]=[.int .i64 K,.int .i64 (K+1),.str (mk (K+2)),.str (mk (K+3)),.sl true 1 r]:=λ_=>rfl
   have c4:aiE 1 [D.int .i64 K,.int .i64 (K+1),.str (mk (K+2)),.str (mk (K+3)),.sl true 1 (encI n.kids)] 4=some (encI n.kids):=rfl;have hb:(Nat.beq 1 1 &&(true==true &&(true && true)))=true:=rfl;simp only[hd,M.yG,M.sQ,hlen,aT,he,avN _ _ _ hla,QS,avO _ _ _ hla,at_set _ _ _ _ hla,ah,s0,s1,s2,s3,s4,c4,w1,w2,w3,w4,Ou (K+2) (by omega),Ou (K+3) (by omega),Bh,alS,hm,hb];rw[aC (by omega) (by omega),aq9 hn,List.take_add_one,hn,Option.toList_some,abP,MC];have e2:vF (k+(wK (l.take i):Int)) [n]=[mkNode K n]:=by rw[hK];rfl
   have e3:aQ true [mkNode K n]=[[D.int .i64 K,.int .i64 (K+1),.str (mk (K+2)),.str (mk (K+3)),.sl true 1 (encI (NI (K+4) n.kids.length))]]:=rfl;rw[e2,e3,Bf];congr 3;omega)
  (by simp only[M.yG,M.sQ,List.take_length,List.drop_length];have hlen:decide ((l.length:Int)<((aQ true (vF k l)++aQ true []).length:Int))=false:=qN (by rw[qO,dn,Sv];simp[aQ]);rw[hlen,cu];simp[aQ]) 0 (Nat.zero_le _)
 have e0:aQ true (vF k (l.take 0))++aQ true (l.drop 0)=aQ true l:=by simp[vF,aQ]
 have e1:k+(wK (l.take 0):Int)=k:=by simp[wK]
 rw[e0,e1,rG] at hloop;rw[M.CX,hloop,ah]
def abQ:∀l:List Nd,uy (aQ true l)=true
 |[]=>rfl
 |n::l=>by have:aQ true (n::l)=KN true n::aQ true l:=rfl;rw[this,uy,abQ l];simp[KN,eY,D.pure]
def alZ(l:List Nd):[[D.sl true 5 (aQ true l)]].all eY=true:=by simp[eY,D.pure,abQ]
structure Ok(l:List Nd):Prop where
 len:l.length<=1048576
 kids:∀n,n∈l->n.kids.length<=1048576∧∀e,e∈n.kids->I64 e
 sm:∀n,n∈l->Small n
 w:wK l<=10000000
def Ok.k{l:List Nd}(h:Ok l):∀n,n∈l->n.kids.length<=1048576:=λn hn=>by have:=(h.kids n hn).1;omega
def aeW{l:List Nd}(h:Jy l=true):Dt l=true:=by unfold Jy at h;rw[zq] at h;exact h.1
def aFA{l:List Nd}(hs:(l.length+wNs l:Int)<=1048576)(hf:∀n,n∈l->Fit n)(hl:l.length<=1048576)(hk:∀n,n∈l->n.kids.length<=1048576):Ok l:=by
 have hw:∀l:List Nd,wK l<=4 * l.length+wNs l:=by
  intro l;induction l with
  |nil=>exact Nat.le_refl _
  |cons n l ih=>rw[wK,wNs,wN,ng];omega
 have:=hw l;exact⟨hl,λn hn=>⟨hk n hn,(hf n hn).kid⟩,λn hn=>by have h1:=akx hn;have h2:wN n=n.text.length+n.other.length+n.kids.length:=rfl;exact⟨by omega,by omega⟩,by omega⟩
def ZB(o:Bool)(n:Nd):Row:=[.int .i64 n.kind,.int .i64 n.op,.str n.text,.sl o 1 (encI n.kids)]
def jC(o:Bool)(l:List Nd):au:=l.map (ZB o)
section
variable (o:Bool) (n:Nd) (l:List Nd) (i:Int)
@[simp] theorem kH:(jC o l).length=l.length:=by simp[jC]
@[simp] theorem awC:idx (jC o l) i=(idx l i).map (ZB o):=ZQ _ _ _
@[simp] theorem BA(j:Nat):(jC o l)[j]? =(l[j]?).map (ZB o):=by simp[jC]
@[simp] theorem cD0:fQ .i64 (ZB o n) 0=some n.kind:=rfl
@[simp] theorem cD1:fQ .i64 (ZB o n) 1=some n.op:=rfl
@[simp] theorem cD2:cStr (ZB o n) 2=some n.text:=rfl
@[simp] theorem cD3:SK 1 (ZB o n) 3=some (encI n.kids):=rfl
@[simp] theorem apc:bJ (jC o l)=jC false l:=by
 induction l with
 |nil=>rfl
 |cons x l ih=>simp only[jC,TN,bJ] at ih⊢;rw[ih];simp[ZB,uw,D.fz,aki]
end
def QC(o:Bool)(a b:List Nd):jC o (a++b)=jC o a++jC o b:=by simp[jC]
def abR:∀l:List Nd,uy (jC true l)=true
 |[]=>rfl
 |n::l=>by have:jC true (n::l)=ZB true n::jC true l:=rfl;rw[this,uy,abR l];simp[ZB,eY,D.pure]
def al0(l:List Nd):[[D.sl true 4 (jC true l)]].all eY=true:=by simp[eY,D.pure,abR]
def len_eq(n c:Nat):((n:Int)==(c:Int))=Nat.beq n c:=by rw[Bool.eq_iff_iff,beq_iff_eq,Nat.beq_eq];omega
def aFB(n:Nat):((n:Int)==0)=Nat.beq n 0:=len_eq n 0
def aFC(n:Nat):((n:Int)==1)=Nat.beq n 1:=len_eq n 1
def ah4{P:Int->Prop}(h1:P 1)(h2:P 2)(h3:P 3)(h4:P 4)(h5:P 5)(h6:P 6)(h:∀k,k≠1->k≠2->k≠3->k≠4->k≠5->k≠6->P k)(k:Int):P k:=by
 by_cases e1:k=1
 ·rwa [e1]
 by_cases e2:k=2
 ·rwa [e2]
 by_cases e3:k=3
 ·rwa [e3]
 by_cases e4:k=4
 ·rwa [e4]
 by_cases e5:k=5
 ·rwa [e5]
 by_cases e6:k=6
 ·rwa [e6]
 exact h k e1 e2 e3 e4 e5 e6
def ZC(k n:Int)(x:aA)(rows:au)(hx:x.length<=1000000000):M.wB k n x rows=some (abO k n x rows.length):=by
 simp only[M.wB,M.Iq,ahF x hx,ah,Qu,abO,aFB,aFC];generalize hasB 10 x=hb;generalize (x==[])=xe;generalize Nat.beq rows.length 0=c0;generalize Nat.beq rows.length 1=c1;generalize (decide (0<=n) && decide (n<=40))=r
 by_cases hn:n=0
 ·subst hn;revert k;refine ah4 ?_ ?_ ?_ ?_ ?_ ?_ (λk e1 e2 e3 e4 e5 e6=> ?_)
  case refine_7=>rw[<-bne_iff_ne] at e1 e4;simp only[OV.2 e2,OV.2 e3,OV.2 e5,OV.2 e6,e1,e4,OV.2 (bne_iff_ne.1 e1),OV.2 (bne_iff_ne.1 e4)];cases xe<;>rfl
  all_goals cases xe<;>cases hb<;>cases r<;>rfl
 ·have hn':(n==0)=false:=OV.2 hn;have hn2:(n !=0)=true:=bne_iff_ne.2 hn;revert k;refine ah4 ?_ ?_ ?_ ?_ ?_ ?_ (λk e1 e2 e3 e4 e5 e6=> ?_)
  case refine_7=>rw[<-bne_iff_ne] at e1 e4;simp only[hn',hn2,OV.2 e2,OV.2 e3,OV.2 e5,OV.2 e6,e1,e4,OV.2 (bne_iff_ne.1 e1),OV.2 (bne_iff_ne.1 e4)];cases xe<;>rfl
  all_goals simp only[hn',hn2];cases xe<;>cases hb<;>cases r<;>rfl
def Sz(l:List Nd)(o:Bool){i:Nat}{n:Nd}{st:List Int}(hi:l[i]? =some n)(hl:l.length<=90000000)(hst:TA st)(hs:st.length=i):
  ∀(j:Nat) (a:Int),j<=n.kids.length->n.kids.length<=90000000->0<=a->a<=i->M.oH (jC o l) (i:Int) (encI st) (a,(j:Int) - 1)=some (match dH st (n.kids.take j).reverse (a - 1) with
   |none=> .inl ()
   |some r=> .inr (r+1, -1))
 |0,a,hj,hk,h0,h1=>by rw[M.oH];apply dP;simp only[M.yA,M.sG];rw[qN (by omega),cu,List.take_zero,List.reverse_nil,dH];simp
 |j+1,a,hj,hkl,h0,h1=>by
  have hlt:i<l.length:=(G9.1 hi).1;obtain⟨k,hk⟩:∃k,n.kids[j]? =some k:=⟨n.kids[j]'(by omega),by simp⟩
  have ht:(n.kids.take (j+1)).reverse=k::(n.kids.take j).reverse:=by rw[List.take_add_one,hk,Option.toList_some,List.reverse_append];rfl
  rw[ht,dH];have e1:(((j+1:Nat):Int) - 1)=(j:Int):=by omega
  rw[e1];have hstep:M.yA (jC o l) (i:Int) (encI st) (a,(j:Int))=if a - 1<0∨k≠a - 1 then some (.inr (.inl ())) else some (.inl (st[k.toNat]?.getD 0,(j:Int) - 1)):=by
   simp only[M.yA,M.sG,bU,BA,hi,He,ah,cD3,kU,hk,MI];rw[zdt (by omega),aT,aC (n:=a - 1) (by omega) (by omega)]
   by_cases h2:k=a - 1
   ·have:(k !=a - 1)=false:=by simp[h2]
    rw[this,cu]
    by_cases h3:a=0
    ·have:(a==0)=true:=by simp[h3]
     rw[this,aT,if_pos (.inl (by omega))]
    ·have:(a==0)=false:=by simp[h3]
     rw[this,cu,if_neg (by omega)];obtain⟨d,hd⟩:∃d:Nat,a - 1=(d:Int):=⟨(a - 1).toNat,by omega⟩
     have hdl:d<st.length:=by omega
     rw[h2,hd];simp only[aaW,bU,kU,QS];rw[List.getElem?_eq_getElem hdl];simp only[He,ah,MI,Option.getD_some];rw[aC (by omega) (by omega)]
   ·have:(k !=a - 1)=true:=by simp[h2]
    rw[this,aT,if_pos (.inr h2)]
  by_cases hc:a - 1<0∨k≠a - 1
  ·rw[if_pos hc];rw[if_pos hc] at hstep;exact dP hstep
  ·rw[if_neg hc];rw[if_neg hc] at hstep;rw[M.oH,gQ hstep];have hz:=Nh hst k.toNat;have:=Sz l o hi hl hst hs j (st[k.toNat]?.getD 0) (by omega) hkl hz.1 (by omega);rw[M.oH] at this;exact this
def QL(l:List Nd)(o:Bool)(hl:l.length<=90000000)(hk:∀n,n∈l->n.kids.length<=90000000):∀(rest:List Nd) (i:Nat) (st:List Int),l.drop i=rest->st.length=i->i<=l.length->TA st->
  M.oI (jC o l) ((i:Int),encI st)=some (match dR st (ks rest) with
   |none=> .inl ()
   |some r=> .inr ((l.length:Int),encI r))
 |[],i,st,hd,hs,hi,hst=>by
  have:l.length<=i:=List.drop_eq_nil_iff.1 hd;rw[M.oI];apply dP;simp only[lK,M.yB,M.sH,kH];rw[qN (by omega),cu];have:i=l.length:=by omega
  subst this;rfl
 |n::rest,i,st,hd,hs,hi,hst=>by
  have hn:l[i]? =some n:=by
   have:(l.drop i)[0]? =some n:=by rw[hd];rfl
   simpa using this
  have hlt:i<l.length:=(G9.1 hn).1;have hd':l.drop (i+1)=rest:=by rw[<-List.drop_drop,hd];rfl
  have hkn:=hk n (Gy hn);have hin:=Sz l o hn hl hst hs n.kids.length (i:Int) (Nat.le_refl _) hkn (by omega) (by omega);rw[List.take_length] at hin;have hks:ks (n::rest)=n.kids::ks rest:=rfl;rw[hks,dR,hs];have hstep:M.yB (jC o l) ((i:Int),encI st)=some (match dH st n.kids.reverse ((i:Int) - 1) with
    |none=> .inr (.inl ())
    |some a=> .inl (((i+1:Nat):Int),encI (st++[a+1]))):=by
   simp only[lK,M.yB,M.sH,kH,bU,BA,hn,He,ah,cD3,aU];rw[zdt (by omega),aT,aC (n:=(n.kids.length:Int) - 1) (by omega) (by omega),hin];cases hw:dH st n.kids.reverse ((i:Int) - 1) with
   |none=>rfl
   |some a=>simp only[ah,qR,letE,LJ];rw[bn (by omega),aT,bn (by omega),aT,aC (by omega) (by omega)];simp[encI]
  cases hw:dH st n.kids.reverse ((i:Int) - 1) with
  |none=>rw[hw] at hstep;exact dP hstep
  |some a=>rw[hw] at hstep;rw[M.oI,gQ hstep];have hr:=Du hst _ _ _ (by omega) (by omega) hw;have:=QL l o hl hk rest (i+1) (st++[a+1]) hd' (by simp[hs]) hlt (Pz hst hr.1 hr.2);rw[M.oI] at this;exact this
mutual
def txs:Tn->Nat
 | .mk _ _ x _ ks=>x.length+abS ks
def abS:List Tn->Nat
 |[]=>0
 |t::ts=>txs t+abS ts
end
def ah5:∀{ks:List Tn} {t:Tn},t∈ks->txs t<=abS ks
 |[],_,h=>by cases h
 |u::us,t,h=>by
  rw[abS];rcases List.mem_cons.1 h with rfl|h
  ·omega
  ·have:=ah5 h;omega
mutual
def ajz(X:Nat):∀(t:Tn) (b:Nat),(∀n,n∈t.flat b->n.text.length<=X)->txs t<=X * t.size
 | .mk k o x y ks,b,h=>by
  rw[Tn.flat] at h;have h1:=akE X ks b λn hn=>h n (List.mem_append_left _ hn)
  have h2:x.length<=X:=h ⟨k,o,x,y,ends ks b⟩ (by simp);rw[txs,Tn.size,Nat.mul_add,Nat.mul_one];omega
def akE(X:Nat):∀(ks:List Tn) (b:Nat),(∀n,n∈jA ks b->n.text.length<=X)->abS ks<=X * sizes ks
 |[],b,_=>by simp[abS]
 |t::ts,b,h=>by
  rw[jA] at h;have h1:=ajz X t b λn hn=>h n (List.mem_append_left _ hn)
  have h2:=akE X ts _ λn hn=>h n (List.mem_append_right _ hn)
  rw[abS,sizes,Nat.mul_add];omega
end
def ara(n:Nd):Bool:=abO n.kind n.op n.text n.kids.length
mutual
def ah6:∀(t:Tn) (b:Nat),(t.flat b).all ara=(VB t)
 | .mk k o x y ks,b=>by rw[Tn.flat,List.all_append,adH ks b,VB];simp[ara,gU]
def adH:∀(ks:List Tn) (b:Nat),(jA ks b).all ara=BJ ks
 |[],_=>rfl
 |t::ts,b=>by rw[jA,List.all_append,ah6 t b,adH ts _,BJ]
end
def ah7{α:Type}(f:α->Bool):∀(l:List α) (i:Nat),OM (λ_ x=>f x) l i=l.all f
 |[],_=>rfl
 |x::l,i=>by rw[OM,ah7 f l,List.all_cons]
section
variable {t:Tn} {o:Bool} (h:t.size<=90000000)
include h
theorem ajA:(t.flat 0).length<=90000000∧∀n,n∈t.flat 0->n.kids.length<=90000000:=
 ⟨by rw[t.flat_length];exact h,λn hn=>by have:=(ML t 0 n hn).1;omega⟩
theorem apd:∃q:Nat,(t.size:Int) - 1=(q:Int)∧(t.Zg 0)[q]? =some 0:=by obtain⟨u,hu,hul⟩:=t.Wu 0;have hp:=t.size_pos;refine⟨u.length,by omega, ?_⟩;rw[hu,List.getElem?_append_right (Nat.le_refl _),Nat.sub_self];rfl
theorem WU:M.qX (jC o (t.flat 0))=some (encI (t.Zg 0),true):=by obtain⟨h1,h2⟩:=ajA h;have hout:=QL (t.flat 0) o h1 h2 (t.flat 0) 0 [] rfl rfl (Nat.zero_le _) Nj;rw[rG,Oh] at hout;have e0:encI []=[]:=rfl;rw[e0] at hout;simp only[M.qX,M.Es,hout,ah,qR,letE,Bh,aT]
theorem acJ(hx:∀n,n∈t.flat 0->n.text.length<=1000000000):M.Dw (jC o (t.flat 0))=some ((VB t) && decide (t.size<=4000)):=by
 have hp:=t.size_pos;simp only[M.Dw,M.L6,Qu,ah,kH,t.flat_length]
 by_cases hs:t.size<=4000
 ·have hl:=RY (t.flat 0) (λ_ n=>ara n) (b:=M.FQ (jC o (t.flat 0)))
   (λi n hi=>by have hil:=(G9.1 hi).1;have hxn:=hx n (Gy hi);rw[t.flat_length] at hil;simp only[M.FQ,M.AY,kH,t.flat_length,bU,BA,hi,He,ah,cD0,cD1,cD2,cD3,ZC _ _ n.text _ (by omega),aU];rw[zdt (by omega),aT,aC (by omega) (by omega)];change _=some (bif abO n.kind n.op n.text n.kids.length then _ else _);cases abO n.kind n.op n.text n.kids.length<;>rfl)
   (by simp only[M.FQ,M.AY,kH];rw[qN (by omega),cu])
  rw[ah7,ah6] at hl;rw[zdt (show(1:Int)<=t.size by omega),zdt (show(t.size:Int)<=4000 by omega),Bool.true_and,Bool.not_true,cu,M.J4,hl,ah,zdt hs,Bool.and_true];cases hd:(VB t) with
  |false=>rfl
  |true=>obtain⟨q,hq1,hq2⟩:=apd h;simp only[aT,qR,letE,WU (o:=o) h,ah];rw[aC (by omega) (by omega),hq1];simp only[bU,kU,hq2,He,ah,MI,QS];rfl
 ·rw[qN (show¬(t.size:Int)<=4000 by omega),Bool.and_false,Bool.not_false,aT,qN hs,Bool.and_false]
end
mutual
def dcR:Tn->Row->Prop
 | .mk k n x _ ks,r=>∃rows g,r=[.int .i64 k,.int .i64 n,.str x,.sl false 5 rows,.int .i64 g]∧aeX ks rows
def aeX:List Tn->au->Prop
 |[],rows=>rows=[]
 |t::ts,rows=>∃r rs,rows=r::rs∧dcR t r∧aeX ts rs
end
def arb(t:Tn)(r:Row):dcR t r↔∃rows g,r=[.int .i64 t.kind,.int .i64 t.op,.str t.text,.sl false 5 rows,.int .i64 g]∧aeX t.kids rows:=by cases t;rfl
def Y7:∀{ts:List Tn} {rows:au},aeX ts rows->rows.length=ts.length
 |[],_,h=>by rw[aeX] at h;rw[h];rfl
 |t::ts,_,h=>by obtain⟨r,rs,rfl,_,h2⟩:=h;rw[ng,Y7 h2,ng]
def ah8:∀{ts:List Tn} {rows:au} {j:Nat} {t:Tn},aeX ts rows->ts[j]? =some t->∃r,rows[j]? =some r∧dcR t r
 |[],_,_,_,_,h=>by simp at h
 |u::ts,_,0,t,⟨r,rs,rfl,h1,_⟩,h=>by cases h;exact⟨r,rfl,h1⟩
 |u::ts,_,j+1,t,⟨r,rs,rfl,_,h2⟩,h=>by rw[List.getElem?_cons_succ] at h⊢;exact ah8 h2 h
def bytesOf_map:∀s:aA,bytesOf (s.map byteRow)=some s
 |[]=>rfl
 |c::s=>by
  have h:asByte (byteRow c)=some c:=by simp only[byteRow,asByte];simp
  rw[TN,bytesOf,h,bytesOf_map s]
mutual
def abT:∀(t:Tn) (s:aA),KR t=some s->s.length<=txs t+t.size
 | .mk k n x y ks,s,h=>by
  rw[KR] at h;rw[txs,Tn.size];cases h1:k==1 with
  |true=>rw[h1,aT] at h;cases h;omega
  |false=>
   rw[h1,cu] at h;cases h2:k==2 with
   |true=>rw[h2,aT] at h;cases h;simp only[LJ];omega
   |false=>
    rw[h2,cu] at h;cases h3:k==3 with
    |true=>rw[h3,aT] at h;cases h
    |false=>rw[h3,cu] at h;have:=adI ks s h;omega
def adI:∀(ts:List Tn) (s:aA),Jz ts=some s->s.length<=abS ts+sizes ts
 |[],s,h=>by cases h;simp
 |t::ts,s,h=>by
  rw[Jz] at h;rw[abS,sizes];cases ha:KR t with
  |none=>rw[ha] at h;cases h
  |some a=>
   rw[ha] at h;cases hb:Jz ts with
   |none=>rw[hb] at h;cases h
   |some b=>rw[hb] at h;cases h;have h1:=abT t a ha;have h2:=adI ts b hb;rw[qO];omega
end
def flR(o:Option (aA)):aA×Bool:=match o with
 |some s=>(s,true)
 |none=>([],false)
def ard(t:Tn):∀(f:Nat) (rows:au) (g:Int),t.size<=f->aeX t.kids rows->txs t+t.size<=20000000000000->
  M.jr f t.kind t.op t.text rows g=some (flR (KR t)):=by
 refine Tn.ind (P:=λt=>∀(f:Nat) (rows:au) (g:Int),t.size<=f->aeX t.kids rows->txs t+t.size<=20000000000000->M.jr f t.kind t.op t.text rows g=some (flR (KR t))) ?_ t;intro k n x y ks ih f rows g hf hr hx;cases f with
 |zero=>rw[Tn.size] at hf;omega
 |succ f=>
  rw[Tn.size] at hf;rw[txs,Tn.size] at hx;simp only[M.jr,M.Bc,Tn.kids,Tn.kind,Tn.op,Tn.text,KR] at hr⊢;cases h1:k==1 with
  |true=>rfl
  |false=>
  cases h2:k==2 with
  |true=>rfl
  |false=>
  cases h3:k==3 with
  |true=>rfl
  |false=>
  simp only[cu];have hrl:=Y7 hr;have hkl:=lW ks;have key:∀(ts:List Tn) (j:Nat) (acc:aA),ks.drop j=ts->j<=ks.length->acc.length+(abS ts+sizes ts)<=20000000000000->
    eF (M.oU (M.jr f) rows (rows.length:Int)) ((j:Int),acc.map byteRow)=some (match Jz ts with
     |none=> .inl ()
     |some s=> .inr ((rows.length:Int),(acc++s).map byteRow)):=by
   intro ts;induction ts with
   |nil=>
    intro j acc hd hj _;have:ks.length<=j:=List.drop_eq_nil_iff.1 hd;have:j=rows.length:=by omega
    subst this;apply dP;simp only[M.oU,M.oQ,Jz];rw[qN (by omega),cu,List.append_nil]
   |cons u ts ihl=>
    intro j acc hd hj hl;have hu:ks[j]? =some u:=by
     have:(ks.drop j)[0]? =some u:=by rw[hd];rfl
     simpa using this
    have hlt:j<ks.length:=(G9.1 hu).1;have hd':ks.drop (j+1)=ts:=by rw[<-List.drop_drop,hd];rfl
    obtain⟨r,hrj,hrD⟩:=ah8 hr hu;obtain⟨rows',g',rfl,hk'⟩:=(arb u r).1 hrD;have hmem:=Gy hu;have hsz:=kP hmem;have htx:=ah5 hmem;have hfu:=ih u hmem f rows' g' (by omega) hk' (by omega);rw[abS,sizes] at hl;have c0:fQ .i64 [D.int .i64 u.kind,.int .i64 u.op,.str u.text,.sl false 5 rows',.int .i64 g'] 0=some u.kind:=rfl;have c1:fQ .i64 [D.int .i64 u.kind,.int .i64 u.op,.str u.text,.sl false 5 rows',.int .i64 g'] 1=some u.op:=rfl;have c2:cStr [D.int .i64 u.kind,.int .i64 u.op,.str u.text,.sl false 5 rows',.int .i64 g'] 2=some u.text:=rfl;have c3:SK 5 [D.int .i64 u.kind,.int .i64 u.op,.str u.text,.sl false 5 rows',.int .i64 g'] 3=some rows':=rfl;have c4:fQ .i64 [D.int .i64 u.kind,.int .i64 u.op,.str u.text,.sl false 5 rows',.int .i64 g'] 4=some g':=rfl;rw[Jz];cases hfx:KR u with
    |none=>apply dP;simp only[M.oU,M.oQ,bU,hrj,ah,c0,c1,c2,c3,c4,hfu,hfx,flR,Bool.not_false,aT];rw[zdt (by omega),aT]
    |some a=>
     have hal:=abT u a hfx;have hs:M.oU (M.jr f) rows (rows.length:Int) ((j:Int),acc.map byteRow)=some (.inl (((j+1:Nat):Int),(acc++a).map byteRow)):=by simp only[M.oU,M.oQ,bU,hrj,ah,c0,c1,c2,c3,c4,hfu,hfx,flR,Bool.not_true,cu,List.length_map];rw[zdt (by omega),aT,bn (by omega),aT,bn (by omega),aT,aC (by omega) (by omega),List.map_append];rfl
     rw[gQ hs,ihl (j+1) (acc++a) hd' hlt (by rw[qO];omega)];cases Jz ts with
     |none=>rfl
     |some b=>simp only[Bf]
  have h0:=key ks 0 [] rfl (Nat.zero_le _) (by simp only[zo];omega);have e0:([]:aA).map byteRow=[]:=rfl;rw[rG,e0] at h0;rw[M.CQ,h0];cases Jz ks with
  |none=>rfl
  |some s=>simp only[ah,qR,letE,List.nil_append,bytesOf_map,flR]
def flL:List Nd->Option (aA)
 |[]=>some []
 |n::l=>bif n.kind==1 then(flL l).map (n.text++ ·) else bif n.kind==2 then(flL l).map ([32]++ ·) else bif n.kind==3 then none else flL l
def two(a b:Option (aA)):Option (aA):=match a with
 |none=>none
 |some x=>match b with
  |none=>none
  |some y=>some (x++y)
def arf(a:Option (aA)):two a (some [])=a:=by cases a<;>simp[two]
def aeY:∀a b:List Nd,flL (a++b)=two (flL a) (flL b)
 |[],b=>by rw[List.nil_append,flL];cases flL b<;>rfl
 |n::a,b=>by
  rw[Uo,flL,flL,aeY a b];cases n.kind==1 with
  |true=>cases flL a<;>cases flL b<;>simp[two]
  |false=>
  cases n.kind==2 with
  |true=>cases flL a<;>cases flL b<;>simp[two]
  |false=>
  cases n.kind==3 with
  |true=>rfl
  |false=>rfl
mutual
def ah9:∀(t:Tn) (b:Nat),VB t=true->flL (t.flat b)=KR t
 | .mk k n x y ks,b,h=>by
  rw[VB,zq] at h;have hk:=adJ ks b h.1;rw[Tn.flat,aeY,hk,KR];simp only[flL];have hd:=h.2;unfold abO at hd;have key:∀(e:ks.length=0),Jz ks=some []:=λe=>by rw[List.eq_nil_of_length_eq_zero e];rfl
  cases h0:(!(k==4) && !(n==0))||(!(k==1) && !(x==[])) with
  |true=>rw[h0,aT] at hd;cases hd
  |false=>
  rw[h0,cu] at hd;cases h1:k==1 with
  |true=>rw[h1,aT,zq] at hd;rw[key (uY hd.2)];simp[two]
  |false=>
  rw[h1,cu] at hd;cases h2:k==2 with
  |true=>rw[h2,Bool.true_or,aT] at hd;rw[key (uY hd)];simp[two]
  |false=>
  rw[h2,Bool.false_or] at hd;cases h3:k==3 with
  |true=>rw[h3,aT] at hd;rw[key (uY hd)];rfl
  |false=>simp only[cu];rw[arf]
def adJ:∀(ks:List Tn) (b:Nat),BJ ks=true->flL (jA ks b)=Jz ks
 |[],b,_=>rfl
 |t::ts,b,h=>by rw[BJ,zq] at h;rw[jA,aeY,ah9 t b h.1,adJ ts _ h.2,Jz];rfl
end
def abU(k:Int):Bool:=(decide (k>=20) && decide (k<=34)) &&(!(k==33) && !(k==34))
def VD:List Nd->Nat
 |[]=>0
 |n::l=>(bif abU n.kind then 1 else 0)+VD l
def X6:∀l:List Nd,VD l<=l.length
 |[]=>Nat.le_refl _
 |n::l=>by have:=X6 l;rw[VD,ng];cases abU n.kind<;>simp only[aT,cu]<;>omega
def akF:∀a b:List Nd,VD (a++b)=VD a+VD b
 |[],b=>by rw[List.nil_append,VD,Nat.zero_add]
 |n::a,b=>by rw[Uo,VD,VD,akF a b,Nat.add_assoc]
def aia{l:List Nd}{j:Nat}{n:Nd}(h:l[j]? =some n):VD (l.take (j+1))=VD (l.take j)+(bif abU n.kind then 1 else 0):=by rw[fP h,akF,VD,VD,Nat.add_zero]
def asl(u:Tn):aA:=(flR (KR (Gu u))).1
def lI:List Tn->List (aA)
 |[]=>[]
 |u::l=>(bif u.kind==33 then[] else[asl u])++lI l
def Vp:∀a b:List Tn,lI (a++b)=lI a++lI b
 |[],b=>rfl
 |u::a,b=>by rw[Uo,lI,lI,Vp a b,Bf]
def abV(t:Tn):aA:=bif t.kind==40 then[66,69,71,73,78] else bif t.kind==41 then[69,78,68] else bif t.kind==44 then Si t.text t.kids else
 bif t.kind==42||t.kind==43 then uX (lI t.kids) true else[]
def ape(t:Tn):aA:=(Lib.decDigits (VD (t.flat 0))++[32])++abV t
def yc:List Tn->List (aA)
 |[]=>[]
 |t::l=>(bif t.kind==34 then[] else[ape t])++yc l
def Vq:∀a b:List Tn,yc (a++b)=yc a++yc b
 |[],b=>rfl
 |u::a,b=>by rw[Uo,yc,yc,Vq a b,Bf]
def QD:∀l:List Tn,(yc l).length<=l.length
 |[]=>Nat.le_refl _
 |t::l=>by have:=QD l;rw[yc,qO,ng];cases t.kind==34<;>simp only[aT,cu,ng,zo]<;>omega
def akG:∀(n u:Nat),u<=n->(Lib.decDigits u).length<=u+1
 |0,u,h=>by rw[Lib.decDigits,dif_pos (by omega)];simp
 |n+1,u,h=>by
  rw[Lib.decDigits];split
  ·simp
  ·have:=akG n (u / 10) (by omega);simp only[qO,ng,zo];omega
def isS(t:Tn):Prop:=20<=t.kind∧t.kind<=34
def abW:∀{ks:List Tn},(∀u,u∈ks->(abK u).size+2<=40 * u.size)->sizes (Ov ks)+2 * ks.length<=40 * sizes ks
 |[],_=>by simp[Ov,sizes]
 |t::ts,h=>by
  have h1:=h t zmf;have h2:=abW (ks:=ts) λu hu=>h u (zmm _ hu)
  rw[Ov,sizes,sizes,ng];omega
def WV:∀ks:List Tn,(Ov ks).length=ks.length
 |[]=>rfl
 |t::ts=>by rw[Ov,ng,WV ts,ng]
def al1(op:Int)(y:aA)(ks:List Tn):(avR op y ks).size<=32 * sizes ks+27:=by
 have h1:=Qz ⟨1,false,false,true,false⟩ (bif y==[] then ks else ks.take (ks.length - 1));have h2:sizes (bif y==[] then ks else ks.take (ks.length - 1))<=sizes ks:=by
  cases(y==[]) with
  |true=>exact Nat.le_refl _
  |false=>exact take_size _ _
 have h3:=x9 (MF ks (ks.length - 1)) ⟨9,false,false,false,false⟩;have h4:=XZ ks (ks.length - 1);unfold avR;generalize (bif y==[] then ks else ks.take (ks.length - 1))=args at *;simp only[nO,mW,sizes,iD];cases Nat.blt 0 args.length<;>cases(y==[])<;>simp only[aT,cu,sizes,iD]<;>omega
def abX(w:aA)(ks:List Tn):(ahS w ks).size<=16 * sizes ks+2:=by
 cases ks with
 |nil=>simp[ahS,iD]
 |cons t l=>have:=X3 t;simp only[ahS,nO,sizes,iD];omega
def arh{α:Type}{l:List α}(h:l.length=4):∃a b c d,l=[a,b,c,d]:=by
 match l,h with
 |[a,b,c,d],_=>exact⟨a,b,c,d,rfl⟩
def aeZ{α:Type}{l:List α}(h:l.length=2):∃a b,l=[a,b]:=by
 match l,h with
 |[a,b],_=>exact⟨a,b,rfl⟩
def al2{α:Type}{l:List α}(h:l.length=3):∃a b c,l=[a,b,c]:=by
 match l,h with
 |[a,b,c],_=>exact⟨a,b,c,rfl⟩
def aFD{k op:Int}{x y:aA}{ks:List Tn}(h:Az (Tn.mk k op x y ks)){i:Nat}{t:Tn}(e:ks[i]? =some t)(hc:cls k op ks.length i=1∨cls k op ks.length i=2):isS t∧Az t:=by obtain⟨h1,h2⟩:=OQ h e;refine⟨?_,h2⟩;unfold isS;rcases hc with hc|hc<;>rw[hc] at h1<;>simp only[yj] at h1<;>omega
def ajB(t:Tn):Az t->isS t->(abK t).size+2<=40 * t.size:=by
 refine Tn.ind (P:=λt=>Az t->isS t->(abK t).size+2<=40 * t.size) ?_ t;intro k op x y ks ih hok hs;have hc:=I4 hok;simp only[isS,Tn.kind] at hs;have ihk:∀{i:Nat} {u:Tn},ks[i]? =some u->(cls k op ks.length i=1∨cls k op ks.length i=2)->(abK u).size+2<=40 * u.size:=by intro i u e hcl;obtain⟨h1,h2⟩:=aFD hok e hcl;exact ih u (Gy e) h2 h1
 rw[abK,Tn.size];have hk:k=20∨k=21∨k=22∨k=23∨k=24∨k=25∨k=26∨k=27∨k=28∨k=29∨k=30∨k=31∨k=32∨k=33∨k=34:=by omega
 rcases hk with rfl|rfl|rfl|rfl|rfl|rfl|rfl|rfl|rfl|rfl|rfl|rfl|rfl|rfl|rfl<;>simp only[aFs,Int.reduceBEq,aT,cu]
 ·have h1:=x9 (MF ks 0) .top;have h2:=XZ ks 0;unfold Gu;omega
 ·have:=al1 op y ks;omega
 ·rw[iD];omega
 ·have:=abX [101,120,105,116] ks;omega
 ·have:=abX [114,101,116,117,114,110] ks;omega
 ·rw[iD];omega
 ·rw[iD];omega
 ·cases ks with
  |nil=>rw[iD];omega
  |cons u l=>have:=Qz .top (u::l);simp only[nO,iD,sizes] at this⊢;omega
 ·rcases hc.cnd rfl with h2|h3
  ·obtain⟨u,v,rfl⟩:=aeZ h2;have a0:=x9 u .top;have a1:=ihk (i:=1) (u:=v) rfl (by simp[cls]);simp[uo,MF,Ov,Gu,nO,iD,sizes,show Nat.blt 2 2=false from rfl] at *;omega
  ·obtain⟨u,v,z,rfl⟩:=al2 h3;have a0:=x9 u .top;have a1:=ihk (i:=1) (u:=v) rfl (by simp[cls]);have a2:=ihk (i:=2) (u:=z) rfl (by simp[cls]);simp[uo,MF,Ov,Gu,nO,iD,sizes,show Nat.blt 2 3=true from rfl] at *;omega
 ·obtain⟨u,v,rfl⟩:=aeZ (hc.two (by omega));have a0:=x9 u .top;have a1:=ihk (i:=1) (u:=v) rfl (by simp[cls]);simp[uo,MF,Ov,Gu,nO,iD,sizes] at *;omega
 ·obtain⟨u,v,rfl⟩:=aeZ (hc.two (by omega));have a0:=x9 v .top;have a1:=ihk (i:=0) (u:=u) rfl (by simp[cls]);simp[uo,MF,Ov,Gu,nO,iD,sizes] at *;omega
 ·obtain⟨u,v,z,q,rfl⟩:=arh (hc.four rfl);have a0:=x9 u ⟨1,false,true,false,false⟩;have a1:=X3 v;have a2:=X3 z;have a3:=ihk (i:=3) (u:=q) rfl (by simp[cls]);have a4:(bif u.kind==16 then rO [] else(CZ u) ⟨1,false,true,false,false⟩).size<=16 * u.size:=by
   refine jk _ ?_ ?_
   ·have:=u.size_pos;rw[iD];omega
   ·omega
  simp[uo,MF,Ov,nO,iD,sizes] at *;omega
 ·obtain⟨u,rfl⟩:=ZF.1 (hc.one (by omega));have a1:=ihk (i:=0) (u:=u) rfl (by simp[cls]);simp[uo,MF,Ov,nO,iD,sizes] at *;omega
 ·have h1:=alU (Ov ks);have h2:=abW (ks:=ks) λu hu=>by obtain⟨i,hi⟩:=List.mem_iff_getElem?.1 hu;exact ihk hi (by simp[cls])
  rw[WV] at h1;omega
 ·rw[iD];omega
def ari(l:List Nd)(o:Bool)(d:Int)(hl:l.length<=90000000)(hk:∀n,n∈l->n.kids.length<=90000000∧∀e,e∈n.kids-> -4000000000<=e+d∧e+d<=4000000000):
  M.nT (jC o l) d=some (jC true (l.map (Nd.up d))):=by
 simp only[M.nT,M.FI];have hloop:=fF (b:=M.Ae (jC o l) d) (t:=((l.length:Int),jC true (l.map (Nd.up d)))) (λi=>((i:Int),jC true ((l.take i).map (Nd.up d)))) l.length
  (by
   intro i hi;obtain⟨n,hn⟩:∃n,l[i]? =some n:=⟨l[i],by simp[hi]⟩
   obtain⟨hkl,hke⟩:=hk n (Gy hn);have hin:=fF (b:=M.Ad (jC o l) d (i:Int) (jC true ((l.take i).map (Nd.up d))) n.kind n.op n.text) (t:=((n.kids.length:Int),encI (n.kids.map (· +d)))) (λj=>((j:Int),encI ((n.kids.take j).map (· +d)))) n.kids.length
    (by
     intro j hj;obtain⟨e,he⟩:∃e,n.kids[j]? =some e:=⟨n.kids[j],by simp[hj]⟩
     have:=hke e (Gy he);simp only[lK,M.Ad,M.uM,bU,BA,hn,He,ah,cD3,aU,kU,he,MI,List.length_map,PW,LJ];rw[zdt (by omega),aT,bn (by omega),aT,bn (by omega),aT,aC (by omega) (by omega),aC (by omega) (by omega),fP he];simp[encI])
    (by simp only[lK,M.Ad,M.uM,bU,BA,hn,He,ah,cD3,aU];rw[qN (by omega),cu,List.take_length]) 0 (Nat.zero_le _)
   simp only[rG,List.take_zero,List.map_nil] at hin;have hin':M.Em (jC o l) d (i:Int) (jC true ((l.take i).map (Nd.up d))) n.kind n.op n.text (0,[])=some ((n.kids.length:Int),encI (n.kids.map (· +d))):=hin;simp only[lK,M.Ae,M.uN,kH,bU,BA,hn,He,ah,cD0,cD1,cD2,cD3,hin',Bh,aT,List.length_map,PW,LJ];rw[zdt (by omega),aT,bn (by omega),aT,bn (by omega),aT,aC (by omega) (by omega),fP hn,List.map_append,QC];rfl)
  (by simp only[lK,M.Ae,M.uN,kH];rw[qN (by omega),cu,List.take_length]) 0 (Nat.zero_le _)
 simp only[rG,List.take_zero,List.map_nil] at hloop;have NH:M.En (jC o l) d (0,[])=some ((l.length:Int),jC true (l.map (Nd.up d))):=hloop;rw[NH,ah]
def zn(ts:List Tn):au:=ts.map λt=>[.sl false 4 (jC false (t.flat 0))]
def ae0(t:Tn)(n:Nd)(hn:n∈t.flat 0):n.kids.length<=t.size∧∀e,e∈n.kids->0<=e∧e<t.size:=by obtain⟨h1,h2⟩:=ML t 0 n hn;refine⟨by omega,λe he=> ?_⟩;have:=h2 e he;omega
def ajC(k op:Int)(ts:List Tn)(hs:sizes ts<=90000000):M.bW k op (zn ts)=some (jC true ((Tn.mk k op [] [] ts).flat 0)):=by
 have htl:=lW ts;simp only[lK,M.bW,M.Io];have hpl:(zn ts).length=ts.length:=by simp[zn]
 have hloop:=fF (b:=M.wW)
  (t:=if ts=[] then .inl (zn ts,0,[],k,op,[]) else .inr (zn ts,(ts.length:Int),jC true (jA ts 0),k,op,[],encI (ends ts 0)))
  (λj=>if j=0 then .inl (zn ts,0,[],k,op,[]) else .inr (zn ts,(j:Int),jC true (jA (ts.take j) 0),k,op,[],encI (ends (ts.take j) 0))) ts.length
  (by
   intro j hj;obtain⟨t,ht⟩:∃t,ts[j]? =some t:=⟨ts[j],by simp[hj]⟩
   have hst:=NJ ht;have hp:=t.size_pos;have hr:(zn ts)[j]? =some [.sl false 4 (jC false (t.flat 0))]:=by simp[zn,ht]
   have c0:SK 4 [D.sl false 4 (jC false (t.flat 0))] 0=some (jC false (t.flat 0)):=rfl;have hfl:(jC true (jA (ts.take j) 0)).length=sizes (ts.take j):=by rw[kH,mX]
   have hsh:M.nT (jC false (t.flat 0)) ((sizes (ts.take j):Nat):Int)=some (jC true (t.flat (sizes (ts.take j)))):=by
    rw[ari (t.flat 0) false _ (by rw[t.flat_length];omega) (λn hn=> ?_)]
    ·rw[t.aex 0 (sizes (ts.take j))];congr 4<;>omega
    ·obtain⟨h1,h2⟩:=ae0 t n hn;refine⟨by omega,λe he=> ?_⟩;have:=h2 e he;omega
   have hrl:(jC true (t.flat (sizes (ts.take j)))).length=t.size:=by rw[kH,t.flat_length]
   have hel:(encI (ends (ts.take j) 0)).length=j:=by rw[aU,gU,PW];omega
   rw[if_neg (show¬j+1=0 by omega),adA ht,abG ht]
   by_cases h0:j=0
   ·subst h0;have hi:idx (zn ts) 0=some [.sl false 4 (jC false (t.flat 0))]:=by have:=bU (zn ts) 0;rw[rG] at this;rw[this,hr]
    rw[if_pos rfl];have z:sizes (ts.take 0)=0:=rfl;rw[z] at hsh hrl;have z2:(([]:au).length:Int)=((0:Nat):Int):=rfl;simp only[lK,M.wW,M.rJ,hpl,hi,ah,c0,z2,hsh,hrl,List.nil_append,zo,Nat.zero_add];rw[zdt (by omega),aT,bn (by omega),aT,bn (by omega),aT,aC (by omega) (by omega),aC (by omega) (by omega)];simp[encI,jC,jA,ends,sizes]
   ·rw[if_neg h0];simp only[lK,M.wW,M.rJ,hpl,bU,hr,ah,c0,hfl,hsh,hrl,hel,qO,LJ];rw[zdt (by omega),aT,bn (by omega),aT,bn (by omega),aT,bn (by omega),aT,bn (by omega),aT,aC (by omega) (by omega),aC (by omega) (by omega),QC,Nat.zero_add];simp[encI])
  (by
   by_cases h0:ts=[]
   ·rw[if_pos (by rw[h0];rfl),if_pos h0];subst h0;rfl
   ·have h1:¬ts.length=0:=λe=>h0 (List.length_eq_zero_iff.1 e)
    rw[if_neg h1,if_neg h0,List.take_length];simp only[lK,M.wW,M.rJ,hpl];rw[qN (by omega),cu]) 0 (Nat.zero_le _)
 rw[if_pos rfl] at hloop;rw[M.FK,hloop,ah]
 by_cases h0:ts=[]
 ·rw[if_pos h0];subst h0;rfl
 ·rw[if_neg h0];simp only[qR,letE,Bh,aT,kH,mX,LJ];rw[bn (by omega),aT,bn (by omega),aT,Tn.flat,QC];rfl
mutual
def NV(w:Bool):Tn->Row
 | .mk k n x _ ks=>[.int .i64 k,.int .i64 n,.str x,.sl w 5 (vH w ks),.int .i64 0]
def vH(w:Bool):List Tn->au
 |[]=>[]
 |t::ts=>NV w t::vH w ts
end
def X7(w:Bool):∀ts:List Tn,vH w ts=ts.map (NV w)
 |[]=>rfl
 |t::ts=>by rw[vH,X7 w ts];rfl
def ae1(w:Bool)(a:List Tn):(vH w a).length=a.length:=by simp[X7]
mutual
def arj(w:Bool):∀t:Tn,uw (NV w t)=NV false t
 | .mk k n x y ks=>by have:=WW w ks;simp only[NV,uw,D.fz,this]
def WW(w:Bool):∀ts:List Tn,bJ (vH w ts)=vH false ts
 |[]=>rfl
 |t::ts=>by rw[vH,bJ,arj w t,WW w ts,vH]
end
def Vr{α:Type}(a b:Bool)(x y:α):(bif a||b then x else y)=bif a then x else bif b then x else y:=by cases a<;>rfl
def ae2{α:Type}(a b:Bool)(x y:α):(bif a && b then x else y)=bif a then(bif b then x else y) else y:=by cases a<;>rfl
def PL{α:Type}(a:Bool)(x y:α):some (bif a then x else y)=bif a then some x else some y:=by cases a<;>rfl
def QE(op:Int):M.kV op=some (vG op)∧M.qB op=some (vG op):=by simp only[M.kV,M.DI,M.qB,M.Ii,vG,Vr,PL];constructor<;>first|trivial|rfl
def QF(k op:Int)(x y:aA)(r:au):M.lS k op x y r=some (lvl k op)∧M.bV k op x y r=some (lvl k op):=by simp only[M.lS,M.IK,M.bV,M.Ij,lvl,Vr,PL,(QE op).1,(QE op).2,ah];constructor<;>first|trivial|rfl
def WY(p:Ps):M.xW p.level p.kM p.oV p.oW p.jU=some (jX p)∧M.xP p.level p.kM p.oV p.oW p.jU=some (jX p):=by simp only[M.xW,M.L8,M.xP,M.LX,dU,bQ,ah,jX,ge_iff_le];cases(decide (1<=p.level) && decide (p.level<=15))<;>cases p.kM<;>exact⟨rfl,rfl⟩
def JA:M.pz=some (1,false,false,false,false)∧M.jG=some (1,false,false,false,false):=⟨rfl,rfl⟩
def ark(k op:Int)(p:Ps):fits k op p=bif !(jX p) then false else bif lvl k op==0 then false else bif p.oV && k==13 then false else bif p.oW &&(k==12 && op==62) then false else
  bif p.jU &&(k==11||(k==9||k==4)) then false else bif p.kM && k==9 then true else decide (p.level<=lvl k op):=by
 unfold fits;rw[Vr];cases(p.kM && k==9)<;>rfl
def ZW(k op:Int)(x y:aA)(r:au)(p:Ps):M.Bo k op x y r p.level p.kM p.oV p.oW p.jU=some (fits k op p)∧M.Bl k op x y r p.level p.kM p.oV p.oW p.jU=some (fits k op p):=by rw[ark];simp only[M.Bo,M.Oo,M.Bl,M.Oj,(QF k op x y r).1,(QF k op x y r).2,(WY p).1,(WY p).2,ah,Vr,ae2,PL];constructor<;>first|trivial|rfl
def nb0(j:Nat):((j:Int)==0)=Nat.beq j 0:=by cases j<;>rfl
def nb1(j:Nat):((j:Int)==1)=Nat.beq j 1:=by
 rcases j with _|_|j
 ·rfl
 ·rfl
 ·rw[OV.2 (by omega)];rfl
def gt0(j:Nat):decide ((j:Int)>0)= !(Nat.beq j 0):=by
 cases j with
 |zero=>rfl
 |succ j=>rw[zdt (by omega)];rfl
def aib(op:Int)(j:Nat):M.tY op (j:Int)=some (bif Nat.beq j 0 then(sides op).1 else(sides op).2):=by simp only[M.tY,M.F5,(QE op).1,ah,nb0,sides];cases vG op==3<;>cases vG op==4<;>cases vG op==6<;>cases vG op==7<;>cases vG op==8<;>cases vG op==9<;>cases vG op==10<;>cases Nat.beq j 0<;>rfl
def ajD(op:Int):M.sZ op=some (sides op):=by simp only[M.sZ,M.Ip,(QE op).2,ah,sides,PL]
def aic(k op:Int)(x y:aA)(r:au)(j:Nat):M.qH k op x y r (j:Int)=some (Qv k op j):=by simp only[M.qH,M.F6,aib,ah,Qv,gt0];cases k==15<;>cases k==14<;>cases k==13<;>cases k==11<;>cases k==12<;>cases Nat.beq j 0<;>rfl
def Ps.yu(p:Ps):Int×Bool×Bool×Bool×Bool:=(p.level,p.kM,p.oV,p.oW,p.jU)
def akH(j n:Nat)(h:n<=1048576):(decide ((j:Int)>=0) && decide ((j:Int)<=i64.wrap ((n:Int) - 1)))=Nat.blt j n:=by
 rw[aC (by omega) (by omega)];cases hb:Nat.blt j n with
 |true=>rw[Nat.blt_eq] at hb;rw[zdt (by omega),zdt (by omega)];rfl
 |false=>
  have:¬j<n:=by rw[<-Nat.blt_eq,hb];simp
  rw[qN (show¬(j:Int)<=(n:Int) - 1 by omega),Bool.and_false]
def many(n:Nat):decide ((n:Int)>1)=Nat.blt 1 n:=by
 cases hb:Nat.blt 1 n with
 |true=>rw[Nat.blt_eq] at hb;exact zdt (by omega)
 |false=>
  have:¬1<n:=by rw[<-Nat.blt_eq,hb];simp
  exact qN (by omega)
def SA(k op:Int)(x y:aA)(r:au)(j:Nat)(p:Ps)(hr:r.length<=1048576):M.tZ k op x y r (j:Int) p.level p.kM p.oV p.oW p.jU=some (bZ k op r.length j p).yu:=by
 simp only[M.tZ,M.Ku,(WY p).1,bQ,(QF k op x y r).1,aic,JA.1,ah,akH j r.length hr,many,nb0,nb1,bZ];cases jX p with
 |false=>rfl
 |true=>
  cases Nat.blt j r.length with
  |false=>rfl
  |true=>
   cases hz:(lvl k op==0) with
   |true=>rfl
   |false=>
    cases h15:(lvl k op==15) with
    |true=>rfl
    |false=>
     simp only[Bool.not_true,cu,Bool.false_or];have fin:∀z:Int,(bif k==11 then some (z,k==6,p.oV,p.oW,false) else bif k==9 then some (z,k==6,p.oV,p.oW,false) else bif k==10 then some (z,k==6,p.oV,p.oW,false) else bif k==6 then some (z,k==6,p.oV,p.oW,false) else
       bif Nat.beq j 0 then(bif p.jU then some (z,k==6,p.oV,p.oW,true) else bif Nat.beq j 1 then(bif k==12 then some (z,k==6,p.oV,p.oW,op==99) else some (z,k==6,p.oV,p.oW,false)) else some (z,k==6,p.oV,p.oW,false)) else
       bif Nat.beq j 1 then(bif k==12 then some (z,k==6,p.oV,p.oW,op==99) else some (z,k==6,p.oV,p.oW,false)) else some (z,k==6,p.oV,p.oW,false))=
       some (z,k==6,p.oV,p.oW,bif k==11||(k==9||(k==10||k==6)) then false else(Nat.beq j 0 && p.jU)||(Nat.beq j 1 &&(k==12 && op==99))):=by
      intro z;cases h11:(k==11) with
      |true=>rfl
      |false=>cases h9:(k==9) with
       |true=>rfl
       |false=>cases h10:(k==10) with
        |true=>rfl
        |false=>cases h6:(k==6) with
         |true=>rfl
         |false=>simp only[cu,Bool.or_false];cases Nat.beq j 0<;>cases p.jU<;>cases Nat.beq j 1<;>cases(k==12)<;>simp
     cases h13:(k==13) with
     |true=>
      cases Nat.blt 1 r.length with
      |true=>rfl
      |false=>exact fin _
     |false=>exact fin _
def Y8(k op:Int)(x y:aA)(r:au)(j:Nat):M.nX k op x y r (j:Int)=some (ni k j):=by simp only[M.nX,M.F7,nb0,ni];cases Nat.beq j 0<;>cases k==9<;>cases k==10<;>rfl
def jY(k:Int)(hk:I64 k):M.gJ k=some (k,spell k,0)∧M.bY k=some (k,spell k,0):=by simp only[M.gJ,M.Oq,M.bY,M.J3,(lG k hk).1,(lG k hk).2,ah];constructor<;>first|trivial|rfl
def opF(s:aA):List (aA)->Nat->Int->Nat->Int×Nat
 |[],_,k,m=>(k,m)
 |g::l,i,k,m=>bif Nat.blt m g.length && g.isPrefixOf s then opF s l (i+1) (30+(i:Int)) g.length else opF s l (i+1) k m
def ZX(s:aA):∀(l:List (aA)) (i:Nat) (k:Int) (m:Nat),(opF s l i k m).2=abI s l m
 |[],_,_,_=>rfl
 |g::l,i,k,m=>by
  rw[opF,abI];cases(Nat.blt m g.length && g.isPrefixOf s) with
  |true=>rw[aT,aT,ZX s l]
  |false=>rw[cu,cu,ZX s l]
def akI(s:aA)(L:List (aA)){b:Int×Int×Int->Option (Int×Int×Int⊕Int×Int×Int)}
  (hb:∀(i:Nat) g k (m:Nat),L[i]? =some g->m<=2->b (k,(m:Int),(i:Int))=some (.inl (bif Nat.blt m g.length && g.isPrefixOf s then(30+(i:Int),(g.length:Int),(i:Int)+1) else(k,(m:Int),(i:Int)+1))))
  (he:∀k m,b (k,m,(L.length:Int))=some (.inr (k,m,(L.length:Int)))) (h2:∀g,g∈L->g.length<=2):
  eF b (0,0,0)=some ((opF s L 0 0 0).1,((opF s L 0 0 0).2:Int),(L.length:Int)):=by
 have key:∀(t:List (aA)) (i:Nat) (k:Int) (m:Nat),L.drop i=t->i<=L.length->m<=2->eF b (k,(m:Int),(i:Int))=some ((opF s t i k m).1,((opF s t i k m).2:Int),(L.length:Int)):=by
  intro t;induction t with
  |nil=>
   intro i k m hd hi hm;have:i=L.length:=by have:=congrArg List.length hd;simp at this;omega
   subst this;exact dP (he _ _)
  |cons g t ih=>
   intro i k m hd hi hm;have hx:L[i]? =some g:=by
    have:(L.drop i)[0]? =some g:=by rw[hd];rfl
    simpa using this
   have hlt:i<L.length:=(G9.1 hx).1;have hd':L.drop (i+1)=t:=by rw[<-List.drop_drop,hd];rfl
   have hs:=hb i g k m hx hm;have hg:=h2 g (Gy hx);rw[opF];cases hc:(Nat.blt m g.length && g.isPrefixOf s) with
   |true=>rw[hc,aT] at hs;rw[gQ hs,aT,show(i:Int)+1=((i+1:Nat):Int) by omega,ih (i+1) _ _ hd' hlt hg]
   |false=>rw[hc,cu] at hs;rw[gQ hs,cu,show(i:Int)+1=((i+1:Nat):Int) by omega,ih (i+1) _ _ hd' hlt hm]
 have:=key L 0 0 0 rfl (Nat.zero_le _) (by omega);rw[rG] at this;exact this
def arl{α:Type}(s:List α)(n:Nat)(h:n<=s.length):cut s 0 (n:Int)=some (s.take n):=by unfold cut;rw[zdt (by omega),zdt (by omega),zdt (by omega)];simp
def pre_eq:∀(g s:aA),g.length<=s.length->(s.take g.length==g)=g.isPrefixOf s
 |[],s,_=>by simp
 |x::g,[],h=>by simp at h
 |x::g,y::s,h=>by
  have hr:=pre_eq g s (by simpa using h);have hxy:(y==x)=(x==y):=by rw[Bool.eq_iff_iff,beq_iff_eq,beq_iff_eq];exact⟨Eq.symm,Eq.symm⟩
  rw[List.isPrefixOf,ng,List.take_succ_cons,<-hr,<-hxy];rfl
def adK(g s:aA)(h:s.length<g.length):g.isPrefixOf s=false:=by
 cases hp:g.isPrefixOf s with
 |false=>rfl
 |true=>have:=(List.isPrefixOf_iff_prefix.1 hp).length_le;omega
def ae3(s g:aA):M.strings_HasPrefix s g=some (g.isPrefixOf s):=by
 simp only[M.strings_HasPrefix,M.yE,M.gu,M.kX]
 by_cases h:g.length<=s.length
 ·rw[zdt (by omega),aT,arl s g.length h,ah,ah,pre_eq g s h]
 ·rw[qN (by omega),cu,ah,adK g s (by omega)]
def apf:∀g,g∈OI->g.length<=2:=by decide+kernel
def ZY(m n:Nat):decide ((n:Int)>(m:Int))=Nat.blt m n:=by
 cases hb:Nat.blt m n with
 |true=>rw[Nat.blt_eq] at hb;exact zdt (by omega)
 |false=>
  have:¬m<n:=by rw[<-Nat.blt_eq,hb];simp
  exact qN (by omega)
def ae4(s:aA)(h0:s≠[])(hs:s.length<=4000000):M.pX s 0=some ((opF s OI 0 0 0).1,((abI s OI 0:Nat):Int)):=by
 have hl:OI.length=39:=rfl;have hn:1<=s.length:=by cases s with|nil=>exact absurd rfl h0|cons=>simp
 simp only[M.pX,M.Ot,M.Mc,bQ,ah];rw[aC (by omega) (by omega),zdt (by omega),zdt (by omega),Bool.and_self,Bool.not_true,cu];have hc:=arl s s.length (Nat.le_refl _);rw[List.take_length] at hc;rw[akI s OI (λi g k m hg hm=> ?_) (λk m=> ?_) apf,ah,ZX]
 ·have hi:=(G9.1 hg).1;rw[hl] at hi;have hsc:=akw i hi;simp only[Nl,hg] at hsc;simp only[M.RQ,M.IQ,QS,hsc,ah,hc,ae3,ZY];rw[zdt (by omega),zdt (by omega),aC (by omega) (by omega),aC (by omega) (by omega)];cases Nat.blt m g.length<;>cases g.isPrefixOf s<;>rfl
 ·rw[hl];rfl
def aie{s:aA}(h:s≠[])(hl:s.length<=2000000):∃c,idx s (i64.wrap ((s.length:Int) - 1))=some c∧lastB s=(c.toNat:Int):=by
 have hn:1<=s.length:=by cases s with|nil=>exact absurd rfl h|cons=>simp
 obtain⟨c,hc⟩:∃c,s[s.length - 1]? =some c:=⟨s[s.length - 1],by simp⟩
 refine⟨c, ?_, ?_⟩
 ·rw[aC (by omega) (by omega),show((s.length:Int) - 1)=((s.length - 1:Nat):Int) by omega,bU,hc]
 ·rw[lastB,List.getLast?_eq_getElem?,hc]
def akJ{s:aA}(h:s≠[]):∃c,idx s 0=some c∧ajt s=(c.toNat:Int):=by
 cases s with
 |nil=>exact absurd rfl h
 |cons c s=>exact⟨c,rfl,rfl⟩
def akK(c:UInt8):i64.wrap (c.toNat:Int)=(c.toNat:Int):=by have:=ahz c;exact aC (by omega) (by omega)
def Y9(a b:Tk):DU a b=bif a.text==[] then false else bif b.text==[] then false else bif a.kind==2 then false else bif a.kind==1 then false else bif b.kind==1 then false else
 bif isW (lastB a.text) && isW (ajt b.text) then true else
 bif a.kind==3 &&(isW (ajt b.text)||ajt b.text==46) then true else
 bif a.kind==6 && b.kind==32 then true else
 bif !(decide (30<=a.kind) && decide (a.kind<=68)) then false else Nat.blt a.text.length (abI (a.text++b.text) OI 0):=by
 unfold DU;simp only[Vr]
def X8(a b:Tk)(ha:a.text.length<=2000000)(hb:b.text.length<=2000000):M.qI a.kind a.text a.at_ b.kind b.text b.at_=some (DU a b):=by
 rw[Y9];simp only[M.qI,M.F8]
 by_cases h1:a.text=[]
 ·rw[show(a.text==[])=true by simpa using h1,aT,aT]
 ·rw[show(a.text==[])=false by simpa using h1,cu,cu]
  by_cases h2:b.text=[]
  ·rw[show(b.text==[])=true by simpa using h2,aT,aT]
  ·obtain⟨c,hc,hc'⟩:=aie h1 ha;obtain⟨d,hd,hd'⟩:=akJ h2;have hop:=ae4 (a.text++b.text) (by simp[h1]) (by simp only[qO];omega);rw[show(b.text==[])=false by simpa using h2,cu,cu,hc',hd'];simp only[hc,hd,ah,akK,KC,M.fJ,M.xw,bQ,hop,ZY,ge_iff_le,Vr,ae2,PL,bn (show a.text.length+b.text.length<=9223372036854775807 by omega),aT]
def OT{α:Type}:List (List α)->Nat
 |[]=>0
 |x::l=>x.length+OT l
def akL{α:Type}:∀(L:List (List α)) (j:Nat),(xM L j).length<=OT L
 |[],j=>by simp[xM,OT]
 |x::l,0=>by simp[xM,OT]
 |x::l,j+1=>by have:=akL l j;simp only[xM,List.getElem?_cons_succ,OT] at this⊢;omega
def SB:∀(L:List (List Tk)) (b:Bool),(BH b L).length<=OT L+L.length
 |[],b=>by simp[BH,OT]
 |x::l,b=>by have:=SB l false;cases b<;>simp only[BH,OT,aT,cu,qO,ng]<;>omega
def arn{α:Type}:∀(L:List (List α)),(xM L 0).length+((xM L 1).length+(xM L 2).length)<=OT L
 |[]=>by simp[xM,OT]
 |[x]=>by simp[xM,OT]
 |[x,y]=>by simp[xM,OT]
 |x::y::z::l=>by simp[xM,OT]
def Dc{α:Type}{a b:List α}{N:Nat}(c:Bool)(ha:a.length<=N)(hb:b.length<=N):(bif c then a else b).length<=N:=by cases c<;>assumption
def apg(k op:Int)(n:Nat)(x:aA)(L:List (List Tk)):(Dj k op n x L).length<=OT L+L.length+4:=by
 have h1:=SB L true;have h2:=akL L 0;have h3:=arn L;have h4:(bif Nat.blt 1 n then tok 32::(BH true L++[tok 33]) else xM L 0:List Tk).length<=OT L+L.length+2:=Dc _ (by simp only[ng,qO,zo];omega) (by omega);have h5:(bif op==99 then[] else[tok op]:List Tk).length<=1:=Dc _ (by simp) (by simp);unfold Dj;refine Dc _ ?_ (Dc _ ?_ (Dc _ ?_ (Dc _ ?_ (Dc _ ?_ (Dc _ ?_ (Dc _ ?_ (Dc _ ?_ (Dc _ ?_ (Dc _ ?_ (Dc _ ?_ (Dc _ ?_ ?_)))))))))))
 all_goals(simp only[ng,qO,zo];omega)
def EP(k op:Int)(n:Nat)(p:Ps):∀(ts:List Tn) (j:Nat),(gW k op n p ts j).length=ts.length
 |[],j=>by rw[gW];rfl
 |t::ts,j=>by rw[gW,ng,EP k op n p ts (j+1),ng]
def qM(k op:Int)(n:Nat)(p:Ps)(j:Nat)(u:Tn):List Tk:=bif ni k j||fits u.kind u.op (bZ k op n j p) then rM u (bZ k op n j p) else tok 32::(rM u .top++[tok 33])
def adL(k op:Int)(n:Nat)(p:Ps):∀{ts:List Tn} {i j:Nat} {u:Tn},ts[j]? =some u->(gW k op n p ts i)[j]? =some (qM k op n p (i+j) u)
 |[],_,_,_,h=>by simp at h
 |t::ts,i,0,u,h=>by cases h;rw[gW,List.getElem?_cons_zero];rfl
 |t::ts,i,j+1,u,h=>by rw[List.getElem?_cons_succ] at h;rw[gW,List.getElem?_cons_succ,adL k op n p h,show i+1+j=i+(j+1) by omega]
def I5{k op:Int}{n:Nat}{p:Ps}{j:Nat}{u:Tn}(h:∀q,(rM u q).length+4<=8 * u.size):(qM k op n p j u).length+2<=8 * u.size:=by
 unfold qM;cases(ni k j||fits u.kind u.op (bZ k op n j p)) with
 |true=>have:=h (bZ k op n j p);rw[aT];omega
 |false=>have:=h .top;simp only[cu,ng,qO,zo];omega
def Tq{k op:Int}{n:Nat}{p:Ps}:∀{ts:List Tn} {j:Nat},(∀u,u∈ts->∀q,(rM u q).length+4<=8 * u.size)->OT (gW k op n p ts j)+2 * ts.length<=8 * sizes ts
 |[],j,_=>by rw[gW,OT,sizes];simp
 |t::ts,j,h=>by
  have h1:=I5 (k:=k) (op:=op) (n:=n) (p:=p) (j:=j) (h t zmf);have h2:=Tq (k:=k) (op:=op) (n:=n) (p:=p) (ts:=ts) (j:=j+1) λu hu=>h u (zmm _ hu)
  unfold qM at h1;rw[gW,OT,sizes,ng];omega
def nM(t:Tn):∀q,(rM t q).length+4<=8 * t.size:=by refine Tn.ind (P:=λt=>∀q,(rM t q).length+4<=8 * t.size) ?_ t;intro k op x y ks ih q;have h1:=apg k op ks.length x (gW k op ks.length q ks 0);have h2:=Tq (k:=k) (op:=op) (n:=ks.length) (p:=q) (ts:=ks) (j:=0) ih;rw[EP] at h1;rw[rM,Tn.size];omega
def adM(t:Tn)(q:Ps):(Ul t q).length+2<=8 * t.size:=by
 have h1:=nM t q;have h2:=nM t .top;unfold Ul;cases fits t.kind t.op q with
 |true=>rw[aT];omega
 |false=>simp only[cu,ng,qO,zo];omega
@[simp] theorem bM(l:List Tk):ay (jJ l)=true:=by simp only[ay,jJ,List.all_map,List.all_eq_true];intro x _;rfl
def kJ(a b:List Tk):jJ (a++b)=jJ a++jJ b:=by simp[jJ]
def E5(a toks:List Tk)(sp:au)(f:Bool)(hs:ay sp=true)(hl:toks.length+a.length<=1000000000):M.aP (jJ a) (jJ toks) sp f=some (jJ (toks++a),sp,f):=by simp only[M.aP,M.Am,fB,<-kJ,bM,hs,aT];rw[bn (by omega),aT,bn (by omega),aT]
def iota(n:Nat):List Int:=(List.range n).map fun(i:Nat)=>((i:Nat):Int)
def KT(n:Nat):(iota n).length=n:=by simp[iota]
def al3(n:Nat):iota (n+1)=iota n++[(n:Int)]:=by simp[iota,List.range_succ]
def Z4(k op:Int)(x y:aA)(rows:au)(h:rows.length<=1048576):M.iW k op x y rows=some (k,op,x,y,encI (iota rows.length)):=by
 obtain⟨n,hn⟩:∃n,n=rows.length:=⟨_,rfl⟩
 simp only[M.iW,M.EK];rw[<-hn] at h⊢;have hloop:=fF (b:=M.oL)
  (t:=if n=0 then .inl ((n:Int),0,0,0,[],[],k,op,x,y) else .inr ((n:Int),(n:Int),0,0,[],[],k,op,x,y,encI (iota n)))
  (λj=>if j=0 then .inl ((n:Int),0,0,0,[],[],k,op,x,y) else .inr ((n:Int),(j:Int),0,0,[],[],k,op,x,y,encI (iota j))) n
  (by
   intro j hj;rw[if_neg (show¬j+1=0 by omega),al3]
   by_cases h0:j=0
   ·subst h0;rw[if_pos rfl];simp only[lK,M.oL,M.l9];rw[zdt (by omega),aT];rfl
   ·rw[if_neg h0];simp only[lK,M.oL,M.l9,aU,KT,LJ];rw[zdt (by omega),aT,bn (by omega),aT,bn (by omega),aT,aC (by omega) (by omega)];simp[encI])
  (by
   by_cases h0:n=0
   ·simp only[if_pos h0];simp only[lK,M.oL,M.l9];rw[qN (by omega),cu]
   ·simp only[if_neg h0];simp only[lK,M.oL,M.l9];rw[qN (by omega),cu]) 0 (Nat.zero_le _)
 rw[if_pos rfl] at hloop;rw[M.CP,hloop,ah]
 by_cases h0:n=0
 ·rw[if_pos h0,h0];rfl
 ·rw[if_neg h0];simp only[qR,letE,Bh,aT]
def Wr(toks:List Tk)(sp:au)(N:Nat)(out:List Tk)(r:Option (au×au×Bool)):Prop:=
 ∃sp',r=some (jJ (toks++out),sp',false)∧ay sp'=true∧sp'.length<=sp.length+N
def PT(u:Tn):Prop:=∀(w:Bool) (f:Nat) (p:Ps) (toks:List Tk) (sp:au),5 * u.size<=f->jX p=true->ay sp=true->toks.length+16 * u.size<=900000000->sp.length+u.size<=900000000->u.size<=1048576->
 Wr toks sp u.size (rM u p) (M.oP f u.kind u.op u.text u.other (gZ w u.kids) p.level p.kM p.oV p.oW p.jU (jJ toks) sp false)
def akM{u:Tn}(h:u.size<=1048576)(w:Bool):(gZ w u.kids).length<=1048576:=by have h1:=u.vK;have h2:=lW u.kids;rw[iY];omega
def tH(k:Int):([[D.int .i64 k,D.str (spell k),D.int .i64 0]]:au)=jJ [tok k]:=rfl
def awf{u:Tn}(hP:PT u){w:Bool}{f:Nat}{p:Ps}{toks:List Tk}{sp:au}(hf:5 * u.size+1<=f)(hp:jX p=true)(hs:ay sp=true)(ht:toks.length+16 * u.size+1<=900000000)(hl:sp.length+u.size<=900000000)(hu:u.size<=1048576):
  Wr toks sp u.size (Ul u p) (M.sN f u.kind u.op u.text u.other (gZ w u.kids) p.level p.kM p.oV p.oW p.jU (jJ toks) sp false):=by
 obtain⟨g,rfl⟩:∃g,f=g+1:=⟨f - 1,by omega⟩
 have hz:=u.size_pos;have hb:=nM u .top;rw[M.TJ];simp only[M.oN,Z4 u.kind u.op u.text u.other _ (akM hu w),ah,(ZW u.kind u.op u.text u.other _ p).1,cu,Bool.not_not,Ul];cases fits u.kind u.op p with
 |true=>obtain⟨sp',h1,h2,h3⟩:=hP w g p toks sp (by omega) hp hs (by omega) hl hu;simp only[aT,bM,hs,h1,ah,h2];exact⟨sp',rfl,h2,h3⟩
 |false=>obtain⟨sp',h1,h2,h3⟩:=hP w g .top (toks++[tok 32]) sp (by omega) rfl hs (by rw[qO,LJ];omega) hl hu;have e1:=(jY 32 (by constructor<;>decide)).1;have e2:=(jY 33 (by constructor<;>decide)).1;have p1:=E5 [tok 32] toks sp false hs (by simp;omega);have p2:=E5 [tok 33] (toks++[tok 32]++rM u .top) sp' false h2 (by simp only[qO,LJ];omega);simp only[Ps.top] at h1 p2;simp only[cu,e1,e2,JA.1,ah,tH,bM,hs,aT,p1,h1,h2,p2];refine⟨sp', ?_,h2,h3⟩;simp[Ps.top]
def PN(w:Bool)(u:Tn):fQ .i64 (u.row w) 0=some u.kind∧fQ .i64 (u.row w) 1=some u.op∧cStr (u.row w) 2=some u.text∧cStr (u.row w) 3=some u.other∧SK 5 (u.row w) 4=some (gZ w u.kids):=by cases u;exact⟨rfl,rfl,rfl,rfl,rfl⟩
def PO(w:Bool){ks:List Tn}{j:Nat}{u:Tn}(hj:ks[j]? =some u):idx (gZ w ks) (j:Int)=some (u.row w):=by rw[bU,MJ];simp[hj]
section
variable {k op:Int} {x y:aA} {ks:List Tn} (ih:∀u,u∈ks->PT u)
include ih
theorem KU{w:Bool}{f:Nat}{p:Ps}{toks:List Tk}{sp:au}{j:Nat}{u:Tn}(hj:ks[j]? =some u)(hf:5 * u.size+2<=f)(hp:jX p=true)(hlv:lvl k op≠0)(hs:ay sp=true)(ht:toks.length+16 * u.size+1<=900000000)(hl:sp.length+u.size<=900000000)(hu:sizes ks<=1048575):
  Wr toks sp u.size (qM k op ks.length p j u) (M.jF f k op x y (gZ w ks) (j:Int) p.level p.kM p.oV p.oW p.jU (jJ toks) sp false):=by
 obtain⟨g,rfl⟩:∃g,f=g+1:=⟨f - 1,by omega⟩
 have hkl:=lW ks;have hju:=(G9.1 hj).1;have hus:=kP (Gy hj);have hg:=PO w hj;obtain⟨c0,c1,c2,c3,c4⟩:=PN w u;have hn:=Z4 k op x y (gZ w ks) (by rw[iY];omega);rw[iY] at hn;have hkp:=SA k op x y (encI (iota ks.length)) j p (by rw[aU,KT];omega);rw[aU,KT] at hkp;have hq:=qo (n:=ks.length) (j:=j) hp hju hlv;have e1:=ih u (Gy hj);rw[M.Vg];simp only[lK,M.qm,hn,ah,hg,c0,c1,c2,c3,c4,hkp,Ps.yu,Y8,bM,hs,aT,qM];cases htg:ni k j with
 |true=>obtain⟨sp',h1,h2,h3⟩:=e1 w g (bZ k op ks.length j p) toks sp (by omega) hq hs (by omega) hl (by omega);simp only[aT,Bool.true_or,h1,ah,bM,h2];exact⟨sp',rfl,h2,h3⟩
 |false=>obtain⟨sp',h1,h2,h3⟩:=awf e1 (w:=w) (f:=g) (p:=bZ k op ks.length j p) (toks:=toks) (sp:=sp) (by omega) hq hs ht hl (by omega);unfold Ul at h1;simp only[cu,Bool.false_or,h1,ah,bM,h2,aT];exact⟨sp',rfl,h2,h3⟩
theorem X9{w:Bool}{f:Nat}{p:Ps}{shut:Int}(hf:5 * sizes ks+2<=f)(hp:jX p=true)(hlv:lvl k op≠0)(hu:sizes ks<=1048575):∀(d j:Nat) (toks:List Tk) (sp:au),j+d=ks.length->ay sp=true->toks.length+16 * sizes (ks.drop j)+2<=900000000->sp.length+sizes (ks.drop j)<=900000000->
  ∃sp',M.jB (M.jF f) shut (ks.length:Int) k op x y (gZ w ks) p.level p.kM p.oV p.oW p.jU ((j:Int),false,jJ toks,sp)=some ((ks.length:Int),false,jJ (toks++BH (Nat.beq j 0) ((gW k op ks.length p ks 0).drop j)),sp')∧ay sp'=true∧sp'.length<=sp.length+sizes (ks.drop j)
 |0,j,toks,sp,hj,hs,ht,hl=>by
  have hjn:j=ks.length:=by omega
  refine⟨sp, ?_,hs,by omega⟩;have hd:(gW k op ks.length p ks 0).drop j=[]:=List.drop_eq_nil_iff.2 (by rw[EP];omega);rw[hd,BH,List.append_nil,M.jB];apply dP;simp only[M.lV,M.lU];rw[qN (by omega),cu,hjn]
 |d+1,j,toks,sp,hj,hs,ht,hl=>by
  have hlt:j<ks.length:=by omega
  have hkl:=lW ks;obtain⟨u,hu'⟩:∃u,ks[j]? =some u:=⟨ks[j],by simp[hlt]⟩
  have hd1:ks.drop j=u::ks.drop (j+1):=by rw[List.drop_eq_getElem_cons hlt];rw[List.getElem?_eq_getElem hlt] at hu';rw[Option.some.inj hu']
  have hus:=kP (Gy hu');have hz:=u.size_pos;have hb:=I5 (k:=k) (op:=op) (n:=ks.length) (p:=p) (j:=j) (nM u);have hdl:j<(gW k op ks.length p ks 0).length:=by rw[EP];exact hlt
  have hkd:(gW k op ks.length p ks 0).drop j=qM k op ks.length p j u::(gW k op ks.length p ks 0).drop (j+1):=by have hg:=adL k op ks.length p (i:=0) hu';rw[Nat.zero_add,List.getElem?_eq_getElem hdl] at hg;rw[List.drop_eq_getElem_cons hdl,Option.some.inj hg]
  rw[hd1,sizes] at ht hl⊢;rw[hkd];have hw:i64.wrap ((j:Int)+1)=((j+1:Nat):Int):=by rw[aC (by omega) (by omega)];omega
  by_cases h0:j=0
  ·subst h0;obtain⟨sp1,a1,a2,a3⟩:=KU ih (w:=w) (f:=f) (p:=p) (toks:=toks) (sp:=sp) (x:=x) (y:=y) (op:=op) (k:=k) hu' (by omega) hp hlv hs (by omega) (by omega) hu;obtain⟨sp2,b1,b2,b3⟩:=X9 hf hp hlv hu d (0+1) (toks++qM k op ks.length p 0 u) sp1 (by omega) a2 (by rw[qO];omega) (by omega);have hstep:M.lV (M.jF f) shut (ks.length:Int) k op x y (gZ w ks) p.level p.kM p.oV p.oW p.jU (((0:Nat):Int),false,jJ toks,sp)=some (.inl (((0+1:Nat):Int),false,jJ (toks++qM k op ks.length p 0 u),sp1)):=by simp only[M.lV,M.lU,bM,hs,aT];rw[zdt (by omega),aT,qN (by omega),cu,a1,ah,hw]
   refine⟨sp2, ?_,b2,by omega⟩;rw[M.jB,gQ hstep];rw[M.jB] at b1;have z0:Nat.beq 0 0=true:=rfl;have z1:Nat.beq (0+1) 0=false:=rfl;rw[b1,z0,z1,BH,aT];simp
  ·have e1:=(jY 36 (by constructor<;>decide)).1;have p1:=E5 [tok 36] toks sp false hs (by simp;omega);obtain⟨sp1,a1,a2,a3⟩:=KU ih (w:=w) (f:=f) (p:=p) (toks:=toks++[tok 36]) (sp:=sp) (x:=x) (y:=y) (op:=op) (k:=k) hu' (by omega) hp hlv hs (by rw[qO,LJ];omega) (by omega) hu;obtain⟨sp2,b1,b2,b3⟩:=X9 hf hp hlv hu d (j+1) (toks++[tok 36]++qM k op ks.length p j u) sp1 (by omega) a2 (by rw[qO,qO,LJ];omega) (by omega);have hstep:M.lV (M.jF f) shut (ks.length:Int) k op x y (gZ w ks) p.level p.kM p.oV p.oW p.jU ((j:Int),false,jJ toks,sp)=some (.inl (((j+1:Nat):Int),false,jJ (toks++[tok 36]++qM k op ks.length p j u),sp1)):=by simp only[M.lV,M.lU,e1,ah,tH,bM,hs,aT,p1];rw[zdt (by omega),aT,zdt (by omega),aT,a1,ah,hw]
   refine⟨sp2, ?_,b2,by omega⟩;rw[M.jB,gQ hstep];rw[M.jB] at b1;rw[b1];have hb0:Nat.beq j 0=false:=by cases j with
    |zero=>exact absurd rfl h0
    |succ j=>rfl
   have hb1:Nat.beq (j+1) 0=false:=rfl;rw[hb0,hb1,BH,cu];simp
theorem ae5{w:Bool}{f:Nat}{p:Ps}{toks:List Tk}{sp:au}{open' shut:Int}(ho:I64 open')(hsh:I64 shut)(hf:5 * sizes ks+3<=f)(hp:jX p=true)(hlv:lvl k op≠0)(hs:ay sp=true)(ht:toks.length+16 * sizes ks+3<=900000000)(hl:sp.length+sizes ks<=900000000)(hu:sizes ks<=1048575):
  Wr toks sp (sizes ks) (tok open'::(BH true (gW k op ks.length p ks 0)++[tok shut])) (M.oO f k op x y (gZ w ks) open' shut p.level p.kM p.oV p.oW p.jU (jJ toks) sp false):=by
 obtain⟨g,rfl⟩:∃g,f=g+1:=⟨f - 1,by omega⟩
 have hkl:=lW ks;have e1:=(jY open' ho).1;have e2:=(jY shut hsh).1;have p1:=E5 [tok open'] toks sp false hs (by simp;omega);obtain⟨sp1,a1,a2,a3⟩:=X9 ih (x:=x) (y:=y) (op:=op) (k:=k) (w:=w) (f:=g) (p:=p) (shut:=shut) (by omega) hp hlv hu ks.length 0 (toks++[tok open']) sp (by omega) hs (by rw[qO,LJ,List.drop_zero];omega) (by rw[List.drop_zero];omega);rw[List.drop_zero] at a3;rw[List.drop_zero,rG] at a1;have hlen:(BH true (gW k op ks.length p ks 0)).length<=9 * sizes ks:=by
  have h1:=SB (gW k op ks.length p ks 0) true;have h2:=Tq (k:=k) (op:=op) (n:=ks.length) (p:=p) (ts:=ks) (j:=0) λu _=>nM u
  rw[EP] at h1;omega
 have p2:=E5 [tok shut] (toks++[tok open']++BH (Nat.beq 0 0) (gW k op ks.length p ks 0)) sp1 false a2 (by simp only[qO,LJ];have:Nat.beq 0 0=true:=rfl;rw[this];omega);rw[M.TG];simp only[M.oM,e1,e2,ah,tH,bM,hs,aT,p1,iY,a1,a2,p2];refine⟨sp1, ?_,a2,a3⟩;simp
end
def Lu(k op:Int)(n:Nat)(p:Ps)(u:Tn):gW k op n p [u] 0=[qM k op n p 0 u]:=by rw[gW,gW];rfl
def SC(k op:Int)(n:Nat)(p:Ps)(u v:Tn):gW k op n p [u,v] 0=[qM k op n p 0 u,qM k op n p 1 v]:=by rw[gW,gW,gW];rfl
def aph(k op:Int)(n:Nat)(p:Ps)(u v z:Tn):gW k op n p [u,v,z] 0=[qM k op n p 0 u,qM k op n p 1 v,qM k op n p 2 z]:=by rw[gW,gW,gW,gW];rfl
def Z5(u:Tn):sizes [u]=u.size:=by simp[sizes]
def sz2(u v:Tn):sizes [u,v]=u.size+v.size:=by simp[sizes]
def sz3(u v z:Tn):sizes [u,v,z]=u.size+(v.size+z.size):=by simp[sizes]
def QG{α:Type}{l:List α}(h:l.length=2):∃a b,l=[a,b]:=by
 match l,h with
 |[a,b],_=>exact⟨a,b,rfl⟩
def WZ{α:Type}{l:List α}(h:l.length=3):∃a b c,l=[a,b,c]:=by
 match l,h with
 |[a,b,c],_=>exact⟨a,b,c,rfl⟩
def Z7{op:Int}(h:vG op≠0):I64 op:=by
 by_cases hr:0<=op∧op<=99
 ·constructor<;>omega
 ·exfalso;apply h;have e:∀z:Int,0<=z->z<=99->(op==z)=false:=λz h1 h2=>by rw[OV];omega
  simp only[vG,e 44 (by decide) (by decide),e 45 (by decide) (by decide),e 67 (by decide) (by decide),e 46 (by decide) (by decide),e 63 (by decide) (by decide),e 48 (by decide) (by decide),e 47 (by decide) (by decide),e 50 (by decide) (by decide),e 62 (by decide) (by decide),e 49 (by decide) (by decide),e 99 (by decide) (by decide),e 55 (by decide) (by decide),e 56 (by decide) (by decide),e 57 (by decide) (by decide),e 58 (by decide) (by decide),e 59 (by decide) (by decide),e 60 (by decide) (by decide),Bool.or_false,cu]
def W9:((1:Nat):Int)=1:=rfl
def aro:((2:Nat):Int)=2:=rfl
section
variable {k op:Int} {x y:aA} {ks:List Tn} (ih:∀u,u∈ks->PT u)
include ih
theorem awg{w:Bool}{f:Nat}{p:Ps}{toks:List Tk}{sp:au}(hc:Cnt k op y ks.length)(hk:k=6∨k=9∨k=10∨k=11∨k=12∨k=13∨k=14∨k=15)(hf:5 * sizes ks+4<=f)(hp:jX p=true)(hs:ay sp=true)(ht:toks.length+16 * sizes ks+3<=900000000)(hl:sp.length+sizes ks<=900000000)(hu:sizes ks<=1048575):
  Wr toks sp (sizes ks) (Dj k op ks.length x (gW k op ks.length p ks 0)) (M.nJ f k op x y (gZ w ks) p.level p.kM p.oV p.oW p.jU (jJ toks) sp false):=by
 obtain⟨g,rfl⟩:∃g,f=g+1:=⟨f - 1,by omega⟩
 have hlv:lvl k op≠0:=by have:=KE (y:=y) (n:=ks.length) (k:=k) (op:=op) (by omega) hc;omega
 rw[M.PE];rcases hk with rfl|rfl|rfl|rfl|rfl|rfl|rfl|rfl
 ·obtain⟨u,rfl⟩:=ZF.1 (hc.one (by omega));rw[Z5] at *;have e1:=(jY 68 (by constructor<;>decide)).1;have p1:=E5 [tok 68] toks sp false hs (by simp;omega);obtain⟨sp1,a1,a2,a3⟩:=KU ih (w:=w) (f:=g) (p:=p) (toks:=toks++[tok 68]) (sp:=sp) (x:=x) (y:=y) (op:=op) (k:=6) (j:=0) (u:=u) rfl (by omega) hp hlv hs (by simp only[qO,ng,zo,Nat.zero_add] at *;omega) hl (by rw[Z5];exact hu);rw[rG] at a1;simp only[M.cO,Int.reduceBEq,aT,cu,e1,ah,tH,bM,hs,p1,a1,a2];refine⟨sp1, ?_,a2,a3⟩;rw[Lu];simp[Dj,xM]
 ·obtain⟨u,rfl⟩:=ZF.1 (hc.one (by omega));rw[Z5] at *;have e1:=(jY op (by rcases hc.stp (by omega) with rfl|rfl<;>constructor<;>decide)).1;have p1:=E5 [tok op] toks sp false hs (by simp;omega);obtain⟨sp1,a1,a2,a3⟩:=KU ih (w:=w) (f:=g) (p:=p) (toks:=toks++[tok op]) (sp:=sp) (x:=x) (y:=y) (op:=op) (k:=9) (j:=0) (u:=u) rfl (by omega) hp hlv hs (by simp only[qO,ng,zo,Nat.zero_add] at *;omega) hl (by rw[Z5];exact hu);rw[rG] at a1;simp only[M.cO,Int.reduceBEq,aT,cu,e1,ah,tH,bM,hs,p1,a1,a2];refine⟨sp1, ?_,a2,a3⟩;rw[Lu];simp[Dj,xM]
 ·obtain⟨u,rfl⟩:=ZF.1 (hc.one (by omega));rw[Z5] at *;have hb:=I5 (k:=10) (op:=op) (n:=[u].length) (p:=p) (j:=0) (nM u);have e1:=(jY op (by rcases hc.stp (by omega) with rfl|rfl<;>constructor<;>decide)).1;obtain⟨sp1,a1,a2,a3⟩:=KU ih (w:=w) (f:=g) (p:=p) (toks:=toks) (sp:=sp) (x:=x) (y:=y) (op:=op) (k:=10) (j:=0) (u:=u) rfl (by omega) hp hlv hs (by omega) hl (by rw[Z5];exact hu);rw[rG] at a1;have p1:=E5 [tok op] (toks++qM 10 op [u].length p 0 u) sp1 false a2 (by simp only[qO,ng,zo,Nat.zero_add] at *;omega);simp only[M.cO,Int.reduceBEq,aT,cu,e1,ah,tH,bM,hs,p1,a1,a2];refine⟨sp1, ?_,a2,a3⟩;rw[Lu];simp[Dj,xM]
 ·obtain⟨u,rfl⟩:=ZF.1 (hc.one (by omega));rw[Z5] at *;have e1:=(jY op (by rcases hc.una (by omega) with rfl|rfl|rfl<;>constructor<;>decide)).1;have p1:=E5 [tok op] toks sp false hs (by simp;omega);obtain⟨sp1,a1,a2,a3⟩:=KU ih (w:=w) (f:=g) (p:=p) (toks:=toks++[tok op]) (sp:=sp) (x:=x) (y:=y) (op:=op) (k:=11) (j:=0) (u:=u) rfl (by omega) hp hlv hs (by simp only[qO,ng,zo,Nat.zero_add] at *;omega) hl (by rw[Z5];exact hu);rw[rG] at a1;simp only[M.cO,Int.reduceBEq,aT,cu,e1,ah,tH,bM,hs,p1,a1,a2];refine⟨sp1, ?_,a2,a3⟩;rw[Lu];simp[Dj,xM]
 ·obtain⟨u,v,rfl⟩:=QG (hc.two (by omega));rw[sz2] at *;have hb:=I5 (k:=12) (op:=op) (n:=[u,v].length) (p:=p) (j:=0) (nM u);obtain⟨sp1,a1,a2,a3⟩:=KU ih (w:=w) (f:=g) (p:=p) (toks:=toks) (sp:=sp) (x:=x) (y:=y) (op:=op) (k:=12) (j:=0) (u:=u) rfl (by omega) hp hlv hs (by omega) (by omega) (by rw[sz2];exact hu);rw[rG] at a1
  by_cases h99:op=99
  ·have e99:(op !=99)=false:=by simp[h99]
   obtain⟨sp2,b1,b2,b3⟩:=KU ih (w:=w) (f:=g) (p:=p) (toks:=toks++qM 12 op [u,v].length p 0 u) (sp:=sp1) (x:=x) (y:=y) (op:=op) (k:=12) (j:=1) (u:=v) rfl (by omega) hp hlv a2 (by simp only[qO,ng,zo,Nat.zero_add] at *;omega) (by omega) (by rw[sz2];exact hu);rw[W9] at b1;simp only[M.cO,Int.reduceBEq,aT,cu,e99,ah,tH,bM,hs,a1,a2,b1,b2];refine⟨sp2, ?_,b2,by omega⟩;rw[SC];simp[Dj,xM,h99]
  ·have e99:(op !=99)=true:=by simpa using h99
   have e98:(op==99)=false:=by simpa using h99
   have e1:=(jY op (Z7 (hc.bin rfl).1)).1;have p1:=E5 [tok op] (toks++qM 12 op [u,v].length p 0 u) sp1 false a2 (by simp only[qO,ng,zo,Nat.zero_add] at *;omega);obtain⟨sp2,b1,b2,b3⟩:=KU ih (w:=w) (f:=g) (p:=p) (toks:=toks++qM 12 op [u,v].length p 0 u++[tok op]) (sp:=sp1) (x:=x) (y:=y) (op:=op) (k:=12) (j:=1) (u:=v) rfl (by omega) hp hlv a2 (by simp only[qO,ng,zo,Nat.zero_add] at *;omega) (by omega) (by rw[sz2];exact hu);rw[W9] at b1;simp only[M.cO,Int.reduceBEq,aT,cu,e99,e1,p1,ah,tH,bM,hs,a1,a2,b1,b2];refine⟨sp2, ?_,b2,by omega⟩;rw[SC];simp[Dj,xM,e98]
 ·have e1:=(jY 24 (by constructor<;>decide)).1;have hr:∀z:aA,([[D.int .i64 24,D.str (spell 24),D.int .i64 0],[D.int .i64 6,D.str z,D.int .i64 0]]:au)=jJ [tok 24,⟨6,z,0⟩]:=λz=>rfl
  cases hm:Nat.blt 1 ks.length with
  |true=>
   obtain⟨sp1,a1,a2,a3⟩:=ae5 ih (w:=w) (f:=g) (p:=p) (toks:=toks) (sp:=sp) (x:=x) (y:=y) (op:=op) (k:=13) (open':=32) (shut:=33) (by constructor<;>decide) (by constructor<;>decide) (by omega) hp hlv hs (by omega) hl hu;have hlen:(BH true (gW 13 op ks.length p ks 0)).length<=9 * sizes ks:=by
    have h1:=SB (gW 13 op ks.length p ks 0) true;have h2:=Tq (k:=13) (op:=op) (n:=ks.length) (p:=p) (ts:=ks) (j:=0) λu _=>nM u
    rw[EP] at h1;omega
   have p1:=E5 [tok 24,⟨6,x,0⟩] (toks++tok 32::(BH true (gW 13 op ks.length p ks 0)++[tok 33])) sp1 false a2 (by simp only[qO,ng,zo,Nat.zero_add] at *;omega);simp only[M.cO,Int.reduceBEq,aT,cu,iY,many,hm,e1,p1,ah,hr,bM,hs,a1,a2];refine⟨sp1, ?_,a2,a3⟩;simp[Dj,hm]
  |false=>
   have h1:ks.length=1:=by
    have h2:=hc.some_ (by omega);have h3:¬1<ks.length:=by rw[<-Nat.blt_eq,hm];simp
    omega
   obtain⟨u,rfl⟩:=ZF.1 h1;rw[Z5] at *;have hb:=I5 (k:=13) (op:=op) (n:=[u].length) (p:=p) (j:=0) (nM u);obtain⟨sp1,a1,a2,a3⟩:=KU ih (w:=w) (f:=g) (p:=p) (toks:=toks) (sp:=sp) (x:=x) (y:=y) (op:=op) (k:=13) (j:=0) (u:=u) rfl (by omega) hp hlv hs (by omega) hl (by rw[Z5];exact hu);rw[rG] at a1;have p1:=E5 [tok 24,⟨6,x,0⟩] (toks++qM 13 op [u].length p 0 u) sp1 false a2 (by simp only[qO,ng,zo,Nat.zero_add] at *;omega);simp only[M.cO,Int.reduceBEq,aT,cu,iY,many,hm,e1,p1,ah,hr,bM,hs,a1,a2];refine⟨sp1, ?_,a2,a3⟩;rw[Lu];simp[Dj,xM,show Nat.blt 1 1=false from rfl]
 ·obtain⟨u,v,z,rfl⟩:=WZ (hc.three rfl);rw[sz3] at *;have hb:=I5 (k:=14) (op:=op) (n:=[u,v,z].length) (p:=p) (j:=0) (nM u);have hb2:=I5 (k:=14) (op:=op) (n:=[u,v,z].length) (p:=p) (j:=1) (nM v);have e1:=(jY 65 (by constructor<;>decide)).1;have e2:=(jY 66 (by constructor<;>decide)).1;obtain⟨sp1,a1,a2,a3⟩:=KU ih (w:=w) (f:=g) (p:=p) (toks:=toks) (sp:=sp) (x:=x) (y:=y) (op:=op) (k:=14) (j:=0) (u:=u) rfl (by omega) hp hlv hs (by omega) (by omega) (by rw[sz3];exact hu);rw[rG] at a1;have p1:=E5 [tok 65] (toks++qM 14 op [u,v,z].length p 0 u) sp1 false a2 (by simp only[qO,ng,zo,Nat.zero_add] at *;omega);obtain⟨sp2,b1,b2,b3⟩:=KU ih (w:=w) (f:=g) (p:=p) (toks:=toks++qM 14 op [u,v,z].length p 0 u++[tok 65]) (sp:=sp1) (x:=x) (y:=y) (op:=op) (k:=14) (j:=1) (u:=v) rfl (by omega) hp hlv a2 (by simp only[qO,ng,zo,Nat.zero_add] at *;omega) (by omega) (by rw[sz3];exact hu);rw[W9] at b1;have p2:=E5 [tok 66] (toks++qM 14 op [u,v,z].length p 0 u++[tok 65]++qM 14 op [u,v,z].length p 1 v) sp2 false b2 (by simp only[qO,ng,zo,Nat.zero_add] at *;omega);obtain⟨sp3,c1,c2,c3⟩:=KU ih (w:=w) (f:=g) (p:=p) (toks:=toks++qM 14 op [u,v,z].length p 0 u++[tok 65]++qM 14 op [u,v,z].length p 1 v++[tok 66]) (sp:=sp2) (x:=x) (y:=y) (op:=op) (k:=14) (j:=2) (u:=z) rfl (by omega) hp hlv b2 (by simp only[qO,ng,zo,Nat.zero_add] at *;omega) (by omega) (by rw[sz3];exact hu);rw[aro] at c1;simp only[M.cO,Int.reduceBEq,aT,cu,e1,e2,p1,p2,ah,tH,bM,hs,a1,a2,b1,b2,c1,c2];refine⟨sp3, ?_,c2,by omega⟩;rw[aph];simp[Dj,xM]
 ·obtain⟨u,v,rfl⟩:=QG (hc.two (by omega));rw[sz2] at *;have hb:=I5 (k:=15) (op:=op) (n:=[u,v].length) (p:=p) (j:=0) (nM u);obtain⟨sp1,a1,a2,a3⟩:=KU ih (w:=w) (f:=g) (p:=p) (toks:=toks) (sp:=sp) (x:=x) (y:=y) (op:=op) (k:=15) (j:=0) (u:=u) rfl (by omega) hp hlv hs (by omega) (by omega) (by rw[sz2];exact hu);rw[rG] at a1
  by_cases h99:op=99
  ·have e99:(op !=99)=false:=by simp[h99]
   obtain⟨sp2,b1,b2,b3⟩:=KU ih (w:=w) (f:=g) (p:=p) (toks:=toks++qM 15 op [u,v].length p 0 u) (sp:=sp1) (x:=x) (y:=y) (op:=op) (k:=15) (j:=1) (u:=v) rfl (by omega) hp hlv a2 (by simp only[qO,ng,zo,Nat.zero_add] at *;omega) (by omega) (by rw[sz2];exact hu);rw[W9] at b1;simp only[M.cO,Int.reduceBEq,aT,cu,e99,ah,tH,bM,hs,a1,a2,b1,b2];refine⟨sp2, ?_,b2,by omega⟩;rw[SC];simp[Dj,xM,h99]
  ·have e99:(op !=99)=true:=by simpa using h99
   have e98:(op==99)=false:=by simpa using h99
   have e1:=(jY op (by rcases hc.asg rfl with rfl|h<;>constructor<;>omega)).1;have p1:=E5 [tok op] (toks++qM 15 op [u,v].length p 0 u) sp1 false a2 (by simp only[qO,ng,zo,Nat.zero_add] at *;omega);obtain⟨sp2,b1,b2,b3⟩:=KU ih (w:=w) (f:=g) (p:=p) (toks:=toks++qM 15 op [u,v].length p 0 u++[tok op]) (sp:=sp1) (x:=x) (y:=y) (op:=op) (k:=15) (j:=1) (u:=v) rfl (by omega) hp hlv a2 (by simp only[qO,ng,zo,Nat.zero_add] at *;omega) (by omega) (by rw[sz2];exact hu);rw[W9] at b1;simp only[M.cO,Int.reduceBEq,aT,cu,e99,e1,p1,ah,tH,bM,hs,a1,a2,b1,b2];refine⟨sp2, ?_,b2,by omega⟩;rw[SC];simp[Dj,xM,e98]
end
def akN(sp:au)(a b:Int)(hs:ay sp=true):ay (sp++[[D.int .i64 a,D.int .i64 b]])=true:=by simp only[ay,List.all_append,zq] at hs⊢;exact⟨hs,rfl⟩
def awh(t:Tn):Az t->Qw t->PT t:=by
 refine Tn.ind (P:=λt=>Az t->Qw t->PT t) ?_ t;intro k op x y ks ih hok he w f p toks sp hf hp hs ht hl hu;have hc:=I4 hok;have ih':∀u,u∈ks->PT u:=λu hm=>by obtain⟨i,hi⟩:=List.mem_iff_getElem?.1 hm;obtain⟨h1,h2⟩:=Sj hok he hi;exact ih u hm h2 h1
 have he':1<=k∧k<=15:=he;have hlv:lvl k op≠0:=by have:=KE he' hc;omega
 rw[Tn.size] at hf ht hl hu⊢;obtain⟨g,rfl⟩:∃g,f=g+1:=⟨f - 1,by omega⟩
 simp only[Tn.kind,Tn.op,Tn.text,Tn.other,Tn.kids];rw[M.TI,rM];have done:∀(out:List Tk) (sp':au) (c:Option (au×au×Bool)),ay sp'=true->sp'.length<=sp.length+sizes ks->c=some (jJ (toks++out),sp'++[[D.int .i64 (toks.length:Int),D.int .i64 ((toks++out).length:Int)]],false)->Wr toks sp (sizes ks+1) out c:=by intro out sp' c h1 h2 h3;exact⟨_,h3,akN _ _ _ h1,by rw[qO,LJ];omega⟩
 have leaf:∀(z:Int) (h:Dj k op ks.length x (gW k op ks.length p ks 0)=([⟨z,x,0⟩]:List Tk)),Wr toks sp (sizes ks+1) (Dj k op ks.length x (gW k op ks.length p ks 0)) (some (jJ (toks++([⟨z,x,0⟩]:List Tk)),sp++[[D.int .i64 (toks.length:Int),D.int .i64 ((toks++([⟨z,x,0⟩]:List Tk)).length:Int)]],false)):=by intro z h;rw[h];exact done _ sp _ hs (by omega) rfl
 have hrow:∀z:Int,([[D.int .i64 z,D.str x,D.int .i64 0]]:au)=jJ [⟨z,x,0⟩]:=λz=>rfl
 have hput:∀z:Int,M.aP (jJ [⟨z,x,0⟩]) (jJ toks) sp false=some (jJ (toks++[⟨z,x,0⟩]),sp,false):=λz=>E5 [⟨z,x,0⟩] toks sp false hs (by simp;omega)
 have sps:∀(s:au) (a b:Int),ay s=true->ay (s++[[D.int .i64 a,D.int .i64 b]])=true:=akN;have hk:k=1∨k=2∨k=3∨k=4∨k=5∨k=7∨k=8∨(k=6∨k=9∨k=10∨k=11∨k=12∨k=13∨k=14∨k=15):=by omega
 rcases hk with rfl|rfl|rfl|rfl|rfl|rfl|rfl|hk
 ·simp only[lK,M.fG,Int.reduceBEq,aT,cu,hrow,hput,ah,bM,hs,fB,LJ,sps sp _ _ hs];rw[bn (by omega),aT,bn (by omega),aT];exact leaf 6 rfl
 ·simp only[lK,M.fG,Int.reduceBEq,aT,cu,hrow,hput,ah,bM,hs,fB,LJ,sps sp _ _ hs];rw[bn (by omega),aT,bn (by omega),aT];exact leaf 3 rfl
 ·simp only[lK,M.fG,Int.reduceBEq,aT,cu,hrow,hput,ah,bM,hs,fB,LJ,sps sp _ _ hs];rw[bn (by omega),aT,bn (by omega),aT];exact leaf 4 rfl
 ·simp only[lK,M.fG,Int.reduceBEq,aT,cu,hrow,hput,ah,bM,hs,fB,LJ,sps sp _ _ hs];rw[bn (by omega),aT,bn (by omega),aT];exact leaf 5 rfl
 ·obtain⟨sp1,a1,a2,a3⟩:=ae5 ih' (w:=w) (f:=g) (p:=p) (toks:=toks++[⟨6,x,0⟩]) (sp:=sp) (x:=x) (y:=y) (op:=op) (k:=5) (open':=34) (shut:=35) (by constructor<;>decide) (by constructor<;>decide) (by omega) hp hlv hs (by rw[qO,LJ];omega) (by omega) (by omega);simp only[lK,M.fG,Int.reduceBEq,aT,cu,hrow,hput,ah,bM,hs,a1,a2,fB,LJ,sps sp1 _ _ a2];rw[bn (by omega),aT,bn (by omega),aT];have ha:Dj 5 op ks.length x (gW 5 op ks.length p ks 0)=⟨6,x,0⟩::tok 34::(BH true (gW 5 op ks.length p ks 0)++[tok 35]):=rfl;rw[ha];refine done _ sp1 _ a2 a3 ?_;simp
 ·obtain⟨sp1,a1,a2,a3⟩:=ae5 ih' (w:=w) (f:=g) (p:=p) (toks:=toks++[⟨7,x,0⟩]) (sp:=sp) (x:=x) (y:=y) (op:=op) (k:=7) (open':=32) (shut:=33) (by constructor<;>decide) (by constructor<;>decide) (by omega) hp hlv hs (by rw[qO,LJ];omega) (by omega) (by omega);simp only[lK,M.fG,Int.reduceBEq,aT,cu,hrow,hput,ah,bM,hs,a1,a2,fB,LJ,sps sp1 _ _ a2];rw[bn (by omega),aT,bn (by omega),aT];have ha:Dj 7 op ks.length x (gW 7 op ks.length p ks 0)=⟨7,x,0⟩::tok 32::(BH true (gW 7 op ks.length p ks 0)++[tok 33]):=rfl;rw[ha];refine done _ sp1 _ a2 a3 ?_;simp
 ·obtain⟨sp1,a1,a2,a3⟩:=ae5 ih' (w:=w) (f:=g) (p:=p) (toks:=toks++[⟨8,x,0⟩]) (sp:=sp) (x:=x) (y:=y) (op:=op) (k:=8) (open':=32) (shut:=33) (by constructor<;>decide) (by constructor<;>decide) (by omega) hp hlv hs (by rw[qO,LJ];omega) (by omega) (by omega);simp only[lK,M.fG,Int.reduceBEq,aT,cu,hrow,hput,ah,bM,hs,a1,a2,fB,LJ,sps sp1 _ _ a2];rw[bn (by omega),aT,bn (by omega),aT];have ha:Dj 8 op ks.length x (gW 8 op ks.length p ks 0)=⟨8,x,0⟩::tok 32::(BH true (gW 8 op ks.length p ks 0)++[tok 33]):=rfl;rw[ha];refine done _ sp1 _ a2 a3 ?_;simp
 ·obtain⟨sp1,a1,a2,a3⟩:=awg ih' (w:=w) (f:=g) (p:=p) (toks:=toks) (sp:=sp) (x:=x) (y:=y) (op:=op) (k:=k) hc hk (by omega) hp hs (by omega) (by omega) (by omega);have n1:(k==1)=false:=by rw[OV];omega
  have n2:(k==2)=false:=by rw[OV];omega
  have n3:(k==3)=false:=by rw[OV];omega
  have n4:(k==4)=false:=by rw[OV];omega
  have n5:(k==5)=false:=by rw[OV];omega
  have n7:(k==7)=false:=by rw[OV];omega
  have n8:(k==8)=false:=by rw[OV];omega
  simp only[lK,M.fG,n1,n2,n3,n4,n5,n7,n8,aT,cu,ah,bM,hs,a1,a2,fB,LJ,sps sp1 _ _ a2];rw[bn (by omega),aT,bn (by omega),aT];exact done _ sp1 _ a2 a3 rfl
end Go.Proofs.YtbgadfelmhoheaaGreatDoor
