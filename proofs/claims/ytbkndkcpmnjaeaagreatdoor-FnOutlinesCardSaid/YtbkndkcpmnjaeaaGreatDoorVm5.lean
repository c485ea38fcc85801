import Derived.Test.YtbkndkcpmnjaeaaGreatDoorVm4
import Derived.ChangeShapes
import Derived.ChangeOld
import Derived.Carry
import Derived.WideShapes
import Derived.ProofKit
import Derived.Handed
import Derived.LaidLaws
import Derived.LaidHandle
import Derived.Shelf.Vars
import Derived.OpenShut
import Derived.ChangeArms
import Derived.LaidMore
set_option linter.defProp false
set_option linter.unusedVariables false
set_option linter.unusedSimpArgs false
namespace Go.Vm
open Go
open Go.IntKind (i64)
def it{α:Type}(f:α->α):Nat->α->α
 |0,x=>x
 |n+1,x=>it f n (f x)
def amg{α:Type}(f:α->α)(x:α):it f 0 x=x:=rfl
def acw{α:Type}(f:α->α)(n:Nat)(x:α):it f (n+1) x=it f n (f x):=rfl
def adO{α:Type}(f:α->α):∀(m n:Nat) (x:α),it f (m+n) x=it f n (it f m x)
 |0,n,x=>by rw[Nat.zero_add];rfl
 |m+1,n,x=>by rw[Nat.add_right_comm];exact adO f m n (f x)
def ahB{α:Type}(f:α->α)(n:Nat)(x:α):it f (n+1) x=f (it f n x):=adO f n 1 x
def adP:Nat:=18446744073709551616
def YZ(x:Nat):Nat:=(6364136223846793005 * x+1442695040888963407) % adP
def pwT:List (Nat×Nat):=[(6364136223846793005,1442695040888963407),(7520897724310334953,1876011003808476466),(18108194425815612945,7401132627792533940),(13086856194709077281,6566661184467396264),(10186629832379121217,3646985772805368400),(10828933358287359105,982119659650238624),(4910590176156014849,10607473198416945472),(9908147928152388097,6914523672464851584),(146241703003251713,4689171378020353280),(7321387688379467777,8103286608563669504),(12255457568021647361,7710372194127975424),(9867978473775767553,16043993925053589504),(5088048636545613825,1993901509916512256),(2150478223927705601,13175896319671181312),(9196835419631190017,1993366741509554176),(5957860013156466689,7241871532530761728),(10389140232424652801,9829074100562493440),(13023643825678581761,7211655632440131584),(288945459443007489,14014807304630960128),(13413133364217511937,15586959662575517696),(8991946233350193153,5614651135149211648),(1986842707489718273,10449321915693662208),(13772462672974970881,17778722412968280064),(11399802156803424257,4631015078550831104),(13559343778149433345,14683519683525607424),(8604389488178757633,14159509325327892480),(16938562998715285505,4382386631181598720),(14349518013152100353,5251965553014210560),(5928836310318972929,14899444342342025216),(13010594125244792833,10487453482519363584),(12186130195207421953,17516142451218186240),(5925516316705292289,2750482773444657152),(11851032633410584577,5500965546889314304),(5255321193111617537,11001931093778628608),(10510642386223235073,3557118113847705600),(2574540698736918529,7114236227695411200),(5149081397473837057,14228472455390822400),(10298162794947674113,10010200837072093184),(2149581516185796609,1573657600434634752),(4299163032371593217,3147315200869269504),(8598326064743186433,6294630401738539008),(17196652129486372865,12589260803477078016),(15946560185263194113,6731777533244604416),(13446376296816836609,13463555066489208832),(8446008519924121601,8480366059268866048),(16892017039848243201,16960732118537732096),(15337290005986934785,15474720163365912576),(12227835938264317953,12502696253022273536),(6008927802819084289,6558648432334995456),(12017855605638168577,13117296864669990912),(5588967137566785537,7787849655630430208),(11177934275133571073,15575699311260860416),(3909124476557590529,12704654548812169216),(7818248953115181057,6962565023914786816),(15636497906230362113,13925130047829573632),(12826251738751172609,9403516021949595648),(7205759403792793601,360287970189639680),(14411518807585587201,720575940379279360),(10376293541461622785,1441151880758558720),(2305843009213693953,2882303761517117440),(4611686018427387905,5764607523034234880),(9223372036854775809,11529215046068469760),(1,4611686018427387904),(1,9223372036854775808)]
def acy:List (Nat×Nat)->Bool
 |a::l=>(match l with
  |b::_=>Nat.beq b.1 (a.1 * a.1 % adP) && Nat.beq b.2 ((a.1 * a.2+a.2) % adP)
  |[]=>true) && acy l
 |[]=>true
def ai8:Nat->List (Nat×Nat)->Bool
 |p,a::l=>Nat.beq (a.1 %(2 * p)) 1 &&(Nat.beq (a.2 %(2 * p)) p && ai8 (2 * p) l)
 |_,[]=>true
def aqO:acy pwT=true:=by kernel_rfl
def aAK:ai8 1 pwT=true:=by kernel_rfl
def aAL:pwT.length=64:=by kernel_rfl
def aff(M a c x:Nat):(a * ((a * x+c) % M)+c) % M=(a * a % M * x+(a * c+c) % M) % M:=by
 have h1:(a * ((a * x+c) % M)+c) % M=(a * (a * x+c)+c) % M:=by rw[Nat.add_mod,Nat.mul_mod,Nat.mod_mod,<-Nat.mul_mod,<-Nat.add_mod]
 have h2:(a * a % M * x+(a * c+c) % M) % M=(a * a * x+(a * c+c)) % M:=by rw[Nat.add_mod,Nat.mod_mod,Nat.mul_mod,Nat.mod_mod,<-Nat.mul_mod,<-Nat.add_mod]
 rw[h1,h2,Nat.mul_add,Nat.mul_assoc,Nat.add_assoc]
def anD:∀(l:List (Nat×Nat)) (k:Nat) (a:Nat×Nat),acy (a::l)=true->(∀x,it YZ (2 ^ k) x=(a.1 * x+a.2) % adP)->∀(j:Nat) q,(a::l)[j]? =some q->∀x,it YZ (2 ^(k+j)) x=(q.1 * x+q.2) % adP
 |l,k,a,_,h,0,q,hq=>by cases hq;exact h
 |[],k,a,_,h,j+1,q,hq=>by simp at hq
 |b::l,k,a,hs,h,j+1,q,hq=>by
  rw[acy] at hs;simp only[vF] at hs;have h1:=qU hs.1.1;have h2:=qU hs.1.2;have hb:∀x,it YZ (2 ^(k+1)) x=(b.1 * x+b.2) % adP:=by intro x;rw[Nat.pow_succ,Nat.mul_two,adO,h x,h,h1,h2,aff]
  rw[<-Nat.add_assoc,Nat.add_right_comm];exact anD l (k+1) b hs.2 hb j q (by simpa using hq)
def ai9:∀(l:List (Nat×Nat)) (k:Nat),ai8 (2 ^ k) l=true->∀(j:Nat) q,l[j]? =some q->q.1 % 2 ^(k+j+1)=1∧q.2 % 2 ^(k+j+1)=2 ^(k+j)
 |[],k,_,j,q,hq=>by simp at hq
 |a::l,k,h,0,q,hq=>by cases hq;rw[ai8] at h;simp only[vF] at h;rw[Nat.add_zero,Nat.pow_succ,Nat.mul_comm];exact⟨qU h.1,qU h.2.1⟩
 |a::l,k,h,j+1,q,hq=>by
  rw[ai8] at h;simp only[vF] at h;have:=ai9 l (k+1) (by rw[Nat.pow_succ,Nat.mul_comm];exact h.2.2) j q (by simpa using hq)
  rwa [show k+1+j=k+(j+1) by omega] at this
def aqP(a:Nat×Nat)(h:a=(6364136223846793005,1442695040888963407))(x:Nat):it YZ (2 ^ 0) x=(a.1 * x+a.2) % adP:=by rw[h,Nat.pow_zero,it,it,YZ]
def au9:pwT.head? =some (6364136223846793005,1442695040888963407):=by kernel_rfl
def aDG(k:Nat)(hk:k<64):∃q:Nat×Nat,q.1 % 2 ^(k+1)=1∧q.2 % 2 ^(k+1)=2 ^ k∧∀x,it YZ (2 ^ k) x=(q.1 * x+q.2) % adP:=by
 have h1:=aqO;have h2:=aAK;have h3:=aAL;have h4:=au9;generalize pwT=l at h1 h2 h3 h4;cases hq:l[k]? with
 |none=>rw[List.getElem?_eq_none_iff] at hq;omega
 |some q=>
  obtain⟨ha,hc⟩:=ai9 l 0 h2 k q hq;rw[Nat.zero_add] at ha hc;cases l with
  |nil=>simp at h4
  |cons a l=>simp only[List.head?_cons,fF] at h4;have hs:=anD l 0 a h1 (aqP a h4) k q hq;rw[Nat.zero_add] at hs;exact⟨q,ha,hc,hs⟩
def aja:∀(k:Nat),k<=64->∀x,∃t,it YZ t x % 2 ^ k=0
 |0,_,x=>⟨0,Nat.mod_one _⟩
 |k+1,hk,x=>by
  obtain⟨t,ht⟩:=aja k au x;have hm:it YZ t x % 2 ^(k+1)=2 ^ k * (it YZ t x / 2 ^ k % 2):=by rw[Nat.pow_succ,Nat.mod_mul,ht,Nat.zero_add]
  have h2:it YZ t x / 2 ^ k % 2=0∨it YZ t x / 2 ^ k % 2=1:=au;rcases h2 with h2|h2
  ·exact⟨t,by rw[hm,h2,Nat.mul_zero]⟩
  ·rw[h2,Nat.mul_one] at hm;refine⟨t+2 ^ k, ?_⟩;obtain⟨q,ha,hc,hs⟩:=aDG k au;have hd:2 ^(k+1)∣adP:=by
    have:adP=2 ^ 64:=by decide
    rw[this];exact Nat.pow_dvd_pow 2 hk
   rw[adO,hs,Nat.mod_mod_of_dvd _ hd,Nat.add_mod,Nat.mul_mod,ha,hm,hc,Nat.one_mul];have hlt:2 ^ k<2 ^(k+1):=by rw[Nat.pow_succ];have:=Nat.two_pow_pos k;omega
   rw[Nat.mod_eq_of_lt hlt,Nat.pow_succ,Nat.mul_two,Nat.mod_self]
def ZR(h:Int):Int:=i64.wrap (i64.wrap (h * 6364136223846793005)+1442695040888963407)
def amh(h:Int):Nat:=(h % 18446744073709551616).toNat
def aqQ(h:Int): -9223372036854775808<=ZR h∧ZR h<=9223372036854775807:=by unfold ZR;rw[IntKind.wrap_i64,IntKind.wrap_i64];omega
def ajb(z:Int):i64.wrap z % 18446744073709551616=z % 18446744073709551616:=by rw[IntKind.wrap_i64];omega
def ava(a c m h:Int)(hm:0<m):(a * ((h % m).toNat:Int)+c) % m=(h * a+c) % m:=by rw[Int.toNat_of_nonneg (Int.emod_nonneg h au),Int.add_emod,Int.mul_emod,Int.emod_emod_of_dvd h (Int.dvd_refl m),<-Int.mul_emod,<-Int.add_emod,Int.mul_comm]
def aAM(h:Int):amh (ZR h)=YZ (amh h):=by
 have h1:ZR h % 18446744073709551616=(h * 6364136223846793005+1442695040888963407) % 18446744073709551616:=by unfold ZR;rw[ajb,Int.add_emod,ajb,<-Int.add_emod]
 have h2:=ava 6364136223846793005 1442695040888963407 18446744073709551616 h (by decide);unfold amh YZ adP;rw[h1,<-h2];generalize (h % 18446744073709551616).toNat=x;have h3:((6364136223846793005 * (x:Int)+1442695040888963407) % 18446744073709551616)=(((6364136223846793005 * x+1442695040888963407) % 18446744073709551616:Nat):Int):=by rw[Int.natCast_emod,Int.natCast_add,Int.natCast_mul];rfl
 rw[h3,RX]
def aqR:∀(n:Nat) (h:Int),amh (it ZR n h)=it YZ n (amh h)
 |0,_=>by rw[amg,amg]
 |n+1,h=>by rw[acw,acw,aqR n,aAM]
def avb(h:Int):∃t,it ZR t h=0:=by
 obtain⟨t,ht⟩:=aja 64 (Nat.le_refl _) (amh (ZR h));refine⟨t+1, ?_⟩;rw[acw];rw[<-aqR t] at ht;have hr: -9223372036854775808<=it ZR t (ZR h)∧it ZR t (ZR h)<=9223372036854775807:=by
  cases t with
  |zero=>exact aqQ h
  |succ t=>rw[ahB];exact aqQ _
 have e:(2:Nat) ^ 64=18446744073709551616:=by decide
 rw[e] at ht;unfold amh at ht;omega
def ZT(x:Int):Nat:=(BitVec.ofInt 64 x &&& BitVec.ofInt 64 255).toNat
def ami(h:Int):Int:=i64.wrap (↑(BitVec.ofInt 64 (h.fdiv 8589934592) ^^^ BitVec.ofInt 64 (h.fdiv 35184372088832)).toNat:Int)
def anE(x:Int):ZT x<256:=by
 unfold ZT;rw[BitVec.toNat_and];have:=@Nat.and_le_right (BitVec.ofInt 64 x).toNat (BitVec.ofInt 64 255).toNat;have e:(BitVec.ofInt 64 255).toNat=255:=by decide
 omega
structure Cu where
 code:List UInt8
 i:Nat
 h:Int
def Cu.nx(s:Cu):Cu:=⟨s.code,if s.i<s.code.length then s.i+1 else s.i,ZR s.h⟩
def Cu.byte(s:Cu):Nat:=match s.code[s.i]? with
 |some b=>ZT (i64.wrap ((ZT (ami (ZR s.h)):Int)+b.toNat))
 |none=>ZT (ami (ZR s.h))
def Cu.avc(s:Cu):s.byte<256:=by unfold Cu.byte;split<;>exact anE _
def Cu.st(s:Cu)(p:Nat):Cu:=it Cu.nx p s
def Cu.g(s:Cu)(p:Nat):Nat:=(s.st p).byte
def Cu.st_succ(s:Cu)(p:Nat):s.st (p+1)=(s.st p).nx:=ahB _ _ _
def Cu.ajc(s:Cu)(p q:Nat):(s.st p).st q=s.st (p+q):=(adO _ _ _ _).symm
def Cu.Ig(s:Cu):∀p,(s.st p).code=s.code
 |0=>rfl
 |p+1=>by rw[Cu.st_succ];exact Cu.Ig s p
def Cu.aqS(s:Cu)(h:s.i<=s.code.length):∀p,(s.st p).i=min (s.i+p) s.code.length
 |0=>by show s.i=_;omega
 |p+1=>by rw[Cu.st_succ];show(if(s.st p).i<(s.st p).code.length then(s.st p).i+1 else(s.st p).i)=_;rw[Cu.Ig,Cu.aqS s h p];split<;>omega
def Cu.aAN(s:Cu):∀p,(s.st p).h=it ZR p s.h
 |0=>rfl
 |p+1=>by rw[Cu.st_succ,ahB,<-Cu.aAN s p];rfl
def Cu.zero(c:List UInt8):Cu:=⟨c,c.length,0⟩
def Cu.avd(s:Cu)(h:s.i<=s.code.length):∃t,s.st t=Cu.zero s.code:=by
 obtain⟨t,ht⟩:=avb (s.st (s.code.length - s.i)).h;refine⟨s.code.length - s.i+t, ?_⟩;rw[<-Cu.ajc];have h1:((s.st (s.code.length - s.i)).st t).h=0:=by rw[Cu.aAN];exact ht
 have h2:((s.st (s.code.length - s.i)).st t).i=s.code.length:=by rw[Cu.ajc,Cu.aqS s h];omega
 have h3:((s.st (s.code.length - s.i)).st t).code=s.code:=by rw[Cu.Ig,Cu.Ig]
 cases hs:(s.st (s.code.length - s.i)).st t with
 |mk c i h=>rw[hs] at h1 h2 h3;simp only at h1 h2 h3;subst h1 h2 h3;rfl
def Y0(p:Nat):Nat:=ZT (ami (ZR (it ZR p 0)))
def Cu.aAO(c:List UInt8)(p:Nat):(Cu.zero c).g p=Y0 p:=by
 unfold Cu.g Cu.byte Y0;have h1:((Cu.zero c).st p).i=c.length:=by rw[Cu.aqS _ (Nat.le_refl _)];show min (c.length+p) c.length=_;omega
 have h2:((Cu.zero c).st p).code=c:=Cu.Ig _ _;have h3:((Cu.zero c).st p).h=it ZR p 0:=Cu.aAN _ _;rw[h1,h2,h3,List.getElem?_eq_none (Nat.le_refl _)]
def ao2(f:(Nat->Nat)->Nat->Nat×Nat)(lim L:Nat)(P:Cu->Prop)
  (hstep:∀(s:Cu) (p:Nat),s.i<=s.code.length->p<(f s.g p).2∧(f s.g p).2<=p+L∧((f s.g p).1<=lim->P (s.st p))∧(P (s.st (f s.g p).2)->P (s.st p)))
  (hsmall:∀j,j<=L->(f Y0 j).1<=lim):∀s:Cu,s.i<=s.code.length->P s:=by
 have key:∀(n t:Nat) (s:Cu),t<n->s.i<=s.code.length->s.st t=Cu.zero s.code->P s:=by
  intro n;induction n with
  |zero=>intro t s h;omega
  |succ n ih=>
   intro t s ht hi hz;obtain⟨h1,h2,_,h4⟩:=hstep s 0 hi;refine h4 ?_;have hi':(s.st (f s.g 0).2).i<=(s.st (f s.g 0).2).code.length:=by rw[Cu.Ig,Cu.aqS s hi];omega
   by_cases hle:(f s.g 0).2<=t
   ·refine ih (t - (f s.g 0).2) _ au hi' ?_;rw[Cu.ajc,Cu.Ig,show(f s.g 0).2+(t - (f s.g 0).2)=t by omega];exact hz
   ·have e:s.st (f s.g 0).2=(Cu.zero s.code).st ((f s.g 0).2 - t):=by rw[<-hz,Cu.ajc];congr 1;omega
    rw[e];refine(hstep (Cu.zero s.code) _ (Nat.le_refl _)).2.2.1 ?_;have hg:(Cu.zero s.code).g=Y0:=funext (Cu.aAO _);rw[hg];exact hsmall _ au
 intro s hi;obtain⟨t,ht⟩:=s.avd hi;exact key (t+1) t s au hi ht
end Go.Vm
namespace Go.Vm
open Go
open Go.IntKind (i64)
mutual
def tyD(P:Program):Nat->TypeId->Row->Prop
 |0,_,_=>False
 |n+1,t,row=>match P.underlying t with
  |some .bool=>∃b,row=[.bool b]
  |some (.int k)=>∃x,row=[.int k x]∧(Lit.int k x).wf=true
  |some .string=>∃s,row=[.str s]∧s.length<=maxLen
  |some (.slice e)=>∃rows,row=[.sl false (kG P e) rows]∧rows.length<=maxLen∧∀r,r∈rows->tyD P n e r
  |some (.struct fs)=>aqT P n fs.toList row
  |_=>False
def aqT(P:Program):Nat->List Field->Row->Prop
 |_,[],row=>row=[]
 |n,f::fs,row=>∃r1 r2,row=r1++r2∧tyD P n f.type r1∧aqT P n fs r2
end
def ZU(P:Program):Nat->List Field->Option Nat
 |o,[]=>some o
 |o,f::fs=>bif Nat.beq f.offset o then ZU P (o+P.cellsOf f.type) fs else none
def Fb(P:Program):Nat->TypeId->Bool
 |0,_=>false
 |n+1,t=>match P.underlying t with
  |some .bool|some (.int _)|some .string=>true
  |some (.slice e)=>Fb P n e && Nat.ble 1 (kG P e)
  |some (.struct fs)=>(match ZU P 0 fs.toList with|some o=>Nat.beq o (P.cellsOf t)|none=>false) && fs.toList.all λf=>Fb P n f.type
  |_=>false
def ao3(P:Program)(t:TypeId):kG P t=P.cellsOf t:=by unfold kG Program.cellsOf;cases P.info? t<;>rfl
def adQ{α β:Type}{f:α->Option β}:∀{l:List α} {r:List β},l.mapM f=some r->r.length=l.length∧∀(i:Nat) x,l[i]? =some x->∃y,f x=some y∧r[i]? =some y
 |[],r,h=>by simp at h;subst h;exact⟨rfl,λi x h=>by simp at h⟩
 |a::l,r,h=>by
  rw[List.mapM_cons] at h;simp only[Option.bind_eq_bind,Option.bind_eq_some_iff,Option.pure_def,fF] at h;obtain⟨y,h1,r',h2,rfl⟩:=h;obtain⟨h3,h4⟩:=adQ h2;refine⟨by simp[h3],λi x hx=> ?_⟩;cases i with
  |zero=>simp only[List.getElem?_cons_zero,fF] at hx;subst hx;exact⟨y,h1,rfl⟩
  |succ i=>simpa using h4 i x (by simpa using hx)
def anF{α:Type}{p:Nat->α->Prop}:∀(n k:Nat),(∀i,i<n->∃x,p (k+i) x)->∃l:List α,l.length=n∧∀(i:Nat) x,l[i]? =some x->p (k+i) x
 |0,_,_=>⟨[],rfl,λi x h=>by simp at h⟩
 |n+1,k,h=>by
  obtain⟨x,hx⟩:=h 0 au;obtain⟨l,h1,h2⟩:=anF n (k+1) (λi hi=>by
   have:=h (i+1) au
   rwa [show k+(i+1)=k+1+i by omega] at this)
  refine⟨x::l,by simp[h1],λi y hy=> ?_⟩;cases i with
  |zero=>simp only[List.getElem?_cons_zero,fF] at hy;subst hy;exact hx
  |succ i=>
   have:=h2 i y (by simpa using hy)
   rwa [show k+1+i=k+(i+1) by omega] at this
def ajd{h:View}:∀(r:Row) (b o:Nat) (cs:List Value),(∀(j:Nat) v,cs[j]? =some v->h b (o+j)=some v)->ig h r cs->uQ h r b o
 |[],_,_,_,_,_=>trivial
 |x::r,b,o,cs,hc,⟨v,cs',e,h1,h2⟩=>by
  subst e;exact⟨⟨v,by simpa using hc 0 v rfl,h1⟩,ajd r b (o+1) cs' (λj u hj=>by
   have:=hc (j+1) u (by simpa using hj)
   rwa [show o+(j+1)=o+1+j by omega] at this) h2⟩
def agk{h:View}{s b:Nat}:∀(rs:List Row) (o:Nat),(∀(i:Nat) r,rs[i]? =some r->r.length=s∧uQ h r b (o+i * s))->mY h s rs b o
 |[],_,_=>trivial
 |r::rs,o,hr=>by
  obtain⟨h1,h2⟩:=hr 0 r rfl;refine⟨h1,by simpa using h2,agk rs (o+s) λi q hq=> ?_⟩;obtain⟨h3,h4⟩:=hr (i+1) q (by simpa using hq);refine⟨h3, ?_⟩
  rwa [show o+(i+1) * s=o+s+i * s by rw[Nat.succ_mul];omega] at h4
def abd{h:View}:∀{r1 r2:Row} {c1 c2:List Value},ig h r1 c1->r1.length=c1.length->ig h r2 c2->ig h (r1++r2) (c1++c2)
 |[],r2,c1,c2,_,hl,h2=>by have:c1=[]:=List.length_eq_zero_iff.1 hl.symm;subst this;exact h2
 |x::r1,r2,_,c2,⟨v,cs',e,h1,h3⟩,hl,h2=>by subst e;exact⟨v,cs'++c2,rfl,h1,abd h3 (by simpa using hl) h2⟩
def adR{w:World}{base:Nat}{a:Addr}{n:Nat}{cs:List Value}(h:w.cells? base a n=some cs):cs.length=n∧∀j,j<n->∃v,w.cell? (a.add j)=some v∧cs[j]? =some v:=by
 unfold World.cells? at h;split at h
 ·obtain⟨h1,h2⟩:=adQ h;rw[List.length_range] at h1;refine⟨h1,λj hj=> ?_⟩;exact h2 j j (by simp[hj])
 ·cases h
section
variable {H:Type} {enc:TypeId×Value->H} {P:Program} {w:World} {base:Nat} {spare:Nat->Bool} {held:Bool}
def agl{n:Nat}(ih:∀(t:TypeId) (cs:List Value) (d:DataW H) (ps:List MemPlace),Fb P n t=true->DataW.trod enc P w base spare held n t cs=some (d,ps)->∃row:Row,row.length=cs.length∧tyD P n t row∧ig (full w) row cs):
  ∀(fs:List Field) (o tot:Nat) (cs:List Value) (xs:List (DataW H×List MemPlace)),ZU P o fs=some tot->(fs.all λf=>Fb P n f.type)=true->tot<=cs.length->
   fs.mapM (λf=>DataW.trod enc P w base spare held n f.type ((cs.drop f.offset).take (P.cellsOf f.type)))=some xs->
   ∃row:Row,row.length=tot - o∧o<=tot∧aqT P n fs row∧ig (full w) row ((cs.drop o).take (tot - o))
 |[],o,tot,cs,xs,hc,_,_,_=>by simp only[ZU,fF] at hc;subst hc;exact⟨[],by simp,Nat.le_refl _,by simp[aqT],trivial⟩
 |f::fs,o,tot,cs,xs,hc,hg,hle,hm=>by
  simp only[ZU] at hc;cases hb:Nat.beq f.offset o with
  |false=>simp[hb] at hc
  |true=>
   simp only[hb,aU] at hc;have hbo:=qU hb;simp only[List.all_cons,vF] at hg;rw[List.mapM_cons] at hm;simp only[Option.bind_eq_bind,Option.bind_eq_some_iff,Option.pure_def,fF] at hm;obtain⟨y,h1,ys,h2,rfl⟩:=hm;obtain⟨aDH,l2,le2,t2,s2⟩:=agl ih fs _ tot cs ys hc hg.2 hle h2;obtain⟨ave,l1,t1,s1⟩:=ih _ _ y.1 y.2 hg.1 h1;rw[hbo] at l1 s1;have hl:((cs.drop o).take (P.cellsOf f.type)).length=P.cellsOf f.type:=by simp;omega
   rw[hl] at l1;refine⟨ave++aDH,by simp[l1,l2];omega,au,by simp only[aqT];exact⟨ave,aDH,rfl,t1,t2⟩, ?_⟩;have e:(cs.drop o).take (tot - o)=(cs.drop o).take (P.cellsOf f.type)++(cs.drop (o+P.cellsOf f.type)).take (tot - (o+P.cellsOf f.type)):=by rw[<-List.drop_drop,show tot - o=P.cellsOf f.type+(tot - (o+P.cellsOf f.type)) by omega,List.take_add]
   rw[e];exact abd s1 (by rw[l1,hl]) s2
def ahC:∀(n:Nat) (t:TypeId) (cs:List Value) (d:DataW H) (ps:List MemPlace),Fb P n t=true->DataW.trod enc P w base spare held n t cs=some (d,ps)->
  ∃row:Row,row.length=cs.length∧tyD P n t row∧ig (full w) row cs
 |0,t,cs,d,ps,hg,_=>by simp[Fb] at hg
 |n+1,t,cs,d,ps,hg,h=>by
  simp only[Fb] at hg;unfold DataW.trod at h;cases hu:P.underlying t with
  |none=>simp[hu] at hg
  |some D=>
   rw[hu] at hg h;cases D with
   |bool=>split at h<;>simp_all;rename_i b;exact⟨[.bool b],by simp,by simp[tyD,hu],_,_,rfl,rfl,trivial⟩
   |int k=>split at h<;>simp_all;rename_i k' x _;obtain⟨⟨rfl,hw⟩,_⟩:=h;refine⟨[.int _ x],by simp, ?_,_,_,rfl,rfl,trivial⟩;simp only[tyD,hu];exact⟨x,rfl,hw⟩
   |string=>
    split at h<;>simp_all;rename_i s;refine⟨[.str s.data.toList],by simp, ?_,_,_,rfl, ?_,trivial⟩
    ·simp only[tyD,hu];refine⟨_,rfl, ?_⟩;simpa using h.1
    ·simp[ro]
   |slice e=>
    simp only[vF] at hg;split at h
    all_goals first
     |(rename_i e1;cases e1;done)
     |(cases h;done)
     |(exfalso;rename_i h21 _ _ _ _ _ _ _ _ _ _ _ _ _ _ _ _ _ _ _;exact h21 _ rfl)
     |skip
    case h_7=>
     rename_i e1;refine⟨[.sl false (kG P e) []],rfl, ?_,_,_,rfl, ?_,trivial⟩
     ·simp only[tyD,hu];exact⟨[],rfl,by simp,λr hr=>by simp at hr⟩
     ·simp only[ro];exact⟨none,0,rfl,by simp,λhn=>absurd rfl hn⟩
    case h_8=>
     rename_i _ e' a len cap e1;cases e1;split at h
     ·rename_i hb;rw[Option.bind_eq_some_iff] at h;obtain⟨elems,hel,_⟩:=h;obtain⟨hl,hget⟩:=adQ hel;rw[List.length_range] at hl;have hs:=ao3 P e;have hpos:1<=P.cellsOf e:=by rw[<-hs];exact Nat.le_of_ble_eq_true hg.2
      have hrow:∀i,i<len->∃r:Row,tyD P n e r∧r.length=kG P e∧a.spot=none∧uQ (full w) r a.block (a.off+i * kG P e):=by
       intro i hi;obtain⟨y,hy,_⟩:=hget i i (by simp[hi]);rw[Option.bind_eq_some_iff] at hy;obtain⟨cs,hcs,hy⟩:=hy;obtain⟨row,l1,t1,s1⟩:=ahC n e cs y.1 y.2 hg.1 hy;obtain⟨hcl,hcg⟩:=adR hcs;refine⟨row,t1,by rw[l1,hcl,hs], ?_, ?_⟩
       ·obtain⟨y0,hy0,_⟩:=hget 0 0 (List.getElem?_range au);rw[Option.bind_eq_some_iff] at hy0;obtain⟨cs0,hcs0,_⟩:=hy0;obtain⟨u,hu1,_⟩:=(adR hcs0).2 0 au;simpa[Addr.add] using World.cell?_spot hu1
       ·refine ajd row a.block _ cs (λj v hj=> ?_) s1;have hjn:j<P.cellsOf e:=by have:=(Jm.1 hj).1;omega
        obtain⟨u,hu1,hu2⟩:=hcg j hjn;rw[hu2] at hj;cases hj;have hsp:=World.cell?_spot hu1;have e2:((a.add (i * P.cellsOf e)).add j)=⟨a.block,a.off+i * kG P e+j,none⟩:=by
         rw[hs];generalize i * P.cellsOf e=q at hsp⊢;obtain⟨ab,ao,as_⟩:=a;rcases Nat.eq_zero_or_pos q with h1|h1<;>rcases Nat.eq_zero_or_pos j with h2|h2
         ·subst h1;subst h2;have:as_=none:=hsp;subst this;rfl
         ·subst h1;simp[Addr.add,show j≠0 by omega]
         ·subst h2;simp[Addr.add,show q≠0 by omega]
         ·simp[Addr.add,show q≠0 by omega,show j≠0 by omega]
        rw[e2] at hu1;exact hu1
      obtain⟨rows,r1,r2⟩:=anF (p:=λi (r:Row)=>tyD P n e r∧r.length=kG P e∧a.spot=none∧uQ (full w) r a.block (a.off+i * kG P e)) len 0 (λi hi=>by rw[Nat.zero_add];exact hrow i hi);refine⟨[.sl false (kG P e) rows],rfl, ?_,_,_,rfl, ?_,trivial⟩
      ·simp only[tyD,hu];refine⟨rows,rfl,au,λr hr=> ?_⟩;obtain⟨i,hi⟩:=List.getElem?_of_mem hr;exact(r2 i r hi).1
      ·simp only[ro];refine⟨some a,cap,by rw[r1],au,λhn=> ?_⟩;have h0:∃r0,rows[0]? =some r0:=by
        cases rows with
        |nil=>exact absurd rfl hn
        |cons r0 _=>exact⟨r0,rfl⟩
       obtain⟨r0,h0⟩:=h0;have hsp:=(r2 0 r0 h0).2.2.1;refine⟨a.block,a.off, ?_,agk rows a.off λi r hr=> ?_⟩
       ·obtain⟨ab,ao,as_⟩:=a;simp only at hsp;subst hsp;rfl
       ·obtain⟨_,h2,_,h4⟩:=r2 i r hr;rw[Nat.zero_add] at h4;exact⟨h2,h4⟩
     ·cases h
   |struct fs=>
    simp only[vF] at hg;split at h
    all_goals first
     |(rename_i e1;cases e1;done)
     |(cases h;done)
     |(exfalso;rename_i h21 _ _ _ _ _ _ _ _ _ _ _ _ _ _ _ _ _ _ _;exact h21 _ rfl)
     |skip
    case h_9=>
     rename_i _ fs' cs' e1;cases e1;split at h
     ·rename_i hcl;rw[Option.map_eq_some_iff] at h;obtain⟨xs,hxs,_⟩:=h;cases hc:ZU P 0 fs.toList with
      |none=>simp[hc] at hg
      |some tot=>simp only[hc] at hg;have htot:=qU hg.1;obtain⟨row,l1,_,t1,s1⟩:=agl (λt cs d ps hg h=>ahC n t cs d ps hg h) fs.toList 0 tot _ xs hc hg.2 au hxs;refine⟨row,by rw[l1];omega,by simp only[tyD,hu];exact t1, ?_⟩;simpa[htot,<-hcl] using s1
     ·cases h
   |_=>simp at hg
end
end Go.Vm
namespace Go.Vm
open Go Go.RowKit
open Go.IntKind (i64)
def agm{A:Adv}{f:Nat}(hm:A.move f=[]){μ:Nat->Value}{m:Mem}{H:Heap}{h:View}:∀{vs:List V} {gs:List Value} (i:Nat),bT μ m h vs gs->O5 A f μ m H h i vs gs []
 |[],gs,i,q=>by simp only[bT] at q;simp only[O5];exact⟨q,trivial⟩
 |v::vs,gs,i,q=>by
  simp only[bT] at q;obtain⟨g,gs',rfl,h1,h2⟩:=q;simp only[O5];refine⟨g,gs',[],[],rfl,rfl, ?_,agm hm (i+1) h2⟩;split
  ·rename_i hmo;simp only[DN,hm,mem?,bZ] at hmo;cases hr:mem? i (A.ref f)<;>cases hr2:mem? i (A.raw f)<;>cases hr3:mem? i (A.look f)<;>simp[hr,hr2,hr3] at hmo
  ·exact⟨rfl,h1⟩
def ao4{X:Ctx}(hp:ahm X){f:Nat}{fn:Func}{t:TypeId}{args:List V}{gargs:List Value}{w:World}(hf:X.P.funcs[f]? =some fn)(hb:fn.body.isSome=true)(hr:fn.resultTypes=#[t])(ht:H6 X.P t=false)(hpt:ae9 X.P t=none)(hm:X.JA.move f=[])(hgl:YA X (full w))(htb:alS X w)
  (hs:bT (impμ []) [] (full w) args gargs) (h:call X f args []=some ([[.bool true]],[])):
  Calls X.P f gargs.toArray w λe w'=>e=.returned (.bool true)∧Below w.heap.size w w':=by
 have hG:Given X 0 (λ_=>True) w f args [] gargs [] [] []:=by
  have hv:(full w).le (view w (λ_=>True) (· ∈([]:List Nat)++[])):=by intro b o v h;exact ach trivial (by simp) h
  refine⟨by simp,by simp,λ_ _=>trivial,Nat.zero_le _, ?_,⟨rfl,rfl⟩,EZ hv hgl,htb⟩;exact SA (pW _ _) hv (λ_ _=>rfl) (agm (H:=bH w) hm 0 hs)
 refine(au2 hp f fn args [] [[.bool true]] [] hf hb h 0 (λ_=>True) w gargs [] [] [] hG).mono ?_;rintro e w' ⟨gs,M1,M2,rfl,D⟩;have hres:=D.res;rw[hr] at hres;simp only[QM] at hres;obtain⟨row,rows',g,gs',N1,N2,e1,e2,_,hv,e3,e4,_⟩:=hres;rw[JL hpt] at hv;obtain⟨cs,hv,ho,hl⟩:=hv;simp only[List.cons.injEq] at e1;obtain⟨rfl,rfl⟩:=e1;subst e4;subst e2;simp only[valOf,ht,Bool.false_eq_true,if_false] at hv;subst hv;simp only[fU,ow] at ho;obtain⟨v,cs',N1,N2,e5,_,⟨rfl,_⟩,_⟩:=ho;simp only[List.cons.injEq] at e5;obtain⟨rfl,_⟩:=e5;refine⟨rfl,⟨D.keep.os,D.keep.tape,D.keep.output,D.keep.size,λk hk=>D.keep.block k hk (by simp)⟩⟩
section
variable {H:Type} {enc:TypeId×Value->H} {P:Program} {w:World} {base:Nat} {spare:Nat->Bool} {held:Bool} {t:TypeId} {v:Value} {d:DataW H} {ps:List MemPlace}
def avf{μ:Nat->Value}{m:Mem}(h:DataW.Trod enc P w base spare held t v d ps)(hg:∀n,Fb P (n+8) t=true)(hv:v.cells.toList=[v]):
  ∃n x,tyD P (n+8) t [x]∧aG μ m (full w) (.d x) v:=by
 obtain⟨n,hn⟩:=h;have hn':DataW.trod enc P w base spare held (n+8) t v.cells.toList=some (d,ps):=DataW.trod_le (Nat.le_add_right n 8) hn;obtain⟨row,hl,ht,hs⟩:=ahC (n+8) t _ d ps (hg n) hn';rw[hv] at hl hs;cases row with
 |nil=>simp at hl
 |cons x r=>
  cases r with
  |cons _ _=>simp at hl
  |nil=>obtain⟨u,cs',e,h1,_⟩:=hs;simp only[List.cons.injEq] at e;obtain⟨rfl,_⟩:=e;exact⟨_,x,ht,by simpa[aG] using h1⟩
end
section
variable {P:Program} {n:Nat} {t:TypeId} {row:Row}
def avg{k:IntKind}(hu:P.underlying t=some (.int k))(h:tyD P (n+1) t row):∃x,row=[.int k x]∧(Lit.int k x).wf=true:=by simpa[tyD,hu] using h
def aAP{e:TypeId}(hu:P.underlying t=some (.slice e))(h:tyD P (n+1) t row):∃rows,row=[.sl false (kG P e) rows]∧rows.length<=maxLen∧∀r,r∈rows->tyD P n e r:=by simpa[tyD,hu] using h
def aje{α:Type}{f:α->Row}{p:α->Prop}:∀{rows:List Row},(∀r,r∈rows->∃x,r=f x∧p x)->∃l:List α,rows=l.map f∧∀x,x∈l->p x
 |[],_=>⟨[],rfl,λx h=>by simp at h⟩
 |r::rows,h=>by
  obtain⟨x,hx,hp⟩:=h r (by simp);obtain⟨l,hl,hq⟩:=aje (rows:=rows) (λr hr=>h r (by simp[hr]));refine⟨x::l,by simp[hx,hl],λy hy=> ?_⟩;rcases List.mem_cons.1 hy with rfl|hy
  ·exact hp
  ·exact hq y hy
end
end Go.Vm
namespace Go.Vm
open Go
open Go.IntKind (i64)
section
variable {H:Type} {enc:TypeId×Value->H}
def adS{a:Assume}{C:Checked}{os:Os}{f:FuncId}{fn:Func}{s:ChangeSpec}{conds:List PathCond}{apart fresh handsOn again:Bool}{X:World->Array Value->Prop}
  (hX:∀(w w':World) (args:Array Value),w.heap=w'.heap->X w args->X w' args)
  (own:ownKnob C.prog.godebug=none) (started:os.Started) (noInit:C.prog.inits.idxOf? f=none) (hfn:C.prog.funcs[f]? =some fn)
  (witness:∃(w:World) (tape:Tape) (i:Input),w.os=os∧(w.forCall tape i).Shaped C.prog∧i.vars=[]∧Input.okWide C.prog (w.forCall tape i) .any w.heap.size f i∧
   ((s.pre enc C.prog fn conds apart (w.forCall tape i).memory i.args∧X (w.forCall tape i).memory i.args)∧sizedMet enc C.prog fn (OpenSpec.ofChange s) apart (w.forCall tape i).memory i.args)∧a.holds C.prog (lone (Frame.enter C.prog f i.args .normal) [] (w.forCall tape i)))
  (contract:∀(W:World) (base:Nat) (args:Array Value) (ds gs:List (DataW H)) (before:List MemPlace),
   (∀(j:Nat) t v,fn.params[j]? =some t->args[j]? =some v->Value.okWide C.prog W .any base t v)->
   DataW.Whole enc C.prog fn.params.toList s.vars apart W args.toList ds gs before->X W args->W.ShapedOpen C.prog->
   Calls C.prog f args W λe W'=>∃v,e=.returned v∧s.post enc C.prog fn apart fresh handsOn again W args v W'):
  ReturnsInHanded a C os f .any (λw args=>(s.pre enc C.prog fn conds apart w args∧X w args)∧sizedMet enc C.prog fn (OpenSpec.ofChange s) apart w args) (s.post enc C.prog fn apart fresh handsOn again):=by
 refine returnsInHanded_of_calls own started noInit witness ?_;rintro w tape i _ shp _ ⟨_,_,_,g,hg,_,_,_,_,val⟩ ⟨⟨⟨ds,gs,before,whole,_⟩,hx⟩,_⟩ _;have e:g=fn:=Option.some.inj (hg.symm.trans hfn);rw[e] at val;have c:=contract (w.forCall tape i) w.heap.size i.args ds gs before val (DataW.Whole.of_heap (w':=w.forCall tape i) (by rfl) whole) (hX _ _ _ (by rfl) hx) shp;refine c.mono ?_;rintro e W' ⟨v,rfl,hp⟩;exact ChangeSpec.post_blind hp
end
def aMR:DataW Unit->Value
 | .lit (.int k n)=> .int k n
 | .lit (.bool b)=> .bool b
 | .lit (.string b)=> .string ⟨b.toArray⟩
 |_=> .tuple #[]
def agn:Nat->DataW Unit->List Value
 |0,_=>[]
 |n+1,d=>match d with
  | .agg ds=>ds.flatMap (agn n)
  |d=>[aMR d]
def aDI(h:Array Obj)(g:Nat)(d:DataW Unit):Array Obj:=h.modify g λo=>match o with
 | .cells _ t fr=> .cells (agn 4 d).toArray t fr
 |o=>o
def layAll(h:Array Obj):List (Nat×DataW Unit)->Array Obj
 |[]=>h
 |(g,d)::l=>layAll (aDI h g d) l
noncomputable def laidWorld(P:Program)(l:List (Nat×DataW Unit))(os:Os):World:=
 let w:=World.holding P os ⟨#[],#[],[]⟩
 {w with heap:=layAll w.heap l}
def adT{h:View}{g:Nat}:∀(row:Row) (o:Nat),(∀(j:Nat) x,row[j]? =some x->∃v,h g (o+j)=some v∧ro h x v)->uQ h row g o
 |[],_,_=>trivial
 |x::row,o,q=>⟨by simpa using q 0 x rfl,adT row (o+1) λj y hj=>by
   have:=q (j+1) y (by simpa using hj)
   rwa [show o+(j+1)=o+1+j by omega] at this⟩
def ZV{P:Program}{w:World}{nm:String}{g t e n fuel:Nat}{cs:Array Value}{ss:List (List UInt8)}{p:List MemPlace}(hu:P.underlying t=some (.array n e))(he:P.underlying e=some .string)(hc:P.cellsOf e=1)
  (hg:P.globalNamed nm=some g) (hv:w.var? P nm=some cs) (h:DataW.trod (λ_=>()) P w 0 (λ_=>true) false fuel t cs.toList=some (.agg (ss.map λs=> .lit (.string s)),p)):uQ (full w) (ss.map D.str) g 0:=by
 obtain⟨xs,m,rfl,hx,hcl,hxl,hel⟩:=DataW.trod_array hu h;simp only[iP,DataW.agg.injEq] at hx;refine adT _ 0 λj x hj=> ?_
 rw[List.getElem?_map] at hj;cases hs:ss[j]? with
 |none=>rw[hs] at hj;cases hj
 |some s=>
  rw[hs] at hj;cases hj;have hjl:j<ss.length:=(Jm.1 hs).1;have hlen:ss.length=xs.length:=by have:=congrArg List.length hx.1;simpa using this
  obtain⟨y,hy⟩:∃y,xs[j]? =some y:=⟨xs[j]'au,by simp⟩
  have hh:=hel j au;rw[hy] at hh;obtain⟨b,hb1,hb2,_⟩:=DataW.trod_string he hh;have hyx:y.1=.lit (.string s):=by have:=congrArg (λl=>l[j]?) hx.1;simp only[List.getElem?_map,hs,hy,Ic,fF] at this;exact this.symm
  rw[hb2] at hyx;simp only[DataW.lit.injEq,Lit.string.injEq] at hyx;rw[hc,Nat.mul_one] at hb1;have hcell:cs[j]? =some (.string b):=by have:=congrArg (λl=>l[0]?) hb1;simpa using this
  refine⟨.string b, ?_, ?_⟩
  ·have:=World.var?_cell hg hv j;rw[Nat.zero_add];show w.cell? ⟨g,j,none⟩=_;rw[this];exact hcell
  ·simp only[ro];rw[<-hyx]
end Go.Vm
