import Derived.Test.YtcallmiaialhkaaGreatDoorVm4
import Derived.Laws.AppendOwn
import Derived.Below
import Derived.ChangeShapes
import Derived.ChangeOld
import Derived.Carry
import Derived.WideShapes
import Derived.ProofKit
import Derived.Handed
import Derived.LaidLaws
import Derived.LaidHandle
import Derived.Shelf.Vars
import Derived.OpenShut
import Derived.ChangeArms
import Derived.LaidMore
set_option linter.defProp false
set_option linter.unusedVariables false
set_option linter.unusedSimpArgs false
namespace Go.Vm
open Go
open Go.IntKind (i64)
def it{α:Type}(f:α->α):Nat->α->α
 |0,x=>x
 |n+1,x=>it f n (f x)
def acg{α:Type}(f:α->α)(x:α):it f 0 x=x:=rfl
def TM{α:Type}(f:α->α)(n:Nat)(x:α):it f (n+1) x=it f n (f x):=rfl
def Va{α:Type}(f:α->α):∀(m n:Nat) (x:α),it f (m+n) x=it f n (it f m x)
 |0,n,x=>by rw[Nat.zero_add];rfl
 |m+1,n,x=>by rw[Nat.add_right_comm];exact Va f m n (f x)
def Ze{α:Type}(f:α->α)(n:Nat)(x:α):it f (n+1) x=f (it f n x):=Va f n 1 x
def Vb:Nat:=18446744073709551616
def PS(x:Nat):Nat:=(6364136223846793005 * x+1442695040888963407) % Vb
def pwT:List (Nat×Nat):=[(6364136223846793005,1442695040888963407),(7520897724310334953,1876011003808476466),(18108194425815612945,7401132627792533940),(13086856194709077281,6566661184467396264),(10186629832379121217,3646985772805368400),(10828933358287359105,982119659650238624),(4910590176156014849,10607473198416945472),(9908147928152388097,6914523672464851584),(146241703003251713,4689171378020353280),(7321387688379467777,8103286608563669504),(12255457568021647361,7710372194127975424),(9867978473775767553,16043993925053589504),(5088048636545613825,1993901509916512256),(2150478223927705601,13175896319671181312),(9196835419631190017,1993366741509554176),(5957860013156466689,7241871532530761728),(10389140232424652801,9829074100562493440),(13023643825678581761,7211655632440131584),(288945459443007489,14014807304630960128),(13413133364217511937,15586959662575517696),(8991946233350193153,5614651135149211648),(1986842707489718273,10449321915693662208),(13772462672974970881,17778722412968280064),(11399802156803424257,4631015078550831104),(13559343778149433345,14683519683525607424),(8604389488178757633,14159509325327892480),(16938562998715285505,4382386631181598720),(14349518013152100353,5251965553014210560),(5928836310318972929,14899444342342025216),(13010594125244792833,10487453482519363584),(12186130195207421953,17516142451218186240),(5925516316705292289,2750482773444657152),(11851032633410584577,5500965546889314304),(5255321193111617537,11001931093778628608),(10510642386223235073,3557118113847705600),(2574540698736918529,7114236227695411200),(5149081397473837057,14228472455390822400),(10298162794947674113,10010200837072093184),(2149581516185796609,1573657600434634752),(4299163032371593217,3147315200869269504),(8598326064743186433,6294630401738539008),(17196652129486372865,12589260803477078016),(15946560185263194113,6731777533244604416),(13446376296816836609,13463555066489208832),(8446008519924121601,8480366059268866048),(16892017039848243201,16960732118537732096),(15337290005986934785,15474720163365912576),(12227835938264317953,12502696253022273536),(6008927802819084289,6558648432334995456),(12017855605638168577,13117296864669990912),(5588967137566785537,7787849655630430208),(11177934275133571073,15575699311260860416),(3909124476557590529,12704654548812169216),(7818248953115181057,6962565023914786816),(15636497906230362113,13925130047829573632),(12826251738751172609,9403516021949595648),(7205759403792793601,360287970189639680),(14411518807585587201,720575940379279360),(10376293541461622785,1441151880758558720),(2305843009213693953,2882303761517117440),(4611686018427387905,5764607523034234880),(9223372036854775809,11529215046068469760),(1,4611686018427387904),(1,9223372036854775808)]
def TN:List (Nat×Nat)->Bool
 |a::l=>(match l with
  |b::_=>Nat.beq b.1 (a.1 * a.1 % Vb) && Nat.beq b.2 ((a.1 * a.2+a.2) % Vb)
  |[]=>true) && TN l
 |[]=>true
def aaC:Nat->List (Nat×Nat)->Bool
 |p,a::l=>Nat.beq (a.1 %(2 * p)) 1 &&(Nat.beq (a.2 %(2 * p)) p && aaC (2 * p) l)
 |_,[]=>true
def aga:TN pwT=true:=by kernel_rfl
def amf:aaC 1 pwT=true:=by kernel_rfl
def amg:pwT.length=64:=by kernel_rfl
def aff(M a c x:Nat):(a * ((a * x+c) % M)+c) % M=(a * a % M * x+(a * c+c) % M) % M:=by
 have h1:(a * ((a * x+c) % M)+c) % M=(a * (a * x+c)+c) % M:=by rw[Nat.add_mod,Nat.mul_mod,Nat.mod_mod,<-Nat.mul_mod,<-Nat.add_mod]
 have h2:(a * a % M * x+(a * c+c) % M) % M=(a * a * x+(a * c+c)) % M:=by rw[Nat.add_mod,Nat.mod_mod,Nat.mul_mod,Nat.mod_mod,<-Nat.mul_mod,<-Nat.add_mod]
 rw[h1,h2,Nat.mul_add,Nat.mul_assoc,Nat.add_assoc]
def ads:∀(l:List (Nat×Nat)) (k:Nat) (a:Nat×Nat),TN (a::l)=true->(∀x,it PS (2 ^ k) x=(a.1 * x+a.2) % Vb)->∀(j:Nat) q,(a::l)[j]? =some q->∀x,it PS (2 ^(k+j)) x=(q.1 * x+q.2) % Vb
 |l,k,a,_,h,0,q,hq=>by cases hq;exact h
 |[],k,a,_,h,j+1,q,hq=>by simp at hq
 |b::l,k,a,hs,h,j+1,q,hq=>by
  rw[TN] at hs;simp only[su] at hs;have h1:=lq hs.1.1;have h2:=lq hs.1.2;have hb:∀x,it PS (2 ^(k+1)) x=(b.1 * x+b.2) % Vb:=by intro x;rw[Nat.pow_succ,Nat.mul_two,Va,h x,h,h1,h2,aff]
  rw[<-Nat.add_assoc,Nat.add_right_comm];exact ads l (k+1) b hs.2 hb j q (by simpa using hq)
def aaD:∀(l:List (Nat×Nat)) (k:Nat),aaC (2 ^ k) l=true->∀(j:Nat) q,l[j]? =some q->q.1 % 2 ^(k+j+1)=1/\q.2 % 2 ^(k+j+1)=2 ^(k+j)
 |[],k,_,j,q,hq=>by simp at hq
 |a::l,k,h,0,q,hq=>by cases hq;rw[aaC] at h;simp only[su] at h;rw[Nat.add_zero,Nat.pow_succ,Nat.mul_comm];exact⟨lq h.1,lq h.2.1⟩
 |a::l,k,h,j+1,q,hq=>by
  rw[aaC] at h;simp only[su] at h;have:=aaD l (k+1) (by rw[Nat.pow_succ,Nat.mul_comm];exact h.2.2) j q (by simpa using hq)
  rwa [show k+1+j=k+(j+1) by omega] at this
def agb(a:Nat×Nat)(h:a=(6364136223846793005,1442695040888963407))(x:Nat):it PS (2 ^ 0) x=(a.1 * x+a.2) % Vb:=by rw[h,Nat.pow_zero,it,it,PS]
def ahW:pwT.head? =some (6364136223846793005,1442695040888963407):=by kernel_rfl
def apj(k:Nat)(hk:k<64):∃q:Nat×Nat,q.1 % 2 ^(k+1)=1/\q.2 % 2 ^(k+1)=2 ^ k/\∀x,it PS (2 ^ k) x=(q.1 * x+q.2) % Vb:=by
 have h1:=aga;have h2:=amf;have h3:=amg;have h4:=ahW;generalize pwT=l at h1 h2 h3 h4;cases hq:l[k]? with
 |none=>rw[List.getElem?_eq_none_iff] at hq;omega
 |some q=>
  obtain⟨ha,hc⟩:=aaD l 0 h2 k q hq;rw[Nat.zero_add] at ha hc;cases l with
  |nil=>simp at h4
  |cons a l=>simp only[List.head?_cons,dG] at h4;have hs:=ads l 0 a h1 (agb a h4) k q hq;rw[Nat.zero_add] at hs;exact⟨q,ha,hc,hs⟩
def aaE:∀(k:Nat),k<=64->∀x,∃t,it PS t x % 2 ^ k=0
 |0,_,x=>⟨0,Nat.mod_one _⟩
 |k+1,hk,x=>by
  obtain⟨t,ht⟩:=aaE k au x;have hm:it PS t x % 2 ^(k+1)=2 ^ k * (it PS t x / 2 ^ k % 2):=by rw[Nat.pow_succ,Nat.mod_mul,ht,Nat.zero_add]
  have h2:it PS t x / 2 ^ k % 2=0\/it PS t x / 2 ^ k % 2=1:=au;rcases h2 with h2|h2
  ·exact⟨t,by rw[hm,h2,Nat.mul_zero]⟩
  ·rw[h2,Nat.mul_one] at hm;refine⟨t+2 ^ k, ?_⟩;obtain⟨q,ha,hc,hs⟩:=apj k au;have hd:2 ^(k+1)∣Vb:=by
    have:Vb=2 ^ 64:=by decide
    rw[this];exact Nat.pow_dvd_pow 2 hk
   rw[Va,hs,Nat.mod_mod_of_dvd _ hd,Nat.add_mod,Nat.mul_mod,ha,hm,hc,Nat.one_mul];have hlt:2 ^ k<2 ^(k+1):=by rw[Nat.pow_succ];have:=Nat.two_pow_pos k;omega
   rw[Nat.mod_eq_of_lt hlt,Nat.pow_succ,Nat.mul_two,Nat.mod_self]
def OO(h:Int):Int:=i64.wrap (i64.wrap (h * 6364136223846793005)+1442695040888963407)
def ach(h:Int):Nat:=(h % 18446744073709551616).toNat
def agc(h:Int): -9223372036854775808<=OO h/\OO h<=9223372036854775807:=by unfold OO;rw[IntKind.wrap_i64,IntKind.wrap_i64];omega
def aaF(z:Int):i64.wrap z % 18446744073709551616=z % 18446744073709551616:=by rw[IntKind.wrap_i64];omega
def ahX(a c m h:Int)(hm:0<m):(a * ((h % m).toNat:Int)+c) % m=(h * a+c) % m:=by rw[Int.toNat_of_nonneg (Int.emod_nonneg h au),Int.add_emod,Int.mul_emod,Int.emod_emod_of_dvd h (Int.dvd_refl m),<-Int.mul_emod,<-Int.add_emod,Int.mul_comm]
def amh(h:Int):ach (OO h)=PS (ach h):=by
 have h1:OO h % 18446744073709551616=(h * 6364136223846793005+1442695040888963407) % 18446744073709551616:=by unfold OO;rw[aaF,Int.add_emod,aaF,<-Int.add_emod]
 have h2:=ahX 6364136223846793005 1442695040888963407 18446744073709551616 h (by decide);unfold ach PS Vb;rw[h1,<-h2];generalize (h % 18446744073709551616).toNat=x;have h3:((6364136223846793005 * (x:Int)+1442695040888963407) % 18446744073709551616)=(((6364136223846793005 * x+1442695040888963407) % 18446744073709551616:Nat):Int):=by rw[Int.natCast_emod,Int.natCast_add,Int.natCast_mul];rfl
 rw[h3,Qi]
def agd:∀(n:Nat) (h:Int),ach (it OO n h)=it PS n (ach h)
 |0,_=>by rw[acg,acg]
 |n+1,h=>by rw[TM,TM,agd n,amh]
def ahY(h:Int):∃t,it OO t h=0:=by
 obtain⟨t,ht⟩:=aaE 64 (Nat.le_refl _) (ach (OO h));refine⟨t+1, ?_⟩;rw[TM];rw[<-agd t] at ht;have hr: -9223372036854775808<=it OO t (OO h)/\it OO t (OO h)<=9223372036854775807:=by
  cases t with
  |zero=>exact agc h
  |succ t=>rw[Ze];exact agc _
 have e:(2:Nat) ^ 64=18446744073709551616:=by decide
 rw[e] at ht;unfold ach at ht;omega
def PU(x:Int):Nat:=(BitVec.ofInt 64 x &&& BitVec.ofInt 64 255).toNat
def aaG(h:Int):Int:=i64.wrap (↑(BitVec.ofInt 64 (h.fdiv 8589934592) ^^^ BitVec.ofInt 64 (h.fdiv 35184372088832)).toNat:Int)
def adt(x:Int):PU x<256:=by
 unfold PU;rw[BitVec.toNat_and];have:=@Nat.and_le_right (BitVec.ofInt 64 x).toNat (BitVec.ofInt 64 255).toNat;have e:(BitVec.ofInt 64 255).toNat=255:=by decide
 omega
structure Cu where
 code:List UInt8
 i:Nat
 h:Int
def Cu.nx(s:Cu):Cu:=⟨s.code,if s.i<s.code.length then s.i+1 else s.i,OO s.h⟩
def Cu.byte(s:Cu):Nat:=match s.code[s.i]? with
 |some b=>PU (i64.wrap ((PU (aaG (OO s.h)):Int)+b.toNat))
 |none=>PU (aaG (OO s.h))
def Cu.ahZ(s:Cu):s.byte<256:=by unfold Cu.byte;split<;>exact adt _
def Cu.st(s:Cu)(p:Nat):Cu:=it Cu.nx p s
def Cu.g(s:Cu)(p:Nat):Nat:=(s.st p).byte
def Cu.st_succ(s:Cu)(p:Nat):s.st (p+1)=(s.st p).nx:=Ze _ _ _
def Cu.aaH(s:Cu)(p q:Nat):(s.st p).st q=s.st (p+q):=(Va _ _ _ _).symm
def Cu.Ad(s:Cu):∀p,(s.st p).code=s.code
 |0=>rfl
 |p+1=>by rw[Cu.st_succ];exact Cu.Ad s p
def Cu.agf(s:Cu)(h:s.i<=s.code.length):∀p,(s.st p).i=min (s.i+p) s.code.length
 |0=>by show s.i=_;omega
 |p+1=>by rw[Cu.st_succ];show(if(s.st p).i<(s.st p).code.length then(s.st p).i+1 else(s.st p).i)=_;rw[Cu.Ad,Cu.agf s h p];split<;>omega
def Cu.ami(s:Cu):∀p,(s.st p).h=it OO p s.h
 |0=>rfl
 |p+1=>by rw[Cu.st_succ,Ze,<-Cu.ami s p];rfl
def Cu.zero(c:List UInt8):Cu:=⟨c,c.length,0⟩
def Cu.ah0(s:Cu)(h:s.i<=s.code.length):∃t,s.st t=Cu.zero s.code:=by
 obtain⟨t,ht⟩:=ahY (s.st (s.code.length - s.i)).h;refine⟨s.code.length - s.i+t, ?_⟩;rw[<-Cu.aaH];have h1:((s.st (s.code.length - s.i)).st t).h=0:=by rw[Cu.ami];exact ht
 have h2:((s.st (s.code.length - s.i)).st t).i=s.code.length:=by rw[Cu.aaH,Cu.agf s h];omega
 have h3:((s.st (s.code.length - s.i)).st t).code=s.code:=by rw[Cu.Ad,Cu.Ad]
 cases hs:(s.st (s.code.length - s.i)).st t with
 |mk c i h=>rw[hs] at h1 h2 h3;simp only at h1 h2 h3;subst h1 h2 h3;rfl
def PV(p:Nat):Nat:=PU (aaG (OO (it OO p 0)))
def Cu.amj(c:List UInt8)(p:Nat):(Cu.zero c).g p=PV p:=by
 unfold Cu.g Cu.byte PV;have h1:((Cu.zero c).st p).i=c.length:=by rw[Cu.agf _ (Nat.le_refl _)];show min (c.length+p) c.length=_;omega
 have h2:((Cu.zero c).st p).code=c:=Cu.Ad _ _;have h3:((Cu.zero c).st p).h=it OO p 0:=Cu.ami _ _;rw[h1,h2,h3,List.getElem?_eq_none (Nat.le_refl _)]
def aex(f:(Nat->Nat)->Nat->Nat×Nat)(lim L:Nat)(P:Cu->Prop)
  (hstep:∀(s:Cu) (p:Nat),s.i<=s.code.length->p<(f s.g p).2/\(f s.g p).2<=p+L/\((f s.g p).1<=lim->P (s.st p))/\(P (s.st (f s.g p).2)->P (s.st p)))
  (hsmall:∀j,j<=L->(f PV j).1<=lim):∀s:Cu,s.i<=s.code.length->P s:=by
 have key:∀(n t:Nat) (s:Cu),t<n->s.i<=s.code.length->s.st t=Cu.zero s.code->P s:=by
  intro n;induction n with
  |zero=>intro t s h;omega
  |succ n ih=>
   intro t s ht hi hz;obtain⟨h1,h2,_,h4⟩:=hstep s 0 hi;refine h4 ?_;have hi':(s.st (f s.g 0).2).i<=(s.st (f s.g 0).2).code.length:=by rw[Cu.Ad,Cu.agf s hi];omega
   by_cases hle:(f s.g 0).2<=t
   ·refine ih (t - (f s.g 0).2) _ au hi' ?_;rw[Cu.aaH,Cu.Ad,show(f s.g 0).2+(t - (f s.g 0).2)=t by omega];exact hz
   ·have e:s.st (f s.g 0).2=(Cu.zero s.code).st ((f s.g 0).2 - t):=by rw[<-hz,Cu.aaH];congr 1;omega
    rw[e];refine(hstep (Cu.zero s.code) _ (Nat.le_refl _)).2.2.1 ?_;have hg:(Cu.zero s.code).g=PV:=funext (Cu.amj _);rw[hg];exact hsmall _ au
 intro s hi;obtain⟨t,ht⟩:=s.ah0 hi;exact key (t+1) t s au hi ht
end Go.Vm
namespace Go.Vm
open Go Go.RowKit
open Go.IntKind (i64)
set_option linter.unusedVariables false
section
variable {X:Ctx} {base:Nat} {U:Nat->Prop} {w w':World} {f:FuncId} {gargs eu:List Value} {N1 N2:List Nat} {P:Program}
def RV{h:View}:∀{k:List Int} {b o j:Nat} {x:Int},jC h 1 (encI k) b o->k[j]? =some x->h b (o+j)=some (.int .i64 x)
 |[],b,o,j,x,_,hj=>by simp at hj
 |y::k,b,o,j,x,q,hj=>by
  have q':[D.int .i64 y].length=1/\nN h [D.int .i64 y] b o/\jC h 1 (encI k) b (o+1):=q;cases j with
  |zero=>simp only[List.getElem?_cons_zero,dG] at hj;subst hj;have:=q'.2.1;simp only[nN,ro] at this;obtain⟨⟨v,h1,rfl⟩,_⟩:=this;exact h1
  |succ j=>have:=RV q'.2.2 (by simpa using hj);rw[<-this];congr 1;omega
def FB{H:Heap}{h:View}:∀{k:List Int} {cs:List Value},cs.take k.length=k.map (Value.int .i64)->cO H h 1 (encI k) cs []
 |[],cs,_=>rfl
 |x::k,cs,e=>by
  cases cs with
  |nil=>simp at e
  |cons v cs=>simp only[OL,List.take_succ_cons,QY,List.cons.injEq] at e;show[D.int .i64 x].length=1/\∃N1 N2,[]=N1++N2/\dF H h [.int .i64 x] (v::cs) N1/\cO H h 1 (encI k) ((v::cs).drop 1) N2;refine⟨rfl,[],[],rfl, ?_,FB e.2⟩;simp only[dF,ow];exact⟨v,cs,[],[],rfl,rfl,⟨e.1,rfl⟩,rfl⟩
def Zf{t e:TypeId}{s:Nat}{rows:List Row}{v:Value}{n:Nat}{xs:List Value}(ht:xZ P t=false)(hpt:OT P t=none)(hs:1<=s)(hn:rows.length=n)(hlt:∀b,w.heap.size<=b->U b)(h:w'.ownsRow w.heap.size e s v n xs)
  (hb:Below w.heap.size w w') (hr:∀(H:Heap) (hv:View) (cs:List Value),cs.take (n * s)=xs->cO H hv s rows cs []):
  ∃gs M1 M2,Ending.returned v=.returned (Lc gs)/\Did P U w w' ([]++[]) [t] [] [] [] [[.sl true s rows]] gs M1 M2:=by
 have keep:Keep ([]++[]) w w':=⟨hb.os,hb.tape,hb.output,hb.size,λb hb' _=>hb.block b hb'⟩
 rcases h.2 with⟨rfl,h0⟩|⟨g,cap,cur,rfl,h1,h2,h3,h4,h5,h6⟩
 ·have hr0:rows=[]:=List.length_eq_zero_iff.1 au;subst hr0;refine⟨[_],[],[],rfl,keep,by simp,by simp,rfl,⟨rfl,rfl⟩, ?_⟩;simp only[Fj];refine⟨_,_,_,_,[],[],rfl,rfl,rfl,(sU hpt).2 ⟨[.slice none 0 0], ?_, ?_,rfl⟩,rfl,rfl,rfl⟩
  ·rw[valOf,if_neg (by rw[ht];simp)]
  ·simp only[dF];exact⟨_,[],[],[],rfl,rfl,by simp[ow],rfl⟩
 ·refine⟨[_],[],[g],rfl,keep,by simp,λb hb'=> ?_,rfl,⟨rfl,rfl⟩, ?_⟩
  ·simp only[List.nil_append,List.mem_singleton] at hb';subst hb';exact⟨.inr h1,(Array.getElem?_eq_some_iff.1 h2).1⟩
  ·simp only[Fj];refine⟨_,_,_,_,[g],[],rfl,rfl,by simp,(sU hpt).2 ⟨[.slice (some ⟨g,0,none⟩) n cap], ?_, ?_,rfl⟩,rfl,rfl,rfl⟩
   ·rw[valOf,if_neg (by rw[ht];simp)]
   ·simp only[dF];refine⟨_,[],[g],[],rfl,by simp, ?_,rfl⟩;simp only[ow];exact .inr ⟨g,cap,cur,e,[],by rw[hn],by rw[hn];exact h3,h2,h5,hr _ _ _ h6,rfl⟩
def Zg{fn:Func}{t:TypeId}{k:List Int}(hm:vI X.Bf f 0=0)(hr:fn.resultTypes.toList=[t])(ht:xZ X.P t=false)(hpt:OT X.P t=none)(hk:k.length * 8<=140737488355328)
  (C:∀(b off c:Nat) (zs:List Int) (w:World),zs.length * 8<=140737488355328->(∀j,j<zs.length->w.cell? ⟨b,off+j,none⟩=some (.int .i64 (zs.getD j 0)))->
   Calls X.P f #[.slice (some ⟨b,off,none⟩) zs.length c] w λe w'=>∃v',e=.returned v'/\w'.ownsRow w.heap.size 3 1 v' zs.length (zs.map (Value.int .i64))/\Below w.heap.size w w')
  (C0:∀(c:Nat) (w:World),Calls X.P f #[.slice none 0 c] w λe w'=>e=.returned (.slice none 0 0)/\w'=w)
  (C1:∀(a:Addr) (c:Nat) (w:World),Calls X.P f #[.slice (some a) 0 c] w λe w'=>∃v',e=.returned v'/\w'.ownsRow w.heap.size 3 1 v' 0 []/\Below w.heap.size w w')
  (base:Nat) (U:Nat->Prop) (w:World) (gargs eu:List Value) (N1 N2:List Nat) (hG:Given X base U w f [.d (.sl false 1 (encI k))] [] gargs eu N1 N2):
  Calls X.P f gargs.toArray w λe w'=>∃gs M1 M2,e=.returned (Lc gs)/\Did X.P U w w' (N1++N2) fn.resultTypes.toList [] [] eu [[.sl true 1 (encI k)]] gs M1 M2:=by
 obtain⟨rfl,rfl,rfl,hs⟩:=U6 hG (by intro i hi;simp at hi;subst hi;exact hm);have hU:=hG.up;rw[hr];simp only[bD,aC,ro] at hs;obtain⟨g,gs',rfl,⟨a,cap,rfl,hcap,hne⟩,rfl⟩:=hs;have hl:(encI k).length=k.length:=by simp[encI]
 rw[hl] at hcap|-;have res:∀(H:Heap) (hv:View) (cs:List Value),cs.take (k.length * 1)=k.map (Value.int .i64)->cO H hv 1 (encI k) cs []:=λH hv cs e=>FB (by rwa [Nat.mul_one] at e)
 by_cases h0:k=[]
 ·subst h0;cases a with
  |none=>refine(C0 cap w).mono ?_;rintro e w' ⟨rfl,rfl⟩;exact Zf (n:=0) (xs:=[]) (e:=3) ht hpt (Nat.le_refl _) rfl hU ⟨rfl,.inl ⟨rfl,rfl⟩⟩ (Below.refl _ _) (λ_ _ _ _=>rfl)
  |some a=>refine(C1 a cap w).mono ?_;rintro e w' ⟨v',rfl,h1,h2⟩;exact Zf (n:=0) (xs:=[]) ht hpt (Nat.le_refl _) rfl hU h1 h2 (λ_ _ _ _=>rfl)
 ·obtain⟨b,o,rfl,hrows⟩:=hne (by intro e;apply h0;simpa[encI] using e);refine(C b o cap k w hk (λj hj=> ?_)).mono ?_
  ·have:=RV hrows (show k[j]? =some (k.getD j 0) by simp[List.getD,List.getElem?_eq_getElem hj]);exact kS _ _ _ _ _ _ this
  ·rintro e w' ⟨v',rfl,h1,h2⟩;exact Zf ht hpt (Nat.le_refl _) hl hU h1 h2 res
end
end Go.Vm
namespace Go.Vm
open Go
open Go.IntKind (i64)
mutual
def Zh(P:Program):Nat->TypeId->Row->Prop
 |0,_,_=>False
 |n+1,t,row=>match P.underlying t with
  |some .bool=>∃b,row=[.bool b]
  |some (.int k)=>∃x,row=[.int k x]/\(Lit.int k x).wf=true
  |some .string=>∃s,row=[.str s]/\s.length<=maxLen
  |some (.slice e)=>∃rows,row=[.sl false (iM P e) rows]/\rows.length<=maxLen/\∀r,r∈rows->Zh P n e r
  |some (.struct fs)=>agh P n fs.toList row
  |_=>False
def agh(P:Program):Nat->List Field->Row->Prop
 |_,[],row=>row=[]
 |n,f::fs,row=>∃r1 r2,row=r1++r2/\Zh P n f.type r1/\agh P n fs r2
end
def QA(P:Program):Nat->List Field->Option Nat
 |o,[]=>some o
 |o,f::fs=>bif Nat.beq f.offset o then QA P (o+P.cellsOf f.type) fs else none
def RX(P:Program):Nat->TypeId->Bool
 |0,_=>false
 |n+1,t=>match P.underlying t with
  |some .bool|some (.int _)|some .string=>true
  |some (.slice e)=>RX P n e && Nat.ble 1 (iM P e)
  |some (.struct fs)=>(match QA P 0 fs.toList with|some o=>Nat.beq o (P.cellsOf t)|none=>false) && fs.toList.all λf=>RX P n f.type
  |_=>false
def aey(P:Program)(t:TypeId):iM P t=P.cellsOf t:=by unfold iM Program.cellsOf;cases P.info? t<;>rfl
def Vd{α β:Type}{f:α->Option β}:∀{l:List α} {r:List β},l.mapM f=some r->r.length=l.length/\∀(i:Nat) x,l[i]? =some x->∃y,f x=some y/\r[i]? =some y
 |[],r,h=>by simp at h;subst h;exact⟨rfl,λi x h=>by simp at h⟩
 |a::l,r,h=>by
  rw[List.mapM_cons] at h;simp only[Option.bind_eq_bind,Option.bind_eq_some_iff,Option.pure_def,dG] at h;obtain⟨y,h1,r',h2,rfl⟩:=h;obtain⟨h3,h4⟩:=Vd h2;refine⟨by simp[h3],λi x hx=> ?_⟩;cases i with
  |zero=>simp only[List.getElem?_cons_zero,dG] at hx;subst hx;exact⟨y,h1,rfl⟩
  |succ i=>simpa using h4 i x (by simpa using hx)
def adu{α:Type}{p:Nat->α->Prop}:∀(n k:Nat),(∀i,i<n->∃x,p (k+i) x)->∃l:List α,l.length=n/\∀(i:Nat) x,l[i]? =some x->p (k+i) x
 |0,_,_=>⟨[],rfl,λi x h=>by simp at h⟩
 |n+1,k,h=>by
  obtain⟨x,hx⟩:=h 0 au;obtain⟨l,h1,h2⟩:=adu n (k+1) (λi hi=>by
   have:=h (i+1) au
   rwa [show k+(i+1)=k+1+i by omega] at this)
  refine⟨x::l,by simp[h1],λi y hy=> ?_⟩;cases i with
  |zero=>simp only[List.getElem?_cons_zero,dG] at hy;subst hy;exact hx
  |succ i=>
   have:=h2 i y (by simpa using hy)
   rwa [show k+1+i=k+(i+1) by omega] at this
def aaI{h:View}:∀(r:Row) (b o:Nat) (cs:List Value),(∀(j:Nat) v,cs[j]? =some v->h b (o+j)=some v)->dY h r cs->nN h r b o
 |[],_,_,_,_,_=>trivial
 |x::r,b,o,cs,hc,⟨v,cs',e,h1,h2⟩=>by
  subst e;exact⟨⟨v,by simpa using hc 0 v rfl,h1⟩,aaI r b (o+1) cs' (λj u hj=>by
   have:=hc (j+1) u (by simpa using hj)
   rwa [show o+(j+1)=o+1+j by omega] at this) h2⟩
def X8{h:View}{s b:Nat}:∀(rs:List Row) (o:Nat),(∀(i:Nat) r,rs[i]? =some r->r.length=s/\nN h r b (o+i * s))->jC h s rs b o
 |[],_,_=>trivial
 |r::rs,o,hr=>by
  obtain⟨h1,h2⟩:=hr 0 r rfl;refine⟨h1,by simpa using h2,X8 rs (o+s) λi q hq=> ?_⟩;obtain⟨h3,h4⟩:=hr (i+1) q (by simpa using hq);refine⟨h3, ?_⟩
  rwa [show o+(i+1) * s=o+s+i * s by rw[Nat.succ_mul];omega] at h4
def RY{h:View}:∀{r1 r2:Row} {c1 c2:List Value},dY h r1 c1->r1.length=c1.length->dY h r2 c2->dY h (r1++r2) (c1++c2)
 |[],r2,c1,c2,_,hl,h2=>by have:c1=[]:=List.length_eq_zero_iff.1 hl.symm;subst this;exact h2
 |x::r1,r2,_,c2,⟨v,cs',e,h1,h3⟩,hl,h2=>by subst e;exact⟨v,cs'++c2,rfl,h1,RY h3 (by simpa using hl) h2⟩
def Ve{w:World}{base:Nat}{a:Addr}{n:Nat}{cs:List Value}(h:w.cells? base a n=some cs):cs.length=n/\∀j,j<n->∃v,w.cell? (a.add j)=some v/\cs[j]? =some v:=by
 unfold World.cells? at h;split at h
 ·obtain⟨h1,h2⟩:=Vd h;rw[List.length_range] at h1;refine⟨h1,λj hj=> ?_⟩;exact h2 j j (by simp[hj])
 ·cases h
section
variable {H:Type} {enc:TypeId×Value->H} {P:Program} {w:World} {base:Nat} {spare:Nat->Bool} {held:Bool}
def X9{n:Nat}(ih:∀(t:TypeId) (cs:List Value) (d:DataW H) (ps:List MemPlace),RX P n t=true->DataW.trod enc P w base spare held n t cs=some (d,ps)->∃row:Row,row.length=cs.length/\Zh P n t row/\dY (full w) row cs):
  ∀(fs:List Field) (o tot:Nat) (cs:List Value) (xs:List (DataW H×List MemPlace)),QA P o fs=some tot->(fs.all λf=>RX P n f.type)=true->tot<=cs.length->
   fs.mapM (λf=>DataW.trod enc P w base spare held n f.type ((cs.drop f.offset).take (P.cellsOf f.type)))=some xs->
   ∃row:Row,row.length=tot - o/\o<=tot/\agh P n fs row/\dY (full w) row ((cs.drop o).take (tot - o))
 |[],o,tot,cs,xs,hc,_,_,_=>by simp only[QA,dG] at hc;subst hc;exact⟨[],by simp,Nat.le_refl _,by simp[agh],trivial⟩
 |f::fs,o,tot,cs,xs,hc,hg,hle,hm=>by
  simp only[QA] at hc;cases hb:Nat.beq f.offset o with
  |false=>simp[hb] at hc
  |true=>
   simp only[hb,bZ] at hc;have hbo:=lq hb;simp only[List.all_cons,su] at hg;rw[List.mapM_cons] at hm;simp only[Option.bind_eq_bind,Option.bind_eq_some_iff,Option.pure_def,dG] at hm;obtain⟨y,h1,ys,h2,rfl⟩:=hm;obtain⟨apk,l2,le2,t2,s2⟩:=X9 ih fs _ tot cs ys hc hg.2 hle h2;obtain⟨ah1,l1,t1,s1⟩:=ih _ _ y.1 y.2 hg.1 h1;rw[hbo] at l1 s1;have hl:((cs.drop o).take (P.cellsOf f.type)).length=P.cellsOf f.type:=by simp;omega
   rw[hl] at l1;refine⟨ah1++apk,by simp[l1,l2];omega,au,by simp only[agh];exact⟨ah1,apk,rfl,t1,t2⟩, ?_⟩;have e:(cs.drop o).take (tot - o)=(cs.drop o).take (P.cellsOf f.type)++(cs.drop (o+P.cellsOf f.type)).take (tot - (o+P.cellsOf f.type)):=by rw[<-List.drop_drop,show tot - o=P.cellsOf f.type+(tot - (o+P.cellsOf f.type)) by omega,List.take_add]
   rw[e];exact RY s1 (by rw[l1,hl]) s2
def Zi:∀(n:Nat) (t:TypeId) (cs:List Value) (d:DataW H) (ps:List MemPlace),RX P n t=true->DataW.trod enc P w base spare held n t cs=some (d,ps)->
  ∃row:Row,row.length=cs.length/\Zh P n t row/\dY (full w) row cs
 |0,t,cs,d,ps,hg,_=>by simp[RX] at hg
 |n+1,t,cs,d,ps,hg,h=>by
  simp only[RX] at hg;unfold DataW.trod at h;cases hu:P.underlying t with
  |none=>simp[hu] at hg
  |some D=>
   rw[hu] at hg h;cases D with
   |bool=>split at h<;>simp_all;rename_i b;exact⟨[.bool b],by simp,by simp[Zh,hu],_,_,rfl,rfl,trivial⟩
   |int k=>split at h<;>simp_all;rename_i k' x _;obtain⟨⟨rfl,hw⟩,_⟩:=h;refine⟨[.int _ x],by simp, ?_,_,_,rfl,rfl,trivial⟩;simp only[Zh,hu];exact⟨x,rfl,hw⟩
   |string=>
    split at h<;>simp_all;rename_i s;refine⟨[.str s.data.toList],by simp, ?_,_,_,rfl, ?_,trivial⟩
    ·simp only[Zh,hu];refine⟨_,rfl, ?_⟩;simpa using h.1
    ·simp[ro]
   |slice e=>
    simp only[su] at hg;split at h
    all_goals first
     |(rename_i e1;cases e1;done)
     |(cases h;done)
     |(exfalso;rename_i h21 _ _ _ _ _ _ _ _ _ _ _ _ _ _ _ _ _ _ _;exact h21 _ rfl)
     |skip
    case h_7=>
     rename_i e1;refine⟨[.sl false (iM P e) []],rfl, ?_,_,_,rfl, ?_,trivial⟩
     ·simp only[Zh,hu];exact⟨[],rfl,by simp,λr hr=>by simp at hr⟩
     ·simp only[ro];exact⟨none,0,rfl,by simp,λhn=>absurd rfl hn⟩
    case h_8=>
     rename_i _ e' a len cap e1;cases e1;split at h
     ·rename_i hb;rw[Option.bind_eq_some_iff] at h;obtain⟨elems,hel,_⟩:=h;obtain⟨hl,hget⟩:=Vd hel;rw[List.length_range] at hl;have hs:=aey P e;have hpos:1<=P.cellsOf e:=by rw[<-hs];exact Nat.le_of_ble_eq_true hg.2
      have hrow:∀i,i<len->∃r:Row,Zh P n e r/\r.length=iM P e/\a.spot=none/\nN (full w) r a.block (a.off+i * iM P e):=by
       intro i hi;obtain⟨y,hy,_⟩:=hget i i (by simp[hi]);rw[Option.bind_eq_some_iff] at hy;obtain⟨cs,hcs,hy⟩:=hy;obtain⟨row,l1,t1,s1⟩:=Zi n e cs y.1 y.2 hg.1 hy;obtain⟨hcl,hcg⟩:=Ve hcs;refine⟨row,t1,by rw[l1,hcl,hs], ?_, ?_⟩
       ·obtain⟨y0,hy0,_⟩:=hget 0 0 (List.getElem?_range au);rw[Option.bind_eq_some_iff] at hy0;obtain⟨cs0,hcs0,_⟩:=hy0;obtain⟨u,hu1,_⟩:=(Ve hcs0).2 0 au;simpa[Addr.add] using World.cell?_spot hu1
       ·refine aaI row a.block _ cs (λj v hj=> ?_) s1;have hjn:j<P.cellsOf e:=by have:=(FK.1 hj).1;omega
        obtain⟨u,hu1,hu2⟩:=hcg j hjn;rw[hu2] at hj;cases hj;have hsp:=World.cell?_spot hu1;have e2:((a.add (i * P.cellsOf e)).add j)=⟨a.block,a.off+i * iM P e+j,none⟩:=by
         rw[hs];generalize i * P.cellsOf e=q at hsp|-;obtain⟨ab,ao,as_⟩:=a;rcases Nat.eq_zero_or_pos q with h1|h1<;>rcases Nat.eq_zero_or_pos j with h2|h2
         ·subst h1;subst h2;have:as_=none:=hsp;subst this;rfl
         ·subst h1;simp[Addr.add,show j≠0 by omega]
         ·subst h2;simp[Addr.add,show q≠0 by omega]
         ·simp[Addr.add,show q≠0 by omega,show j≠0 by omega]
        rw[e2] at hu1;exact hu1
      obtain⟨rows,r1,r2⟩:=adu (p:=λi (r:Row)=>Zh P n e r/\r.length=iM P e/\a.spot=none/\nN (full w) r a.block (a.off+i * iM P e)) len 0 (λi hi=>by rw[Nat.zero_add];exact hrow i hi);refine⟨[.sl false (iM P e) rows],rfl, ?_,_,_,rfl, ?_,trivial⟩
      ·simp only[Zh,hu];refine⟨rows,rfl,au,λr hr=> ?_⟩;obtain⟨i,hi⟩:=List.getElem?_of_mem hr;exact(r2 i r hi).1
      ·simp only[ro];refine⟨some a,cap,by rw[r1],au,λhn=> ?_⟩;have h0:∃r0,rows[0]? =some r0:=by
        cases rows with
        |nil=>exact absurd rfl hn
        |cons r0 _=>exact⟨r0,rfl⟩
       obtain⟨r0,h0⟩:=h0;have hsp:=(r2 0 r0 h0).2.2.1;refine⟨a.block,a.off, ?_,X8 rows a.off λi r hr=> ?_⟩
       ·obtain⟨ab,ao,as_⟩:=a;simp only at hsp;subst hsp;rfl
       ·obtain⟨_,h2,_,h4⟩:=r2 i r hr;rw[Nat.zero_add] at h4;exact⟨h2,h4⟩
     ·cases h
   |struct fs=>
    simp only[su] at hg;split at h
    all_goals first
     |(rename_i e1;cases e1;done)
     |(cases h;done)
     |(exfalso;rename_i h21 _ _ _ _ _ _ _ _ _ _ _ _ _ _ _ _ _ _ _;exact h21 _ rfl)
     |skip
    case h_9=>
     rename_i _ fs' cs' e1;cases e1;split at h
     ·rename_i hcl;rw[Option.map_eq_some_iff] at h;obtain⟨xs,hxs,_⟩:=h;cases hc:QA P 0 fs.toList with
      |none=>simp[hc] at hg
      |some tot=>simp only[hc] at hg;have htot:=lq hg.1;obtain⟨row,l1,_,t1,s1⟩:=X9 (λt cs d ps hg h=>Zi n t cs d ps hg h) fs.toList 0 tot _ xs hc hg.2 au hxs;refine⟨row,by rw[l1];omega,by simp only[Zh,hu];exact t1, ?_⟩;simpa[htot,<-hcl] using s1
     ·cases h
   |_=>simp at hg
end
end Go.Vm
namespace Go.Vm
open Go Go.RowKit
open Go.IntKind (i64)
def Ya{A:ZU}{f:Nat}(hm:A.move f=[]){μ:Nat->Value}{m:Mem}{H:Heap}{h:View}:∀{vs:List V} {gs:List Value} (i:Nat),bD μ m h vs gs->F8 A f μ m H h i vs gs []
 |[],gs,i,q=>by simp only[bD] at q;simp only[F8];exact⟨q,trivial⟩
 |v::vs,gs,i,q=>by
  simp only[bD] at q;obtain⟨g,gs',rfl,h1,h2⟩:=q;simp only[F8];refine⟨g,gs',[],[],rfl,rfl, ?_,Ya hm (i+1) h2⟩;split
  ·rename_i hmo;simp only[vI,hm,mem?,dX] at hmo;cases hr:mem? i (A.ref f)<;>cases hr2:mem? i (A.raw f)<;>cases hr3:mem? i (A.look f)<;>simp[hr,hr2,hr3] at hmo
  ·exact⟨rfl,h1⟩
def aez{X:Ctx}(hp:YX X){f:Nat}{fn:Func}{t:TypeId}{args:List V}{gargs:List Value}{w:World}(hf:X.P.funcs[f]? =some fn)(hb:fn.body.isSome=true)(hr:fn.resultTypes=#[t])(ht:xZ X.P t=false)(hpt:OT X.P t=none)(hm:X.Bf.move f=[])(hgl:O7 X (full w))(htb:abM X w)
  (hs:bD (impμ []) [] (full w) args gargs) (h:call X f args []=some ([[.bool true]],[])):
  Calls X.P f gargs.toArray w λe w'=>e=.returned (.bool true)/\Below w.heap.size w w':=by
 have hG:Given X 0 (λ_=>True) w f args [] gargs [] [] []:=by
  have hv:(full w).le (view w (λ_=>True) (· ∈([]:List Nat)++[])):=by intro b o v h;exact TB trivial (by simp) h
  refine⟨by simp,by simp,λ_ _=>trivial,Nat.zero_le _, ?_,⟨rfl,rfl⟩,yc hv hgl,htb⟩;exact I9 (kQ _ _) hv (λ_ _=>rfl) (Ya (H:=aX w) hm 0 hs)
 refine(ahM hp f fn args [] [[.bool true]] [] hf hb h 0 (λ_=>True) w gargs [] [] [] hG).mono ?_;rintro e w' ⟨gs,M1,M2,rfl,D⟩;have hres:=D.res;rw[hr] at hres;simp only[Fj] at hres;obtain⟨row,rows',g,gs',N1,N2,e1,e2,_,hv,e3,e4,_⟩:=hres;rw[sU hpt] at hv;obtain⟨cs,hv,ho,hl⟩:=hv;simp only[List.cons.injEq] at e1;obtain⟨rfl,rfl⟩:=e1;subst e4;subst e2;simp only[valOf,ht,Bool.false_eq_true,if_false] at hv;subst hv;simp only[dF,ow] at ho;obtain⟨v,cs',N1,N2,e5,_,⟨rfl,_⟩,_⟩:=ho;simp only[List.cons.injEq] at e5;obtain⟨rfl,_⟩:=e5;refine⟨rfl,⟨D.keep.os,D.keep.tape,D.keep.output,D.keep.size,λk hk=>D.keep.block k hk (by simp)⟩⟩
section
variable {H:Type} {enc:TypeId×Value->H} {P:Program} {w:World} {base:Nat} {spare:Nat->Bool} {held:Bool} {t:TypeId} {v:Value} {d:DataW H} {ps:List MemPlace}
def ah2{μ:Nat->Value}{m:Mem}(h:DataW.Trod enc P w base spare held t v d ps)(hg:∀n,RX P (n+8) t=true)(hv:v.cells.toList=[v]):
  ∃n x,Zh P (n+8) t [x]/\aC μ m (full w) (.d x) v:=by
 obtain⟨n,hn⟩:=h;have hn':DataW.trod enc P w base spare held (n+8) t v.cells.toList=some (d,ps):=DataW.trod_le (Nat.le_add_right n 8) hn;obtain⟨row,hl,ht,hs⟩:=Zi (n+8) t _ d ps (hg n) hn';rw[hv] at hl hs;cases row with
 |nil=>simp at hl
 |cons x r=>
  cases r with
  |cons _ _=>simp at hl
  |nil=>obtain⟨u,cs',e,h1,_⟩:=hs;simp only[List.cons.injEq] at e;obtain⟨rfl,_⟩:=e;exact⟨_,x,ht,by simpa[aC] using h1⟩
end
section
variable {P:Program} {n:Nat} {t:TypeId} {row:Row}
def ah3{k:IntKind}(hu:P.underlying t=some (.int k))(h:Zh P (n+1) t row):∃x,row=[.int k x]/\(Lit.int k x).wf=true:=by simpa[Zh,hu] using h
def amk{e:TypeId}(hu:P.underlying t=some (.slice e))(h:Zh P (n+1) t row):∃rows,row=[.sl false (iM P e) rows]/\rows.length<=maxLen/\∀r,r∈rows->Zh P n e r:=by simpa[Zh,hu] using h
def aaJ{α:Type}{f:α->Row}{p:α->Prop}:∀{rows:List Row},(∀r,r∈rows->∃x,r=f x/\p x)->∃l:List α,rows=l.map f/\∀x,x∈l->p x
 |[],_=>⟨[],rfl,λx h=>by simp at h⟩
 |r::rows,h=>by
  obtain⟨x,hx,hp⟩:=h r (by simp);obtain⟨l,hl,hq⟩:=aaJ (rows:=rows) (λr hr=>h r (by simp[hr]));refine⟨x::l,by simp[hx,hl],λy hy=> ?_⟩;rcases List.mem_cons.1 hy with rfl|hy
  ·exact hp
  ·exact hq y hy
end
end Go.Vm
namespace Go.Vm
open Go
open Go.IntKind (i64)
section
variable {H:Type} {enc:TypeId×Value->H}
def Vf{a:Assume}{C:Checked}{os:Os}{f:FuncId}{fn:Func}{s:ChangeSpec}{conds:List PathCond}{apart fresh handsOn again:Bool}{X:World->Array Value->Prop}
  (hX:∀(w w':World) (args:Array Value),w.heap=w'.heap->X w args->X w' args)
  (own:ownKnob C.prog.godebug=none) (started:os.Started) (noInit:C.prog.inits.idxOf? f=none) (hfn:C.prog.funcs[f]? =some fn)
  (witness:∃(w:World) (tape:Tape) (i:Input),w.os=os/\(w.forCall tape i).Shaped C.prog/\i.vars=[]/\Input.okWide C.prog (w.forCall tape i) .any w.heap.size f i/\
   ((s.pre enc C.prog fn conds apart (w.forCall tape i).memory i.args/\X (w.forCall tape i).memory i.args)/\sizedMet enc C.prog fn (OpenSpec.ofChange s) apart (w.forCall tape i).memory i.args)/\a.holds C.prog (lone (Frame.enter C.prog f i.args .normal) [] (w.forCall tape i)))
  (contract:∀(W:World) (base:Nat) (args:Array Value) (ds gs:List (DataW H)) (before:List MemPlace),
   (∀(j:Nat) t v,fn.params[j]? =some t->args[j]? =some v->Value.okWide C.prog W .any base t v)->
   DataW.Whole enc C.prog fn.params.toList s.vars apart W args.toList ds gs before->X W args->W.ShapedOpen C.prog->
   Calls C.prog f args W λe W'=>∃v,e=.returned v/\s.post enc C.prog fn apart fresh handsOn again W args v W'):
  ReturnsInHanded a C os f .any (λw args=>(s.pre enc C.prog fn conds apart w args/\X w args)/\sizedMet enc C.prog fn (OpenSpec.ofChange s) apart w args) (s.post enc C.prog fn apart fresh handsOn again):=by
 refine returnsInHanded_of_calls own started noInit witness ?_;rintro w tape i _ shp _ ⟨_,_,_,g,hg,_,_,_,_,val⟩ ⟨⟨⟨ds,gs,before,whole,_⟩,hx⟩,_⟩ _;have e:g=fn:=Option.some.inj (hg.symm.trans hfn);rw[e] at val;have c:=contract (w.forCall tape i) w.heap.size i.args ds gs before val (DataW.Whole.of_heap (w':=w.forCall tape i) (by rfl) whole) (hX _ _ _ (by rfl) hx) shp;refine c.mono ?_;rintro e W' ⟨v,rfl,hp⟩;exact ChangeSpec.post_blind hp
end
def Vg{h:View}{g:Nat}:∀(row:Row) (o:Nat),(∀(j:Nat) x,row[j]? =some x->∃v,h g (o+j)=some v/\ro h x v)->nN h row g o
 |[],_,_=>trivial
 |x::row,o,q=>⟨by simpa using q 0 x rfl,Vg row (o+1) λj y hj=>by
   have:=q (j+1) y (by simpa using hj)
   rwa [show o+(j+1)=o+1+j by omega] at this⟩
def QB{P:Program}{w:World}{nm:String}{g t e n fuel:Nat}{cs:Array Value}{ss:List (List UInt8)}{p:List MemPlace}(hu:P.underlying t=some (.array n e))(he:P.underlying e=some .string)(hc:P.cellsOf e=1)
  (hg:P.globalNamed nm=some g) (hv:w.var? P nm=some cs) (h:DataW.trod (λ_=>()) P w 0 (λ_=>true) false fuel t cs.toList=some (.agg (ss.map λs=> .lit (.string s)),p)):nN (full w) (ss.map D.str) g 0:=by
 obtain⟨xs,m,rfl,hx,hcl,hxl,hel⟩:=DataW.trod_array hu h;simp only[eH,DataW.agg.injEq] at hx;refine Vg _ 0 λj x hj=> ?_
 rw[List.getElem?_map] at hj;cases hs:ss[j]? with
 |none=>rw[hs] at hj;cases hj
 |some s=>
  rw[hs] at hj;cases hj;have hjl:j<ss.length:=(FK.1 hs).1;have hlen:ss.length=xs.length:=by have:=congrArg List.length hx.1;simpa using this
  obtain⟨y,hy⟩:∃y,xs[j]? =some y:=⟨xs[j]'au,by simp⟩
  have hh:=hel j au;rw[hy] at hh;obtain⟨b,hb1,hb2,_⟩:=DataW.trod_string he hh;have hyx:y.1=.lit (.string s):=by have:=congrArg (λl=>l[j]?) hx.1;simp only[List.getElem?_map,hs,hy,Eh,dG] at this;exact this.symm
  rw[hb2] at hyx;simp only[DataW.lit.injEq,Lit.string.injEq] at hyx;rw[hc,Nat.mul_one] at hb1;have hcell:cs[j]? =some (.string b):=by have:=congrArg (λl=>l[0]?) hb1;simpa using this
  refine⟨.string b, ?_, ?_⟩
  ·have:=World.var?_cell hg hv j;rw[Nat.zero_add];show w.cell? ⟨g,j,none⟩=_;rw[this];exact hcell
  ·simp only[ro];rw[<-hyx]
end Go.Vm
