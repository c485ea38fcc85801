import Derived.Test.YtcallmiaialhkaaGreatDoorEvRd
import Derived.Test.YtcallmiaialhkaaGreatDoorVm5
import Derived.Test.YtcallmiaialhkaaGreatDoorVm4
set_option linter.defProp false
namespace Go.Proofs.YtcallmiaialhkaaGreatDoor
set_option linter.unusedVariables false
set_option linter.unusedSimpArgs false
open Go Go.Vm
open Go.IntKind (i64)
open Int (reduceLE reduceLT reduceSub reduceAdd)
def cR(s:Cu):ay:=s.code.map byteRow
structure LU(s:Cu):Prop where
 i:s.i<=s.code.length
 l:s.code.length<=1048576
def LU.st{s:Cu}(h:LU s)(p:Nat):LU (s.st p):=⟨by rw[Cu.agf s h.i,Cu.Ad];omega,by rw[Cu.Ad];exact h.l⟩
def aeU(x:Int):i64.wrap (↑(BitVec.ofInt 64 x &&& BitVec.ofInt 64 255).toNat:Int)=(PU x:Int):=by have:=adt x;show i64.wrap (PU x:Int)=_;exact aB au au
def akz{s:Cu}(h:LU s):M.jI (cR s) s.i s.h=some ((s.byte:Int),cR s.nx,(s.nx.i:Int),s.nx.h):=by
 have hi:=h.i;have hl:=h.l;simp only[M.jI,M.Ep,aeU];have e1:(cR s).length=s.code.length:=by simp[cR]
 have e2:cR s.nx=cR s:=rfl;have e3:s.nx.h=i64.wrap (i64.wrap (s.h * 6364136223846793005)+1442695040888963407):=rfl;rw[e1,e2,e3]
 by_cases hlt:s.i<s.code.length
 ·obtain⟨b,hb⟩:∃b,s.code[s.i]? =some b:=⟨s.code[s.i],by simp[hlt]⟩
  have hr:idx (cR s) (s.i:Int)=some (byteRow b):=by rw[bT,cR,List.getElem?_map,hb];rfl
  have hc:gW .u8 (byteRow b) 0=some (b.toNat:Int):=rfl;have hn:(s.nx.i:Int)=(s.i:Int)+1:=by show((if s.i<s.code.length then s.i+1 else s.i:Nat):Int)=_;rw[if_pos hlt];omega
  have hby:s.byte=PU (i64.wrap ((PU (aaG (OO s.h)):Int)+b.toNat)):=by rw[Cu.byte,hb]
  have hb8:(b.toNat:Int)<=255:=by have:=b.toNat_lt;omega
  rw[zdt au,bZ,hr,aj,hc,aj,aB (n:=(b.toNat:Int)) au au,aB (n:=(s.i:Int)+1) au au,hn,hby];rfl
 ·have hb:s.code[s.i]? =none:=List.getElem?_eq_none au;have hn:(s.nx.i:Int)=(s.i:Int):=by show((if s.i<s.code.length then s.i+1 else s.i:Nat):Int)=_;rw[if_neg hlt]
  have hby:s.byte=PU (aaG (OO s.h)):=by rw[Cu.byte,hb]
  rw[pX au,dX,hn,hby];rfl
def cS(s:Cu)(p:Nat):ay×Int×Int:=(cR (s.st p),((s.st p).i:Int),(s.st p).h)
section
variable {s:Cu} (h:LU s)
include h
theorem byte_at(p:Nat):M.jI (cS s p).1 (cS s p).2.1 (cS s p).2.2=some ((s.g p:Int),cS s (p+1)):=by show M.jI (cR (s.st p)) ((s.st p).i:Int) (s.st p).h=_;rw[akz (h.st p)];show _=some (((s.st p).byte:Int),(cR (s.st (p+1)),((s.st (p+1)).i:Int),(s.st (p+1)).h));rw[Cu.st_succ]
theorem iI(p n:Nat)(h1:1<=n)(h2:n<=256):M.aG (n:Int) (cS s p).1 (cS s p).2.1 (cS s p).2.2=some (((s.g p % n:Nat):Int),cS s (p+1)):=by simp only[M.aG,M.sZ,byte_at h,aj];rw[pX au,dX,zdt au,bZ,pX au];simp only[Bool.not_false,bZ];rw[Int.tmod_eq_emod_of_nonneg au,Int.natCast_emod]
theorem QU(p:Nat)(n:Int)(hn:n<=1000000000):∃(k:Int) (q:Nat),M.aG n (cS s p).1 (cS s p).2.1 (cS s p).2.2=some (k,cS s q)/\p<=q/\q<=p+4/\0<=k/\(k<n\/(n<=0/\k=0)):=by
 by_cases h0:n<=0
 ·refine⟨0,p, ?_,zav _,au,au,.inr ⟨h0,rfl⟩⟩;simp only[M.aG,M.sZ];rw[zdt h0,bZ]
 ·by_cases h1:n<=256
  ·obtain⟨m,rfl⟩:=Int.eq_ofNat_of_zero_le (a:=n) au;have h1':m<=256:=au;have h0':1<=m:=au;refine⟨_,_,iI h p m h0' h1',au,au,au,.inl ?_⟩;have:=Nat.mod_lt (s.g p) (show 0<m by omega);exact Int.ofNat_lt.2 this
  ·refine⟨((((s.g p:Int) * 16777216+(s.g (p+1):Int) * 65536)+(s.g (p+2):Int) * 256)+(s.g (p+3):Int)) % n,p+4, ?_,au,au,Int.emod_nonneg _ au,.inl (Int.emod_lt_of_pos _ au)⟩;have hb:∀q,(s.g q:Int)<256:=λq=>by have:=(s.st q).ahZ;exact Int.ofNat_lt.2 this
   have b0:=hb p;have b1:=hb (p+1);have b2:=hb (p+2);have b3:=hb (p+3);simp only[M.aG,M.sZ,byte_at h,aj];rw[pX h0,dX,pX h1,dX,pX au];simp only[Bool.not_false,bZ];rw[show p+1+1=p+2 from rfl,show p+2+1=p+3 from rfl,show p+3+1=p+4 from rfl];rw[aB (n:=(s.g p:Int) * 16777216) au au,aB (n:=(s.g (p+1):Int) * 65536) au au,aB (n:=(s.g (p+2):Int) * 256) au au,
    aB (n:=(s.g p:Int) * 16777216+(s.g (p+1):Int) * 65536) au au,aB (n:=(s.g p:Int) * 16777216+(s.g (p+1):Int) * 65536+(s.g (p+2):Int) * 256) au au,
    aB (n:=(s.g p:Int) * 16777216+(s.g (p+1):Int) * 65536+(s.g (p+2):Int) * 256+(s.g (p+3):Int)) au au,Int.tmod_eq_emod_of_nonneg au]
theorem Kr(p n:Nat)(h1:1<=n)(h2:n<=256):M.gZ (n:Int) (cS s p).1 (cS s p).2.1 (cS s p).2.2=some (s.g p % n==0,cS s (p+1)):=by
 simp only[M.gZ,M.Eu,iI h p n h1 h2,aj];congr 2;cases hc:s.g p % n==0 with
 |true=>simp only[beq_iff_eq] at hc;rw[hc];rfl
 |false=>simp only[ZQ,ne_eq] at hc;exact ZQ.2 au
end
def uG(t:aT):Prop:=t.length<=100
def pkS(rows:ay)(k:Nat):aT:=match rows[k % rows.length]? with
 |some [.str t]=>t
 |_=>[]
def pkI(rows:ay)(k:Nat):Int:=match rows[k % rows.length]? with
 |some [.int .i64 n]=>n
 |_=>0
def Ju(f:Row->Bool)(rows:ay):Bool:=rows.all f &&(Nat.ble 1 rows.length && Nat.ble rows.length 256)
def sB:Row->Bool
 |[.str t]=>Nat.ble t.length 100
 |_=>false
def iB:Row->Bool
 |[.int .i64 n]=>decide (-1000<=n) && decide (n<=1000)
 |_=>false
def Qc{f:Row->Bool}{rows:ay}(hr:Ju f rows=true)(k:Nat):∃r,rows[k % rows.length]? =some r/\f r=true/\1<=rows.length/\rows.length<=256:=by simp only[Ju,su] at hr;have h1:=Nat.le_of_ble_eq_true hr.2.1;have h2:=Nat.le_of_ble_eq_true hr.2.2;have hm:=Nat.mod_lt k (show 0<rows.length by omega);exact⟨rows[k % rows.length],by simp[hm],List.all_eq_true.1 hr.1 _ (List.getElem_mem hm),h1,h2⟩
def o7{rows:ay}(hr:Ju sB rows=true)(k:Nat):uG (pkS rows k):=by
 obtain⟨r,h1,h2,_⟩:=Qc hr k;unfold pkS;rw[h1];unfold sB at h2;split at h2
 ·exact Nat.le_of_ble_eq_true h2
 ·cases h2
def uH{rows:ay}(hr:Ju iB rows=true)(k:Nat): -1000<=pkI rows k/\pkI rows k<=1000:=by
 obtain⟨r,h1,h2,_⟩:=Qc hr k;unfold pkI;rw[h1];unfold iB at h2;split at h2
 ·simpa using h2
 ·cases h2
section
variable {s:Cu} (h:LU s)
include h
theorem xY(p:Nat)(rows:ay)(hr:Ju sB rows=true):M.bM rows (cS s p).1 (cS s p).2.1 (cS s p).2.2=some (pkS rows (s.g p),cS s (p+1)):=by
 obtain⟨r,h1,h2,h3,h4⟩:=Qc hr (s.g p);simp only[M.bM,M.Es];rw[iI h p rows.length h3 h4,aj];simp only[bT,h1,aj,pkS];unfold sB at h2;split at h2
 ·rfl
 ·cases h2
theorem Aa(p:Nat)(rows:ay)(hr:Ju iB rows=true):M.cZ rows (cS s p).1 (cS s p).2.1 (cS s p).2.2=some (pkI rows (s.g p),cS s (p+1)):=by
 obtain⟨r,h1,h2,h3,h4⟩:=Qc hr (s.g p);simp only[M.cZ,M.yZ];rw[iI h p rows.length h3 h4,aj];simp only[bT,h1,aj,pkI];unfold iB at h2;split at h2
 ·rfl
 ·cases h2
theorem Gy(p:Nat):∃t,uG t/\M.fH (cS s p).1 (cS s p).2.1 (cS s p).2.2=some (t,cS s (p+1)):=by refine⟨_, ?_,by simp only[M.fH,M.Ew];rw[xY h p _ rfl];rfl⟩;exact o7 rfl _
theorem aon(p:Nat):∃t,uG t/\M.yx (cS s p).1 (cS s p).2.1 (cS s p).2.2=some (t,cS s (p+1)):=by refine⟨_, ?_,by simp only[M.yx,M.Gn];rw[xY h p _ rfl];rfl⟩;exact o7 rfl _
theorem aoo(p:Nat):∃t,uG t/\M.yA (cS s p).1 (cS s p).2.1 (cS s p).2.2=some (t,cS s (p+1)):=by refine⟨_, ?_,by simp only[M.yA,M.Gp];rw[xY h p _ rfl];rfl⟩;exact o7 rfl _
theorem aop(p:Nat):∃t,uG t/\M.yB (cS s p).1 (cS s p).2.1 (cS s p).2.2=some (t,cS s (p+1)):=by refine⟨_, ?_,by simp only[M.yB,M.Gq];rw[xY h p _ rfl];rfl⟩;exact o7 rfl _
theorem ahd(p:Nat):∃t:Int, -1000<=t/\t<=1000/\M.qF (cS s p).1 (cS s p).2.1 (cS s p).2.2=some (t,cS s (p+1)):=by
 refine⟨_, ?_, ?_,by simp only[M.qF,M.BX];rw[Aa h p _ rfl];rfl⟩
 ·exact(uH rfl _).1
 ·exact(uH rfl _).2
end
def alE(n:Nd):Prop:=(-1000<=n.kind/\n.kind<=1000)/\(-1000<=n.op/\n.op<=1000)/\uG n.text/\uG n.other
def Bv(t:Tn):Prop:=∀b n,n∈t.flat b->alE n
def Yw:∀{ts:List Tn} {b:Nat} {n:Nd},n∈iZ ts b->∃t,t∈ts/\∃b',n∈t.flat b'
 |[],b,n,h=>by simp[iZ] at h
 |t::ts,b,n,h=>by
  rw[iZ,List.mem_append] at h;rcases h with h|h
  ·exact⟨t,by simp,b,h⟩
  ·obtain⟨u,h1,h2⟩:=Yw h;exact⟨u,by simp[h1],h2⟩
def TQ{k op:Int}{x y:aT}{ts:List Tn}(hk: -1000<=k/\k<=1000)(ho: -1000<=op/\op<=1000)(hx:uG x)(hy:uG y)(h:∀t,t∈ts->Bv t):Bv (.mk k op x y ts):=by
 intro b n hn;rw[Tn.flat,List.mem_append] at hn;rcases hn with hn|hn
 ·obtain⟨t,h1,b',h2⟩:=Yw hn;exact h t h1 b' n h2
 ·rw[List.mem_singleton.1 hn];exact⟨hk,ho,hx,hy⟩
def aW:uG []:=by simp[uG]
abbrev DF:=Nat->Nat×Nat
def up(r:Nat×Nat):Nat×Nat:=(r.1+1,r.2)
def lQ(a b:DF):DF:=λp=>((a p).1+(b (a p).2).1,(b (a p).2).2)
def Qd(e:DF):Nat->DF
 |0,p=>(0,p)
 |n+1,p=>((e p).1+(Qd e n (e p).2).1,(Qd e n (e p).2).2)
def abj(g:Nat->Nat)(p:Nat):Nat:=bif Nat.beq (g p % 7) 2 then p+3 else p+2
def SC(g:Nat->Nat):DF:=λp=>(1,abj g p)
def lvS(g:Nat->Nat)(e1 e2:DF):DF:=λp=>match g p % 4 with
 |0=>up (e1 (p+2))
 |1=>up (e2 (p+1))
 |_=>(1,p+2)
def zK(g:Nat->Nat)(e:DF)(least w:Nat):DF:=λp=>Qd e (least+g p % w) (p+1)
def FH(g:Nat->Nat)(e0 e1 e2:DF):DF:=λp=>match g (p+1) % 16 with
 |0=>SC g (p+2)
 |1=>lvS g e0 e1 (p+2)
 |2=>up (e0 (p+2))
 |3=>up (zK g e0 0 4 (p+3))
 |4=>up (zK g e1 0 4 (p+3))
 |5=>up (lvS g e1 e2 (p+2))
 |6=>up (lvS g e1 e2 (p+2))
 |7=>up (e0 (p+3))
 |8=>up (e0 (p+3))
 |9=>up (zK g e0 1 2 (p+3))
 |10=>up (Qd e0 3 (p+2))
 |11=>up (lQ (lvS g e1 e2) e0 (p+3))
 |_=>up (Qd e0 2 (p+3))
def ZF{g:Nat->Nat}{e0 e1 e2:DF}{p:Nat}(h:12<=g (p+1) % 16):FH g e0 e1 e2 p=up (Qd e0 2 (p+3)):=by unfold FH;split<;>first|omega|rfl
def IW(g:Nat->Nat):Nat->DF×DF×DF
 |0=>(SC g,SC g,SC g)
 |d+1=>(FH g (IW g d).1 (IW g d).2.1 (IW g d).2.2,(IW g d).1,(IW g d).2.1)
def dH(g:Nat->Nat)(d:Nat):DF:=(IW g d).1
def ahe(g:Nat->Nat):∀d,IW g d=(dH g d,dH g (d - 1),dH g (d - 2))
 |0=>rfl
 |1=>rfl
 |d+2=>rfl
def Wy(g:Nat->Nat)(d:Nat):dH g (d+1)=FH g (dH g d) (dH g (d - 1)) (dH g (d - 2)):=by show FH g (IW g d).1 (IW g d).2.1 (IW g d).2.2=_;rw[ahe]
def acN(g:Nat->Nat):dH g 0=SC g:=rfl
def Bd(b:Nat)(e:DF):Prop:=∀p,1<=(e p).1/\p+(e p).1<=(e p).2/\(e p).2<=p+b
def Bd.mono{b b':Nat}{e:DF}(h:Bd b e)(hb:b<=b'):Bd b' e:=λp=>by have:=h p;omega
def LV{b:Nat}{e:DF}(h:Bd b e):∀n p,n<=(Qd e n p).1/\p+(Qd e n p).1<=(Qd e n p).2/\(Qd e n p).2<=p+n * b
 |0,p=>by simp[Qd]
 |n+1,p=>by have h1:=h p;have h2:=LV h n (e p).2;rw[Qd,Nat.add_mul];simp only;omega
def adI(g:Nat->Nat):Bd 3 (SC g):=λp=>by show 1<=1/\p+1<=abj g p/\abj g p<=p+3;unfold abj;cases Nat.beq (g p % 7) 2<;>simp
def ahf{g:Nat->Nat}{b:Nat}{e1 e2:DF}(h1:Bd b e1)(h2:Bd b e2):Bd (b+2) (lvS g e1 e2):=λp=>by unfold lvS up;have a:=h1 (p+2);have c:=h2 (p+1);split<;>first|omega|(simp only;omega)
def Kt{g:Nat->Nat}{b:Nat}{e:DF}(h:Bd b e)(least w:Nat)(hw:1<=w)(p:Nat):p+1+(zK g e least w p).1<=(zK g e least w p).2/\(zK g e least w p).2<=p+1+(least+w - 1) * b:=by unfold zK;have:=LV h (least+g p % w) (p+1);have hm:=Nat.mod_lt (g p) (show 0<w by omega);have h2:(least+g p % w) * b<=(least+w - 1) * b:=Nat.mul_le_mul_right b au;omega
def akA{g:Nat->Nat}{b:Nat}{e0 e1 e2:DF}(hb:3<=b)(h0:Bd b e0)(h1:Bd b e1)(h2:Bd b e2):Bd (3 * b+4) (FH g e0 e1 e2):=λp=>by unfold FH up lQ;have a2:=h0 (p+2);have a3:=h0 (p+3);have l0:=adI g (p+2);have v0:=ahf (g:=g) h0 h1 (p+2);have v2:=ahf (g:=g) h1 h2 (p+2);have v3:=ahf (g:=g) h1 h2 (p+3);have b3:=h0 (lvS g e1 e2 (p+3)).2;have i3:=LV h0 3 (p+2);have i2:=LV h0 2 (p+3);have s0:=Kt (g:=g) h0 0 4 au (p+3);have s1:=Kt (g:=g) h1 0 4 au (p+3);have s9:=Kt (g:=g) h0 1 2 au (p+3);split<;>first|omega|(simp only;omega)
def bE:Nat->Nat
 |0=>3
 |d+1=>3 * bE d+4
def alF:∀d,3<=bE d
 |0=>zav _
 |d+1=>by have:=alF d;rw[bE];omega
def ZG:∀d,bE (d - 1)<=bE d/\bE (d - 2)<=bE d
 |0=>⟨zav _,zav _⟩
 |1=>by decide
 |d+2=>by have h1:d+2 - 1=d+1:=rfl;have h2:d+2 - 2=d:=rfl;rw[h1,h2,show bE (d+2)=3 * bE (d+1)+4 from rfl,show bE (d+1)=3 * bE d+4 from rfl];omega
def jk(g:Nat->Nat)(d:Nat):Bd (bE d) (dH g d):=by
 induction d using Nat.strongRecOn with
 |_ d ih=>
  cases d with
  |zero=>exact adI g
  |succ d=>rw[Wy];have hm:=ZG d;exact akA (alF d) (ih d au) ((ih (d - 1) au).mono hm.1) ((ih (d - 2) au).mono hm.2)
abbrev DR:=Option zas
def LW(m:DR)(s:Cu)(r:Nat×Nat):Prop:=∃t:Tn,m=some (aH true (t.flat 0),cS s r.2)/\t.size=r.1/\Bv t
def rowT(t:Tn):Row:=[D.sl true 5 (aH true (t.flat 0))]
def DL(m:DR)(s:Cu)(r:Nat×Nat):Prop:=∃ts:List Tn,m=some (ts.map rowT,cS s r.2)/\sizes ts=r.1/\ts.length<=10/\∀t,t∈ts->Bv t
def adJ(ts:List Tn):aF (ts.map rowT)=parts ts:=aa6 true true ts
def bd{α:Type}{m:Option α}{x:α}{k:α->DR}{s:Cu}{r:Nat×Nat}(e:m=some x)(hk:LW (k x) s r):LW (m.bind k) s r:=by rw[e];exact hk
def made{s:Cu}{q:Nat}(k op:Int)(x y:aT)(ts:List Tn){z:Nat}(hz:sizes ts+1=z)(hs:z<=900000)(hk: -1000<=k/\k<=1000)(ho: -1000<=op/\op<=1000)(hx:uG x)(hy:uG y)(h:∀t,t∈ts->Bv t):
  LW ((M.aN k op x y [] (aF (ts.map rowT))).bind λr=>bif[[D.sl true 5 r]].all bY then some (r,(cS s q).1,(cS s q).2.1,(cS s q).2.2) else none) s (z,q):=by
 refine⟨.mk k op x y ts, ?_, ?_,TQ hk ho hx hy h⟩
 ·rw[adJ,Zy k op x y [] ts au,aj,MJ,bZ]
 ·rw[Tn.size];exact hz
def uI{t:Tn}(h:Bv t):∀u,u∈[t]->Bv u:=λu hu=>by rw[List.mem_singleton.1 hu];exact h
def Jv{s:Cu}{q:Nat}(k:Int)(x:aT)(hk: -1000<=k/\k<=1000)(hx:uG x):LW (some ([[D.int IntKind.i64 k,D.int IntKind.i64 0,D.str x,D.str [],D.sl true 1 []]],(cS s q).1,(cS s q).2.1,(cS s q).2.2)) s (1,q):=
 ⟨.mk k 0 x [] [],rfl,rfl,TQ hk au hx aW (by simp)⟩
def H8{s:Cu}{e:DF}{b:Int×ay×Int×Int×ay->Option ((Int×ay×Int×Int×ay)⊕zal)}
  (hz:∀p x,b (0,(cS s p).1,(cS s p).2.1,(cS s p).2.2,x)=some (.inr (0,(cS s p).1,(cS s p).2.1,(cS s p).2.2,x)))
  (hs:∀(n p:Nat) (ts:List Tn),n<=10->ts.length<=20->∃t,b (((n+1:Nat):Int),(cS s p).1,(cS s p).2.1,(cS s p).2.2,ts.map rowT)=some (.inl ((n:Int),(cS s (e p).2).1,(cS s (e p).2).2.1,(cS s (e p).2).2.2,(ts++[t]).map rowT))/\t.size=(e p).1/\Bv t):
  ∀(n p:Nat) (ts:List Tn),n+ts.length<=10->∃us:List Tn,fG b ((n:Int),(cS s p).1,(cS s p).2.1,(cS s p).2.2,ts.map rowT)=some (0,(cS s (Qd e n p).2).1,(cS s (Qd e n p).2).2.1,(cS s (Qd e n p).2).2.2,(ts++us).map rowT)/\sizes us=(Qd e n p).1/\us.length=n/\∀t,t∈us->Bv t
 |0,p,ts,_=>⟨[],by rw[QK,dJ (hz p _),List.append_nil];rfl,rfl,rfl,by simp⟩
 |n+1,p,ts,hn=>by
  obtain⟨t,h1,h2,h3⟩:=hs n p ts au au;obtain⟨us,k1,k2,k3,k4⟩:=H8 hz hs n (e p).2 (ts++[t]) (by simp;omega);refine⟨t::us, ?_, ?_,by simp[k3], ?_⟩
  ·rw[iD h1,k1,Qd,BD];rfl
  ·rw[sizes,h2,k2,Qd]
  ·intro u hu;rcases List.mem_cons.1 hu with rfl|hu
   ·exact h3
   ·exact k4 u hu
def GK(ts:List Tn)(t:Tn):(ts++[t]).map rowT=ts.map rowT++[[D.sl true 5 (aH true (t.flat 0))]]:=by rw[List.map_append];rfl
section
variable {s:Cu} (h:LU s)
include h
theorem adK(p:Nat):LW (M.qB (cS s p).1 (cS s p).2.1 (cS s p).2.2) s (SC s.g p):=by
 have hm:=Nat.mod_lt (s.g p) (show 0<7 by omega);simp only[M.qB,M.Ey,SC,abj];rw[show((7:Int))=((7:Nat):Int) from rfl,iI h p 7 au au,aj];obtain⟨t1,a1,e1⟩:=aon h (p+1);obtain⟨t2,a2,e2⟩:=aoo h (p+1);obtain⟨t3,a3,e3⟩:=aop h (p+1+1);obtain⟨t4,a4,e4⟩:=Gy h (p+1+1);obtain⟨t5,a5,e5⟩:=Gy h (p+1);have hc:s.g p % 7=0\/s.g p % 7=1\/s.g p % 7=2\/3<=s.g p % 7:=au;have e6:=Kr h (p+1) 2 au au;rw[show((2:Nat):Int)=2 from rfl] at e6;rcases hc with hc|hc|hc|hc
 ·rw[hc];simp only[e1,aj];exact Jv 2 t1 au a1
 ·rw[hc];simp only[e2,aj];exact Jv 3 t2 au a2
 ·rw[hc];simp only[e6,aj];cases hq:s.g (p+1) % 2==0 with
  |true=>simp only[hq,bZ,e3,aj];exact Jv 4 t3 au a3
  |false=>simp only[hq,dX,e4,aj];exact Jv 1 t4 au a4
 ·have n0:(((s.g p % 7:Nat):Int)==0)=false:=ZQ.2 au;have n1:(((s.g p % 7:Nat):Int)==1)=false:=ZQ.2 au;have n2:(((s.g p % 7:Nat):Int)==2)=false:=ZQ.2 au;have n3:Nat.beq (s.g p % 7) 2=false:=lT au;simp only[n0,n1,n2,n3,dX,e5,aj];exact Jv 1 t5 au a5
end
def EX(s:Cu)(k d:Nat):Prop:=∀deep:Int, -8<=deep->deep<=5->deep.toNat=d->∀p,LW (M.jR k deep (cS s p).1 (cS s p).2.1 (cS s p).2.2) s (dH s.g d p)
def IX{d:Nat}(h:d<=5):bE d<=1300:=by have:d=0\/d=1\/d=2\/d=3\/d=4\/d=5:=au;rcases this with rfl|rfl|rfl|rfl|rfl|rfl<;>decide
section
variable {s:Cu} (h:LU s)
include h
theorem alG{k d:Nat}(hd:d<=5)(h1:EX s k (d - 1))(h2:EX s k (d - 2)){deep:Int}(l1: -6<=deep)(l2:deep<=5)(l3:deep.toNat=d)(p:Nat):
  LW (M.wJ (k+1) deep (cS s p).1 (cS s p).2.1 (cS s p).2.2) s (lvS s.g (dH s.g (d - 1)) (dH s.g (d - 2)) p):=by
 have hm:=Nat.mod_lt (s.g p) (show 0<4 by omega);have b1:=jk s.g (d - 1) (p+2);have b2:=jk s.g (d - 2) (p+1);have c1:=IX (show d - 1<=5 by omega);have c2:=IX (show d - 2<=5 by omega);rw[M.SQ];simp only[M.qo,lvS];rw[show((4:Int))=((4:Nat):Int) from rfl,iI h p 4 au au,aj,aB (n:=deep - 1) au au,aB (n:=deep - 2) au au];obtain⟨t1,a1,e1⟩:=Gy h (p+1);obtain⟨u1,f1,z1,i1⟩:=h1 (deep - 1) au au au (p+2);obtain⟨u2,f2,z2,i2⟩:=h2 (deep - 2) au au au (p+1);have hc:s.g p % 4=0\/s.g p % 4=1\/s.g p % 4=2\/s.g p % 4=3:=au;rcases hc with hc|hc|hc|hc
 ·rw[hc];simp only[e1,f1,aj];exact made 5 0 t1 [] [u1] (by rw[sizes,sizes,z1]) au au au a1 aW (uI i1)
 ·rw[hc];simp only[f2,aj];exact made 6 0 [] [] [u2] (by rw[sizes,sizes,z2]) au au au aW aW (uI i2)
 ·rw[hc];simp only[e1,aj];exact Jv 1 t1 au a1
 ·rw[hc];simp only[e1,aj];exact Jv 1 t1 au a1
theorem TR{k:Nat}{deep:Int}{e:DF}{b:Nat}(hb:Bd b e)(hb2:b<=2000)(he:∀p,LW (M.jR k deep (cS s p).1 (cS s p).2.1 (cS s p).2.2) s (e p))(least most:Nat)(hl:least<=most)(hm:most<=5)(p:Nat):
  DL (M.wW (k+1) least most deep (cS s p).1 (cS s p).2.1 (cS s p).2.2) s (zK s.g e least (most - least+1) p):=by
 rw[M.W9];simp only[M.wV];have hmod:=Nat.mod_lt (s.g p) (show 0<most - least+1 by omega);have e1:i64.wrap (i64.wrap ((most:Int) - least)+1)=((most - least+1:Nat):Int):=by rw[aB (n:=(most:Int) - least) au au,aB au au];omega
 rw[e1,iI h p (most - least+1) au au,aj];have e2:i64.wrap ((least:Int)+((s.g p %(most - least+1):Nat):Int))=((least+s.g p %(most - least+1):Nat):Int):=by rw[aB au au];omega
 simp only[e2];obtain⟨us,k1,k2,k3,k4⟩:=H8 (s:=s) (e:=e) (b:=M.D5 (M.jR k) deep) (λp x=>rfl) (λn p ts hn ht=>by obtain⟨t,f1,z1,i1⟩:=he p;refine⟨t, ?_,z1,i1⟩;simp only[BF,M.D5,M.y7,f1,aj,zaw,QX];rw[zdt au,bZ,dV au,bZ,dV au,bZ,aB au au,GK];simp) (least+s.g p %(most - least+1)) (p+1) [] (by simp;omega);refine⟨us, ?_,k2,au,k4⟩;have k1':M.BU (M.jR k) deep (((least+s.g p %(most - least+1):Nat):Int),(cS s (p+1)).1,(cS s (p+1)).2.1,(cS s (p+1)).2.2,[])=_:=k1;rw[k1',aj];rfl
theorem aeV{d j:Nat}(hd:d+1<=5)(H:∀i,j<=i->EX s i d/\EX s i (d - 1)/\EX s i (d - 2)):EX s (j+2) (d+1):=by
 intro deep l1 l2 l3 p;obtain⟨h0,hq1,hq2⟩:=H j (zav _);obtain⟨h0',_,_⟩:=H (j+1) au;have hm:=Nat.mod_lt (s.g (p+1)) (show 0<16 by omega);have hm2:=Nat.mod_lt (s.g p) (show 0<2 by omega);have c0:=IX (show d<=5 by omega);have c1:=IX (show d - 1<=5 by omega);have hB:=jk s.g (d+1) p;have hB2:=IX hd;have hB3:(dH s.g (d+1) p).1<=900000:=au;rw[Wy] at hB3|-;rw[M.Ny];simp only[M.rW];have w1:i64.wrap (deep - 1)=deep - 1:=aB au au;have w2:i64.wrap (deep - 2)=deep - 2:=aB au au;have e2:=iI h p 2 au au;have e16:=iI h (p+1) 16 au au;rw[show((2:Nat):Int)=2 from rfl] at e2;rw[show((16:Nat):Int)=16 from rfl] at e16;rw[pX au,dX,e2,aj,e16,aj];simp only[w1,w2];have hdd:d+1 - 1=d:=rfl;have hd2:d+1 - 2=d - 1:=au;have L0:=λq=>TR h (jk s.g d) au (h0 (deep - 1) au au au) 0 3 au au q
 have L1:=λq=>TR h (jk s.g (d - 1)) au (hq1 (deep - 2) au au au) 0 3 au au q
 have L2:=λq=>TR h (jk s.g d) au (h0 (deep - 1) au au au) 1 2 au au q
 have X0:=h0' (deep - 1) au au au;have V0:=alG h (show d+1<=5 by omega) (k:=j) (by rw[hdd];exact h0) (by rw[hd2];exact hq1) (deep:=deep) au au l3;have V1:=alG h (show d<=5 by omega) (k:=j) hq1 hq2 (deep:=deep - 1) au au au;rw[hdd,hd2] at V0;rcases Nat.lt_or_ge (s.g (p+1) % 16) 12 with hlt|hbig
 ·unfold FH at hB3|-;have hc:s.g (p+1) % 16=0\/s.g (p+1) % 16=1\/s.g (p+1) % 16=2\/s.g (p+1) % 16=3\/s.g (p+1) % 16=4\/s.g (p+1) % 16=5\/s.g (p+1) % 16=6\/s.g (p+1) % 16=7\/s.g (p+1) % 16=8\/s.g (p+1) % 16=9\/s.g (p+1) % 16=10\/s.g (p+1) % 16=11:=au;rcases hc with hc|hc|hc|hc|hc|hc|hc|hc|hc|hc|hc|hc<;>rw[hc] at hB3|-
  ·obtain⟨t,f,z,i⟩:=adK h (p+2);exact bd f ⟨t,rfl,z,i⟩
  ·obtain⟨t,f,z,i⟩:=V0 (p+2);exact bd f ⟨t,rfl,z,i⟩
  ·obtain⟨t,f,z,i⟩:=X0 (p+2);exact bd f (made 6 0 [] [] [t] (by rw[sizes,sizes,z]) hB3 au au aW aW (uI i))
  ·obtain⟨x,a,e⟩:=Gy h (p+2);obtain⟨ts,f,z,_,i⟩:=L0 (p+3);exact bd e (bd f (made 7 0 x [] ts (by rw[z]) hB3 au au a aW i))
  ·obtain⟨ts,f,z,_,i⟩:=L1 (p+3);exact bd (xY h _ _ rfl) (bd f (made 8 0 _ [] ts (by rw[z]) hB3 au au (o7 rfl _) aW i))
  ·obtain⟨t,f,z,i⟩:=V1 (p+2);exact bd f (made 9 _ [] [] [t] (by rw[sizes,sizes,z]) hB3 au (by rw[aB au au];omega) aW aW (uI i))
  ·obtain⟨t,f,z,i⟩:=V1 (p+2);exact bd f (made 10 _ [] [] [t] (by rw[sizes,sizes,z]) hB3 au (by rw[aB au au];omega) aW aW (uI i))
  ·obtain⟨t,f,z,i⟩:=X0 (p+3);exact bd (Aa h _ _ rfl) (bd f (made 11 _ [] [] [t] (by rw[sizes,sizes,z]) hB3 au (uH rfl _) aW aW (uI i)))
  ·obtain⟨t,f,z,i⟩:=X0 (p+3);exact bd (Aa h _ _ rfl) (bd f (made 11 _ [] [] [t] (by rw[sizes,sizes,z]) hB3 au (uH rfl _) aW aW (uI i)))
  ·obtain⟨x,a,e⟩:=Gy h (p+2);obtain⟨ts,f,z,_,i⟩:=L2 (p+3);exact bd e (bd f (made 13 0 x [] ts (by rw[z]) hB3 au au a aW i))
  ·obtain⟨t1,f1,z1,i1⟩:=X0 (p+2);obtain⟨t2,f2,z2,i2⟩:=X0 (dH s.g d (p+2)).2;obtain⟨t3,f3,z3,i3⟩:=X0 (dH s.g d (dH s.g d (p+2)).2).2;exact bd f1 (bd f2 (bd f3 (made 14 0 [] [] [t1,t2,t3] (by simp only[sizes,z1,z2,z3,Qd]) hB3 au au aW aW (by simp[i1,i2,i3]))))
  ·obtain⟨t1,f1,z1,i1⟩:=V1 (p+3);obtain⟨t2,f2,z2,i2⟩:=X0 (lvS s.g (dH s.g (d - 1)) (dH s.g (d - 2)) (p+3)).2;exact bd (Aa h _ _ rfl) (bd f1 (bd f2 (made 15 _ [] [] [t1,t2] (by simp only[sizes,z1,z2,lQ];omega) hB3 au (uH rfl _) aW aW (by simp[i1,i2]))))
 ·rw[ZF hbig] at hB3|-;have nn:∀n:Int,n<12->(((s.g (p+1) % 16:Nat):Int)==n)=false:=λn hn=>ZQ.2 au
  simp only[nn 0 au,nn 1 au,nn 2 au,nn 3 au,nn 4 au,nn 5 au,nn 6 au,nn 7 au,nn 8 au,nn 9 au,nn 10 au,nn 11 au,dX];obtain⟨o,o1,o2,e⟩:=ahd h (p+2);obtain⟨t1,f1,z1,i1⟩:=X0 (p+3);obtain⟨t2,f2,z2,i2⟩:=X0 (dH s.g d (p+3)).2;exact bd e (bd f1 (bd f2 (made 12 o [] [] [t1,t2] (by simp only[sizes,z1,z2,Qd]) hB3 au ⟨o1,o2⟩ aW aW (by simp[i1,i2]))))
theorem abk:∀(d k:Nat),d<=5->2 * d+1<=k->EX s k d:=by
 intro d;induction d using Nat.strongRecOn with
 |_ d ih=>
  intro k hd hk;cases d with
  |zero=>
   obtain⟨k,rfl⟩:∃j,k=j+1:=⟨k - 1,au⟩
   intro deep l1 l2 l3 p;rw[M.Ny,acN];simp only[M.rW];rw[zdt au,bZ];obtain⟨t,f,z,i⟩:=adK h p;simp only[f,aj];exact⟨t,rfl,z,i⟩
  |succ d=>
   obtain⟨j,rfl⟩:∃j,k=j+2:=⟨k - 2,au⟩
   exact aeV h hd λi hi=>⟨ih d au i au au,ih (d - 1) au i au au,ih (d - 2) au i au au⟩
theorem Iz{deep:Int}(l1: -8<=deep)(l2:deep<=5)(p:Nat):LW (M.bV deep (cS s p).1 (cS s p).2.1 (cS s p).2.2) s (dH s.g deep.toNat p):=by obtain⟨t,f,z,i⟩:=abk h deep.toNat (2 * deep.toNat+1) au (zav _) deep l1 l2 rfl p;exact⟨t,M.Vq f,z,i⟩
theorem WA{deep:Int}(l1: -8<=deep)(l2:deep<=5)(least most:Nat)(hl:least<=most)(hm:most<=5)(p:Nat):DL (M.jh least most deep (cS s p).1 (cS s p).2.1 (cS s p).2.2) s (zK s.g (dH s.g deep.toNat) least (most - least+1) p):=by have hb:=IX (show deep.toNat<=5 by omega);obtain⟨ts,f,z,i⟩:=TR h (jk s.g deep.toNat) au (abk h deep.toNat (2 * deep.toNat+1) au (zav _) deep l1 l2 rfl) least most hl hm p;exact⟨ts,M.Vr f,z,i⟩
end
def Ku(g:Nat->Nat)(d:Nat)(p:Nat):Nat×Nat:=
 bif Nat.beq (g (zK g (dH g d) (g (p+1) % 2) (4 - g (p+1) % 2) (p+2)).2 % 3) 0
 then up (lQ (zK g (dH g d) (g (p+1) % 2) (4 - g (p+1) % 2)) (λq=>dH g (d - 1) (q+2)) (p+2))
 else((zK g (dH g d) (g (p+1) % 2) (4 - g (p+1) % 2) (p+2)).1+1,(zK g (dH g d) (g (p+1) % 2) (4 - g (p+1) % 2) (p+2)).2+1)
def zJ(g:Nat->Nat)(d:Nat):DF:=λp=>match g p % 9 with
 |0=>Ku g d p
 |1=>Ku g d p
 |2=>(1,p+2)
 |3=>up (zK g (dH g d) 0 2 (p+2))
 |4=>up (zK g (dH g (d - 1)) 0 3 (p+2))
 |5=>bif Nat.beq (g (p+1) % 2) 0 then(1,p+3) else up (dH g d (p+2))
 |_=>up (dH g d (p+1))
def abl{g:Nat->Nat}{d p:Nat}(h:6<=g p % 9):zJ g d p=up (dH g d (p+1)):=by unfold zJ;split<;>first|omega|rfl
def rZ(g:Nat->Nat)(e:DF):DF:=λp=>up (Qd e (g p % 3) (p+1))
def Kv(g:Nat->Nat)(d:Nat):DF:=λp=>bif Nat.beq (g p % 3) 0 then(1,p+1) else dH g d (p+1)
def TS(g:Nat->Nat)(d:Nat)(b:DF):DF:=λp=>bif Nat.beq (g p % 3) 0 then(match g (p+1) % 6 with
  |0=>up (lQ (dH g 1) b (p+2))
  |1=>up (lQ (dH g 1) (lQ b b) (p+2))
  |2=>up (lQ (dH g 1) b (p+2))
  |3=>up (lQ b (dH g 1) (p+2))
  |4=>up (lQ (Kv g 2) (lQ (Kv g 1) (lQ (Kv g 1) b)) (p+2))
  |_=>bif Nat.beq (g (p+2) % 2) 0 then b (p+3) else up (b (p+5)))
 else zJ g (min d 2) (p+1)
def o8(g:Nat->Nat):Nat->DF
 |0=>zJ g 0
 |d+1=>TS g (d+1) (rZ g (o8 g d))
def WB(g:Nat->Nat):DF:=λp=>match g (p+1) % 8 with
 |0=>up (rZ g (o8 g (1+g p % 2)) (p+3))
 |1=>up (dH g (1+g p % 2) (p+2))
 |2=>up (rZ g (o8 g (1+g p % 2)) (p+2))
 |3=>up (lQ (dH g 1) (dH g 1) (p+2))
 |4=>up (lQ (dH g 1) (lQ (dH g 1) (rZ g (o8 g (1+g p % 2)))) (p+2))
 |5=>up (lQ (Qd (λq=>(1,q+1)) (g (p+2) % 3)) (λq=>rZ g (o8 g (1+g p % 2)) (q+1)) (p+3))
 |6=>(1,p+3)
 |_=>up (lQ (dH g (1+g p % 2)) (rZ g (o8 g (1+g p % 2))) (p+2))
def Jw(g:Nat->Nat):DF:=λp=>up (Qd (WB g) (g p % 4) (p+1))
def KC(g:Nat->Nat):DF:=λp=>dH g (1+g p % 4) (p+1)
section
variable {g:Nat->Nat}
def Jy{d b b1:Nat}(h:Bd b (dH g d))(h1:Bd b1 (dH g (d - 1)))(hb:b1<=b):Bd (3 * b+b1+5) (zJ g d):=λp=>by
 have l3:=Kt (g:=g) h 0 2 au (p+2);have l4:=Kt (g:=g) h1 0 3 au (p+2);have e2:=h (p+2);have e1:=h (p+1);have hpr:1<=(Ku g d p).1/\p+(Ku g d p).1<=(Ku g d p).2/\(Ku g d p).2<=p+(3 * b+b1+5):=by unfold Ku up lQ;have hm:=Nat.mod_lt (g (p+1)) (show 0<2 by omega);have l:=Kt (g:=g) h (g (p+1) % 2) (4 - g (p+1) % 2) au (p+2);rw[show g (p+1) % 2+(4 - g (p+1) % 2) - 1=3 by omega] at l;have e:=h1 ((zK g (dH g d) (g (p+1) % 2) (4 - g (p+1) % 2) (p+2)).2+2);cases Nat.beq (g (zK g (dH g d) (g (p+1) % 2) (4 - g (p+1) % 2) (p+2)).2 % 3) 0<;>simp only[bZ,dX]<;>omega
 unfold zJ up;split
 ·exact hpr
 ·exact hpr
 ·simp only;omega
 ·simp only;omega
 ·simp only;omega
 ·cases Nat.beq (g (p+1) % 2) 0<;>simp only[bZ,dX]<;>omega
 ·simp only;omega
def ZH{b:Nat}{e:DF}(h:Bd b e):Bd (2 * b+1) (rZ g e):=λp=>by have hm:=Nat.mod_lt (g p) (show 0<3 by omega);have i:=LV h (g p % 3) (p+1);have h2:(g p % 3) * b<=2 * b:=Nat.mul_le_mul_right b au;unfold rZ up;simp only;omega
def H9{b1 b2:Nat}{e1 e2:DF}(h1:Bd b1 e1)(h2:Bd b2 e2):Bd (b1+b2) (lQ e1 e2):=λp=>by have a:=h1 p;have c:=h2 (e1 p).2;unfold lQ;simp only;omega
def acO{b d:Nat}(h:Bd b (dH g d))(hb:1<=b):Bd (b+1) (Kv g d):=λp=>by have a:=h (p+1);unfold Kv;cases Nat.beq (g p % 3) 0<;>simp only[bZ,dX]<;>omega
def ahg{x y z d:Nat}{b:DF}(hB:Bd x b)(hS:Bd y (zJ g (min d 2)))(h1:y+1<=z)(h2:2 * x+15<=z)(h3:x+74<=z):Bd z (TS g d b):=λp=>by
 have E1:=jk g 1;have E2:=jk g 2;have c1:bE 1=13:=rfl;have c2:bE 2=43:=rfl;rw[c1] at E1;rw[c2] at E2;have s1:=hS (p+1);have a0:=H9 E1 hB (p+2);have a1:=H9 E1 (H9 hB hB) (p+2);have a3:=H9 hB E1 (p+2);have a4:=H9 (acO E2 au) (H9 (acO E1 au) (H9 (acO E1 au) hB)) (p+2);have a5:=hB (p+3);have a6:=hB (p+5);unfold TS up;cases Nat.beq (g p % 3) 0 with
 |false=>simp only[dX];omega
 |true=>
  simp only[bZ];split
  ·simp only;omega
  ·simp only;omega
  ·simp only;omega
  ·simp only;omega
  ·simp only;omega
  ·cases Nat.beq (g (p+2) % 2) 0<;>simp only[bZ,dX]<;>omega
def acP:Bd 17 (zJ g 0):=Jy (jk g 0) (jk g 0) (zav _)
def acQ:Bd 47 (zJ g 1):=Jy (jk g 1) (jk g 0) (by decide)
def acR:Bd 147 (zJ g 2):=Jy (jk g 2) (jk g 1) (by decide)
def adL:Bd 17 (o8 g 0):=acP
def akB:Bd 35 (rZ g (o8 g 0)):=ZH adL
def adM:Bd 109 (o8 g 1):=ahg akB acQ au au au
def adN:Bd 219 (rZ g (o8 g 1)):=ZH adM
def ZI:Bd 453 (o8 g 2):=ahg adN acR au au au
def akC:Bd 907 (rZ g (o8 g 2)):=ZH ZI
def akD(k:Nat):Bd 907 (rZ g (o8 g (1+k % 2))):=by
 have:=Nat.mod_lt k (show 0<2 by omega);have h:k % 2=0\/k % 2=1:=au;rcases h with h|h<;>rw[h]
 ·exact adN.mono au
 ·exact akC
def akE(k:Nat):Bd 43 (dH g (1+k % 2)):=by
 have:=Nat.mod_lt k (show 0<2 by omega);have h:k % 2=0\/k % 2=1:=au;rcases h with h|h<;>rw[h]
 ·exact(jk g 1).mono (by decide)
 ·exact jk g 2
def adO:Bd 952 (WB g):=λp=>by
 have E1:=jk g 1;have c1:bE 1=13:=rfl;rw[c1] at E1;have B:=akD (g:=g) (g p);have E:=akE (g:=g) (g p);have a0:=B (p+3);have a1:=E (p+2);have a2:=B (p+2);have a3:=H9 E1 E1 (p+2);have a4:=H9 E1 (H9 E1 B) (p+2);have a7:=H9 E B (p+2);have hm:=Nat.mod_lt (g (p+2)) (show 0<3 by omega);have i5:=LV (b:=1) (e:=λq=>(1,q+1)) (λq=>⟨zav _,zav _,zav _⟩) (g (p+2) % 3) (p+3);have a5:=B ((Qd (λq=>(1,q+1)) (g (p+2) % 3) (p+3)).2+1);unfold WB up;split
 ·simp only;omega
 ·simp only;omega
 ·simp only;omega
 ·simp only;omega
 ·simp only;omega
 ·simp only[lQ];omega
 ·simp only;omega
 ·simp only;omega
def adP:Bd 2857 (Jw g):=λp=>by have hm:=Nat.mod_lt (g p) (show 0<4 by omega);have i:=LV (adO (g:=g)) (g p % 4) (p+1);have h2:(g p % 4) * 952<=3 * 952:=Nat.mul_le_mul_right _ au;unfold Jw up;simp only;omega
def akF:Bd 404 (KC g):=λp=>by
 have hm:=Nat.mod_lt (g p) (show 0<4 by omega);have h:g p % 4=0\/g p % 4=1\/g p % 4=2\/g p % 4=3:=au;unfold KC;have E:Bd 403 (dH g (1+g p % 4)):=by
  rcases h with h|h|h|h<;>rw[h]
  ·exact(jk g 1).mono (by decide)
  ·exact(jk g 2).mono (by decide)
  ·exact(jk g 3).mono (by decide)
  ·exact jk g 4
 have:=E (p+1);omega
end
def akG{a b:Nat}(h:a=b):Nat.beq a b=true:=by rw[h];exact Nat.beq_refl b
def Yx{ts:List Tn}{t:Tn}(h:∀u,u∈ts->Bv u)(ht:Bv t):∀u,u∈ts++[t]->Bv u:=by
 intro u hu;rcases List.mem_append.1 hu with hu|hu
 ·exact h u hu
 ·rw[List.mem_singleton.1 hu];exact ht
def OJ(ts:List Tn)(t:Tn):sizes (ts++[t])=sizes ts+t.size:=by rw[mF];simp[sizes]
def Qe(a b:Nat):(a==b)=Nat.beq a b:=by
 by_cases e:a=b
 ·rw[akG e];exact beq_iff_eq.2 e
 ·rw[lT e];exact ZQ.2 e
section
variable {s:Cu} (h:LU s)
include h
theorem ahh{deep:Int}(l1: -6<=deep)(l2:deep<=2)(p:Nat):
  LW ((M.aG 2 (cS s (p+1)).1 (cS s (p+1)).2.1 (cS s (p+1)).2.2).bind λVl=>
   ((M.jh Vl.fst 3 deep Vl.snd.fst Vl.snd.snd.fst Vl.snd.snd.snd).bind λWY=>
   ((M.gZ 3 WY.snd.fst WY.snd.snd.fst WY.snd.snd.snd).bind λSL=>
    (bif SL.fst then
    ((M.bM ([[D.str [62]],[D.str [62,62]],[D.str [124]]]) SL.snd.fst SL.snd.snd.fst SL.snd.snd.snd).bind λacp=>
     ((M.bV (i64.wrap (deep - 1)) acp.snd.fst acp.snd.snd.fst acp.snd.snd.snd).bind λVo=>
     (bif((WY.fst.length+[[D.sl true 5 Vo.fst]].length) * 24).ble 140737488355328 then
      (bif(WY.fst.length+[[D.sl true 5 Vo.fst]].length).ble 140737488355328 then
      ((M.aN 21 Vl.fst [] acp.fst [] (aF (WY.fst++[[D.sl true 5 Vo.fst]]))).bind λacr=>(bif[[D.sl true 5 acr]].all bY then(some ((acr,Vo.snd.fst,Vo.snd.snd.fst,Vo.snd.snd.snd))) else none)) else none) else none))) else
    ((M.aN 21 Vl.fst [] [] [] (aF WY.fst)).bind λagq=>(bif[[D.sl true 5 agq]].all bY then(some ((agq,SL.snd.fst,SL.snd.snd.fst,SL.snd.snd.snd))) else none)))))) s (Ku s.g deep.toNat p):=by
 have hd:deep.toNat<=2:=au;have hB:=(Jy (jk s.g deep.toNat) (jk s.g (deep.toNat - 1)) (ZG deep.toNat).1)
 have b1:=IX (show deep.toNat<=5 by omega);have b2:=IX (show deep.toNat - 1<=5 by omega);have hm:=Nat.mod_lt (s.g (p+1)) (show 0<2 by omega);have e2:=iI h (p+1) 2 au au;obtain⟨ts,f,z,hl,i⟩:=WA h (show -8<=deep by omega) (show deep<=5 by omega) (s.g (p+1) % 2) 3 au au (p+2);have hw:3 - s.g (p+1) % 2+1=4 - s.g (p+1) % 2:=au;rw[hw] at f z;have zb:=Kt (g:=s.g) (jk s.g deep.toNat) (s.g (p+1) % 2) (4 - s.g (p+1) % 2) au (p+2);rw[show s.g (p+1) % 2+(4 - s.g (p+1) % 2) - 1=3 by omega] at zb;refine bd e2 (bd f (bd (Kr h _ 3 au au) ?_));unfold Ku;rw[Qe];cases hq:Nat.beq (s.g (zK s.g (dH s.g deep.toNat) (s.g (p+1) % 2) (4 - s.g (p+1) % 2) (p+2)).2 % 3) 0 with
 |true=>simp only[bZ];have hdd:(deep - 1).toNat=deep.toNat - 1:=au;obtain⟨t,f2,z2,i2⟩:=Iz h (deep:=deep - 1) au au ((zK s.g (dH s.g deep.toNat) (s.g (p+1) % 2) (4 - s.g (p+1) % 2) (p+2)).2+2);rw[hdd] at f2 z2;have zb2:=jk s.g (deep.toNat - 1) ((zK s.g (dH s.g deep.toNat) (s.g (p+1) % 2) (4 - s.g (p+1) % 2) (p+2)).2+2);rw[aB (n:=deep - 1) au au];refine bd (xY h _ _ rfl) (bd f2 ?_);simp only[zaw,QX];rw[dV au,bZ,dV au,bZ];have:=made (s:=s) (q:=(dH s.g (deep.toNat - 1) ((zK s.g (dH s.g deep.toNat) (s.g (p+1) % 2) (4 - s.g (p+1) % 2) (p+2)).2+2)).2) 21 ((s.g (p+1) % 2:Nat):Int) [] (pkS [[D.str [62]],[D.str [62,62]],[D.str [124]]] (s.g ((zK s.g (dH s.g deep.toNat) (s.g (p+1) % 2) (4 - s.g (p+1) % 2) (p+2)).2+1))) (ts++[t]) rfl (by rw[OJ];omega) au au aW (o7 rfl _) (Yx i i2);rw[GK] at this;obtain⟨t',q1,q2,q3⟩:=this;refine⟨t',q1, ?_,q3⟩;rw[q2,OJ,z,z2];rfl
 |false=>simp only[dX];exact made 21 _ [] [] ts (by rw[z]) au au au aW aW i
theorem Yy{deep:Int}(l1:0<=deep)(l2:deep<=2)(p:Nat):LW (M.mG deep (cS s p).1 (cS s p).2.1 (cS s p).2.2) s (zJ s.g deep.toNat p):=by
 have b1:=IX (show deep.toNat<=5 by omega);have b2:=IX (show deep.toNat - 1<=5 by omega);have hB:=Jy (jk s.g deep.toNat) (jk s.g (deep.toNat - 1)) (ZG deep.toNat).1 p;have hB3:(zJ s.g deep.toNat p).1<=900000:=au;have hm:=Nat.mod_lt (s.g p) (show 0<9 by omega);have hdd:(deep - 1).toNat=deep.toNat - 1:=au;simp only[BF,M.mG,M.Ae];have w1:i64.wrap (deep - 1)=deep - 1:=aB au au;have hpr:=ahh h (show -6<=deep by omega) l2 p;rw[w1] at hpr|-;refine bd (iI h p 9 au au) ?_;rcases Nat.lt_or_ge (s.g p % 9) 6 with hlt|hbig
 ·unfold zJ at hB3|-;have hc:s.g p % 9=0\/s.g p % 9=1\/s.g p % 9=2\/s.g p % 9=3\/s.g p % 9=4\/s.g p % 9=5:=au;rcases hc with hc|hc|hc|hc|hc|hc<;>rw[hc] at hB3|-
  ·exact hpr
  ·exact hpr
  ·exact bd (Aa h _ _ rfl) (Jv _ [] (uH rfl _) aW)
  ·obtain⟨ts,f,z,hl,i⟩:=WA h (show -8<=deep by omega) (show deep<=5 by omega) 0 1 au au (p+2);exact bd (Aa h _ _ rfl) (bd f (made _ 0 [] [] ts (by rw[z]) hB3 (uH rfl _) au aW aW i))
  ·obtain⟨x,a,e⟩:=Gy h (p+1);obtain⟨ts,f,z,hl,i⟩:=WA h (deep:=deep - 1) au au 0 2 au au (p+2);rw[hdd] at f z;exact bd e (bd f (made 27 0 x [] ts (by rw[z]) hB3 au au a aW i))
  ·refine bd (Kr h (p+1) 2 au au) ?_;rw[Qe];have atG:(bif Nat.beq (s.g (p+1) % 2) 0 then(1,p+3) else up (dH s.g deep.toNat (p+2)):Nat×Nat).1<=900000:=hB3;show LW _ s (bif Nat.beq (s.g (p+1) % 2) 0 then(1,p+3) else up (dH s.g deep.toNat (p+2)));cases hq:Nat.beq (s.g (p+1) % 2) 0 with
   |true=>exact bd (xY h _ _ rfl) (Jv 34 _ au (o7 rfl _))
   |false=>rw[hq] at atG;obtain⟨t,f,z,i⟩:=Iz h (show -8<=deep by omega) (show deep<=5 by omega) (p+2);exact bd f (made 20 0 [] [] [t] (by rw[sizes,sizes,z]) atG au au aW aW (uI i))
 ·rw[abl hbig] at hB3|-;have nn:∀n:Int,n<6->(((s.g p % 9:Nat):Int)==n)=false:=λn hn=>ZQ.2 au
  simp only[nn 0 au,nn 1 au,nn 2 au,nn 3 au,nn 4 au,nn 5 au,dX];obtain⟨t,f,z,i⟩:=Iz h (show -8<=deep by omega) (show deep<=5 by omega) (p+1);exact bd f (made 20 0 [] [] [t] (by rw[sizes,sizes,z]) hB3 au au aW aW (uI i))
theorem abm{deep:Int}(l1:0<=deep)(l2:deep<=2)(p:Nat):LW (M.mJ deep (cS s p).1 (cS s p).2.1 (cS s p).2.2) s (Kv s.g deep.toNat p):=by
 simp only[M.mJ,M.Ce];refine bd (Kr h p 3 au au) ?_;rw[Qe];unfold Kv;cases hq:Nat.beq (s.g p % 3) 0 with
 |true=>exact Jv 16 [] au aW
 |false=>obtain⟨t,f,z,i⟩:=Iz h (show -8<=deep by omega) (show deep<=5 by omega) (p+1);exact bd f ⟨t,rfl,z,i⟩
def STr(s:Cu)(k d:Nat):Prop:=∀deep:Int,0<=deep->deep.toNat=d->∀p,LW (M.mV k deep (cS s p).1 (cS s p).2.1 (cS s p).2.2) s (o8 s.g d p)
end
section
variable {s:Cu} (h:LU s)
include h
theorem abn{k:Nat}{deep:Int}{e:DF}{b:Nat}(hb:Bd b e)(hb2:b<=2000)(he:∀p,LW (M.mV k deep (cS s p).1 (cS s p).2.1 (cS s p).2.2) s (e p))(p:Nat):
  LW (M.tV (k+1) deep (cS s p).1 (cS s p).2.1 (cS s p).2.2) s (rZ s.g e p):=by
 rw[M.Vw];simp only[M.tN];have hmod:=Nat.mod_lt (s.g p) (show 0<3 by omega);have hi:=LV hb (s.g p % 3) (p+1);have h2:(s.g p % 3) * b<=2 * b:=Nat.mul_le_mul_right b au;refine bd (iI h p 3 au au) ?_;obtain⟨us,k1,k2,k3,k4⟩:=H8 (s:=s) (e:=e) (b:=M.Cc (M.mV k) deep) (λp x=>rfl) (λn p ts hn ht=>by obtain⟨t,f1,z1,i1⟩:=he p;refine⟨t, ?_,z1,i1⟩;simp only[BF,M.Cc,M.xw,f1,aj,zaw,QX];rw[zdt au,bZ,dV au,bZ,dV au,bZ,aB au au,GK];simp) (s.g p % 3) (p+1) [] (by simp;omega);have k1':M.Af (M.mV k) deep (((s.g p % 3:Nat):Int),(cS s (p+1)).1,(cS s (p+1)).2.1,(cS s (p+1)).2.2,[])=_:=k1;exact bd k1' (made 33 0 [] [] us (by rw[k2]) au au au aW aW k4)
omit h in
theorem ZJ{d:Nat}(hd:d<=2):∃b,b<=500/\Bd b (o8 s.g d):=by
 have:d=0\/d=1\/d=2:=au;rcases this with rfl|rfl|rfl
 ·exact⟨17,au,adL⟩
 ·exact⟨109,au,adM⟩
 ·exact⟨453,au,ZI⟩
theorem aeW{d j:Nat}(hd:d+1<=2)(H:STr s j d):STr s (j+2) (d+1):=by
 intro deep l1 l3 p;obtain⟨b,hb1,hb2⟩:=ZJ (s:=s) (show d<=2 by omega);have w1:i64.wrap (deep - 1)=deep - 1:=aB au au;have B:=λq=>abn h hb2 au (H (deep - 1) au au) q
 have BB:=ZH (g:=s.g) hb2;obtain⟨b',hb1',hb2'⟩:=ZJ (s:=s) hd;have hB:=hb2' p;have hB3:(o8 s.g (d+1) p).1<=900000:=au;have hm:=Nat.mod_lt (s.g (p+1)) (show 0<6 by omega);have X1:=λq=>Iz h (deep:=1) au au q
 have e1:(1:Int).toNat=1:=rfl;have e2:(2:Int).toNat=2:=rfl;rw[e1] at X1;have M1:=λq=>abm h (deep:=1) au au q
 have M2:=λq=>abm h (deep:=2) au au q
 rw[e1] at M1;rw[e2] at M2;rw[M.Nz];simp only[M.rX,w1];rw[pX au,dX,pX au,dX];rw[o8] at hB3|-;unfold TS at hB3|-;refine bd (Kr h p 3 au au) ?_;rw[Qe];cases hq:Nat.beq (s.g p % 3) 0 with
 |false=>obtain⟨t,f,z,i⟩:=Yy h l1 (show deep<=2 by omega) (p+1);rw[show min (d+1) 2=deep.toNat by omega];exact bd f ⟨t,rfl,z,i⟩
 |true=>
  rw[hq] at hB3;simp only[bZ] at hB3;simp only[zau,dX,bZ];refine bd (iI h (p+1) 6 au au) ?_;have hc:s.g (p+1) % 6=0\/s.g (p+1) % 6=1\/s.g (p+1) % 6=2\/s.g (p+1) % 6=3\/s.g (p+1) % 6=4\/s.g (p+1) % 6=5:=au;have nn:∀c:Int,((s.g (p+1) % 6:Nat):Int)≠c->(((s.g (p+1) % 6:Nat):Int)==c)=false:=λc hn=>ZQ.2 hn
  have yy:∀c:Int,((s.g (p+1) % 6:Nat):Int)=c->(((s.g (p+1) % 6:Nat):Int)==c)=true:=λc hn=>beq_iff_eq.2 hn
  rcases hc with hc|hc|hc|hc|hc|hc
  ·simp only[yy 0 au,dX,bZ];rw[hc] at hB3|-;replace hB3:(up (lQ (dH s.g 1) (rZ s.g (o8 s.g d)) (p+2))).1<=900000:=hB3;show LW _ s (up (lQ (dH s.g 1) (rZ s.g (o8 s.g d)) (p+2)));simp only[up,lQ] at hB3|-;obtain⟨t1,f1,z1,i1⟩:=X1 (p+2);obtain⟨t2,f2,z2,i2⟩:=B (dH s.g 1 (p+2)).2;exact bd f1 (bd f2 (made 28 0 [] [] [t1,t2] (by simp only[sizes,z1,z2];omega) hB3 au au aW aW (by simp[i1,i2])))
  ·simp only[nn 0 au,yy 1 au,dX,bZ];rw[hc] at hB3|-;replace hB3:(up (lQ (dH s.g 1) (lQ (rZ s.g (o8 s.g d)) (rZ s.g (o8 s.g d))) (p+2))).1<=900000:=hB3;show LW _ s (up (lQ (dH s.g 1) (lQ (rZ s.g (o8 s.g d)) (rZ s.g (o8 s.g d))) (p+2)));simp only[up,lQ] at hB3|-;obtain⟨t1,f1,z1,i1⟩:=X1 (p+2);obtain⟨t2,f2,z2,i2⟩:=B (dH s.g 1 (p+2)).2;obtain⟨t3,f3,z3,i3⟩:=B (rZ s.g (o8 s.g d) (dH s.g 1 (p+2)).2).2;exact bd f1 (bd f2 (bd f3 (made 28 0 [] [] [t1,t2,t3] (by simp only[sizes,z1,z2,z3];omega) hB3 au au aW aW (by simp[i1,i2,i3]))))
  ·simp only[nn 0 au,nn 1 au,yy 2 au,dX,bZ];rw[hc] at hB3|-;replace hB3:(up (lQ (dH s.g 1) (rZ s.g (o8 s.g d)) (p+2))).1<=900000:=hB3;show LW _ s (up (lQ (dH s.g 1) (rZ s.g (o8 s.g d)) (p+2)));simp only[up,lQ] at hB3|-;obtain⟨t1,f1,z1,i1⟩:=X1 (p+2);obtain⟨t2,f2,z2,i2⟩:=B (dH s.g 1 (p+2)).2;exact bd f1 (bd f2 (made 29 0 [] [] [t1,t2] (by simp only[sizes,z1,z2];omega) hB3 au au aW aW (by simp[i1,i2])))
  ·simp only[nn 0 au,nn 1 au,nn 2 au,yy 3 au,dX,bZ];rw[hc] at hB3|-;replace hB3:(up (lQ (rZ s.g (o8 s.g d)) (dH s.g 1) (p+2))).1<=900000:=hB3;show LW _ s (up (lQ (rZ s.g (o8 s.g d)) (dH s.g 1) (p+2)));simp only[up,lQ] at hB3|-;obtain⟨t1,f1,z1,i1⟩:=B (p+2);obtain⟨t2,f2,z2,i2⟩:=X1 (rZ s.g (o8 s.g d) (p+2)).2;exact bd f1 (bd f2 (made 30 0 [] [] [t1,t2] (by simp only[sizes,z1,z2];omega) hB3 au au aW aW (by simp[i1,i2])))
  ·simp only[nn 0 au,nn 1 au,nn 2 au,nn 3 au,yy 4 au,dX,bZ];rw[hc] at hB3|-;replace hB3:(up (lQ (Kv s.g 2) (lQ (Kv s.g 1) (lQ (Kv s.g 1) (rZ s.g (o8 s.g d)))) (p+2))).1<=900000:=hB3;show LW _ s (up (lQ (Kv s.g 2) (lQ (Kv s.g 1) (lQ (Kv s.g 1) (rZ s.g (o8 s.g d)))) (p+2)));simp only[up,lQ] at hB3|-;obtain⟨t1,f1,z1,i1⟩:=M2 (p+2);obtain⟨t2,f2,z2,i2⟩:=M1 (Kv s.g 2 (p+2)).2;obtain⟨t3,f3,z3,i3⟩:=M1 (Kv s.g 1 (Kv s.g 2 (p+2)).2).2;obtain⟨t4,f4,z4,i4⟩:=B (Kv s.g 1 (Kv s.g 1 (Kv s.g 2 (p+2)).2).2).2;exact bd f1 (bd f2 (bd f3 (bd f4 (made 31 0 [] [] [t1,t2,t3,t4] (by simp only[sizes,z1,z2,z3,z4];omega) hB3 au au aW aW (by simp[i1,i2,i3,i4])))))
  ·simp only[nn 0 au,nn 1 au,nn 2 au,nn 3 au,nn 4 au,dX,bZ];rw[hc] at hB3|-;replace hB3:(bif Nat.beq (s.g (p+2) % 2) 0 then rZ s.g (o8 s.g d) (p+3) else up (rZ s.g (o8 s.g d) (p+5))).1<=900000:=hB3;show LW _ s (bif Nat.beq (s.g (p+2) % 2) 0 then rZ s.g (o8 s.g d) (p+3) else up (rZ s.g (o8 s.g d) (p+5)));refine bd (Kr h (p+2) 2 au au) ?_;rw[Qe];cases hr:Nat.beq (s.g (p+2) % 2) 0 with
   |true=>obtain⟨t,f,z,i⟩:=B (p+3);exact bd f ⟨t,rfl,z,i⟩
   |false=>rw[hr] at hB3;obtain⟨x,a,e⟩:=Gy h (p+3);obtain⟨y,c,e'⟩:=Gy h (p+4);obtain⟨t,f,z,i⟩:=B (p+5);exact bd e (bd e' (bd f (made 32 0 x y [t] (by rw[sizes,sizes,z]) hB3 au au a c (uI i))))
theorem WC:∀(d k:Nat),d<=2->2 * d+1<=k->STr s k d
 |0,k,_,hk=>by
  obtain⟨k,rfl⟩:∃j,k=j+1:=⟨k - 1,au⟩
  intro deep l1 l3 p;rw[M.Nz];simp only[M.rX];rw[zdt au,bZ,pX au,dX];obtain⟨t,f,z,i⟩:=Yy h l1 (show deep<=2 by omega) p;rw[l3] at f z;exact bd f ⟨t,rfl,z,i⟩
 |d+1,k,hd,hk=>by
  obtain⟨j,rfl⟩:∃j,k=j+2:=⟨k - 2,au⟩
  exact aeW h hd (WC d j au au)
theorem akH{deep:Int}(l1:0<=deep)(l2:deep<=2)(p:Nat):LW (M.jZ deep (cS s p).1 (cS s p).2.1 (cS s p).2.2) s (o8 s.g deep.toNat p):=by obtain⟨t,f,z,i⟩:=WC h deep.toNat (2 * deep.toNat+1) au (zav _) deep l1 rfl p;exact⟨t,M.Vx f,z,i⟩
theorem aoq{deep:Int}(l1:0<=deep)(l2:deep<=2)(p:Nat):LW (M.iL deep (cS s p).1 (cS s p).2.1 (cS s p).2.2) s (rZ s.g (o8 s.g deep.toNat) p):=by obtain⟨b,hb1,hb2⟩:=ZJ (s:=s) (show deep.toNat<=2 by omega);obtain⟨t,f,z,i⟩:=abn h hb2 au (WC h deep.toNat (2 * deep.toNat+1) au (zav _) deep l1 rfl) p;exact⟨t,M.SV f,z,i⟩
theorem akI(p:Nat):LW (M.uS (cS s p).1 (cS s p).2.1 (cS s p).2.2) s (WB s.g p):=by
 have hB:=adO (g:=s.g) p;have hB3:(WB s.g p).1<=900000:=au;have hm:=Nat.mod_lt (s.g (p+1)) (show 0<8 by omega);have hm2:=Nat.mod_lt (s.g p) (show 0<2 by omega);simp only[BF,M.uS,M.EC];refine bd (iI h p 2 au au) (bd (iI h (p+1) 8 au au) ?_);have w1:i64.wrap (1+((s.g p % 2:Nat):Int))=((1+s.g p % 2:Nat):Int):=by rw[aB au au];omega
 simp only[w1];have t1:((1+s.g p % 2:Nat):Int).toNat=1+s.g p % 2:=Qi _;have B:=λq=>aoq h (deep:=((1+s.g p % 2:Nat):Int)) au au q
 have E:=λq=>Iz h (deep:=((1+s.g p % 2:Nat):Int)) au au q
 have E1:=λq=>Iz h (deep:=1) au au q
 rw[t1] at B E;rw[show(1:Int).toNat=1 from rfl] at E1;unfold WB at hB3|-;have hc:s.g (p+1) % 8=0\/s.g (p+1) % 8=1\/s.g (p+1) % 8=2\/s.g (p+1) % 8=3\/s.g (p+1) % 8=4\/s.g (p+1) % 8=5\/s.g (p+1) % 8=6\/s.g (p+1) % 8=7:=au;have nn:∀c:Int,((s.g (p+1) % 8:Nat):Int)≠c->(((s.g (p+1) % 8:Nat):Int)==c)=false:=λc hn=>ZQ.2 hn
 have yy:∀c:Int,((s.g (p+1) % 8:Nat):Int)=c->(((s.g (p+1) % 8:Nat):Int)==c)=true:=λc hn=>beq_iff_eq.2 hn
 rcases hc with hc|hc|hc|hc|hc|hc|hc|hc
 ·simp only[yy 0 au,dX,bZ];rw[hc] at hB3|-;replace hB3:(up (rZ s.g (o8 s.g (1+s.g p % 2)) (p+3))).1<=900000:=hB3;show LW _ s (up (rZ s.g (o8 s.g (1+s.g p % 2)) (p+3)));have hm3:=Nat.mod_lt (s.g (p+2)) (show 0<2 by omega);obtain⟨t,f,z,i⟩:=B (p+3);exact bd (iI h (p+2) 2 au au) (bd f (made _ 0 [] [] [t] (by rw[sizes,sizes,z]) hB3 (by rw[aB au au];omega) au aW aW (uI i)))
 ·simp only[nn 0 au,yy 1 au,dX,bZ];rw[hc] at hB3|-;replace hB3:(up (dH s.g (1+s.g p % 2) (p+2))).1<=900000:=hB3;show LW _ s (up (dH s.g (1+s.g p % 2) (p+2)));obtain⟨t,f,z,i⟩:=E (p+2);exact bd f (made 42 1 [] [] [t] (by rw[sizes,sizes,z]) hB3 au au aW aW (uI i))
 ·simp only[nn 0 au,nn 1 au,yy 2 au,dX,bZ];rw[hc] at hB3|-;replace hB3:(up (rZ s.g (o8 s.g (1+s.g p % 2)) (p+2))).1<=900000:=hB3;show LW _ s (up (rZ s.g (o8 s.g (1+s.g p % 2)) (p+2)));obtain⟨t,f,z,i⟩:=B (p+2);exact bd f (made 42 2 [] [] [t] (by rw[sizes,sizes,z]) hB3 au au aW aW (uI i))
 ·simp only[nn 0 au,nn 1 au,nn 2 au,yy 3 au,dX,bZ];rw[hc] at hB3|-;replace hB3:(up (lQ (dH s.g 1) (dH s.g 1) (p+2))).1<=900000:=hB3;show LW _ s (up (lQ (dH s.g 1) (dH s.g 1) (p+2)));simp only[up,lQ] at hB3|-;obtain⟨t1,f1,z1,i1⟩:=E1 (p+2);obtain⟨t2,f2,z2,i2⟩:=E1 (dH s.g 1 (p+2)).2;exact bd f1 (bd f2 (made 43 1 [] [] [t1,t2] (by simp only[sizes,z1,z2];omega) hB3 au au aW aW (by simp[i1,i2])))
 ·simp only[nn 0 au,nn 1 au,nn 2 au,nn 3 au,yy 4 au,dX,bZ];rw[hc] at hB3|-;replace hB3:(up (lQ (dH s.g 1) (lQ (dH s.g 1) (rZ s.g (o8 s.g (1+s.g p % 2)))) (p+2))).1<=900000:=hB3;show LW _ s (up (lQ (dH s.g 1) (lQ (dH s.g 1) (rZ s.g (o8 s.g (1+s.g p % 2)))) (p+2)));simp only[up,lQ] at hB3|-;obtain⟨t1,f1,z1,i1⟩:=E1 (p+2);obtain⟨t2,f2,z2,i2⟩:=E1 (dH s.g 1 (p+2)).2;obtain⟨t3,f3,z3,i3⟩:=B (dH s.g 1 (dH s.g 1 (p+2)).2).2;exact bd f1 (bd f2 (bd f3 (made 43 3 [] [] [t1,t2,t3] (by simp only[sizes,z1,z2,z3];omega) hB3 au au aW aW (by simp[i1,i2,i3]))))
 ·simp only[nn 0 au,nn 1 au,nn 2 au,nn 3 au,nn 4 au,yy 5 au,dX,bZ];rw[hc] at hB3|-;replace hB3:(up (lQ (Qd (λq=>(1,q+1)) (s.g (p+2) % 3)) (λq=>rZ s.g (o8 s.g (1+s.g p % 2)) (q+1)) (p+3))).1<=900000:=hB3;show LW _ s (up (lQ (Qd (λq=>(1,q+1)) (s.g (p+2) % 3)) (λq=>rZ s.g (o8 s.g (1+s.g p % 2)) (q+1)) (p+3)));simp only[up,lQ] at hB3|-;have hm3:=Nat.mod_lt (s.g (p+2)) (show 0<3 by omega);obtain⟨us,k1,k2,k3,k4⟩:=H8 (s:=s) (e:=λq=>(1,q+1)) (b:=M.Ci ((1+s.g p % 2:Nat):Int)) (λp x=>rfl) (λn p ts hn ht=>by obtain⟨x,a,e⟩:=Gy h p;refine⟨.mk 1 0 x [] [], ?_,rfl,TQ au au a aW (by simp)⟩;simp only[BF,M.Ci,M.xA,e,aj,zaw,QX];rw[zdt au,bZ,dV au,bZ,dV au,bZ,aB au au,GK];have:((n+1:Nat):Int) - 1=n:=au;rw[this];rfl) (s.g (p+2) % 3) (p+3) [] (by simp;omega);have k1':M.Ag ((1+s.g p % 2:Nat):Int) (((s.g (p+2) % 3:Nat):Int),(cS s (p+3)).1,(cS s (p+3)).2.1,(cS s (p+3)).2.2,[])=_:=k1;obtain⟨t,f,z,i⟩:=B ((Qd (λq=>(1,q+1)) (s.g (p+2) % 3) (p+3)).2+1);refine bd (iI h (p+2) 3 au au) (bd k1' (bd (xY h _ _ rfl) (bd f ?_)));simp only[List.nil_append,zaw,QX,k3];rw[dV au,bZ,dV au,bZ];have e:=made (s:=s) (q:=(rZ s.g (o8 s.g (1+s.g p % 2)) ((Qd (λq=>(1,q+1)) (s.g (p+2) % 3) (p+3)).2+1)).2) 44 0 (pkS [[D.str [102]],[D.str [103]],[D.str [109,97,120]]] (s.g (Qd (λq=>(1,q+1)) (s.g (p+2) % 3) (p+3)).2)) [] (us++[t])
   (by rw[OJ,k2,z]) hB3 au au (o7 rfl _) aW (Yx k4 i)
  rw[GK] at e;exact e
 ·simp only[nn 0 au,nn 1 au,nn 2 au,nn 3 au,nn 4 au,nn 5 au,yy 6 au,dX,bZ];rw[hc] at hB3|-;replace hB3:(((1,p+3):Nat×Nat)).1<=900000:=hB3;show LW _ s (((1,p+3):Nat×Nat));exact bd (xY h _ _ rfl) (Jv 34 _ au (o7 rfl _))
 ·simp only[nn 0 au,nn 1 au,nn 2 au,nn 3 au,nn 4 au,nn 5 au,nn 6 au,dX,bZ];rw[hc] at hB3|-;replace hB3:(up (lQ (dH s.g (1+s.g p % 2)) (rZ s.g (o8 s.g (1+s.g p % 2))) (p+2))).1<=900000:=hB3;show LW _ s (up (lQ (dH s.g (1+s.g p % 2)) (rZ s.g (o8 s.g (1+s.g p % 2))) (p+2)));simp only[up,lQ] at hB3|-;obtain⟨t1,f1,z1,i1⟩:=E (p+2);obtain⟨t2,f2,z2,i2⟩:=B (dH s.g (1+s.g p % 2) (p+2)).2;exact bd f1 (bd f2 (made 42 3 [] [] [t1,t2] (by simp only[sizes,z1,z2];omega) hB3 au au aW aW (by simp[i1,i2])))
end
def mkT:Nat->Int->Nat
 |0,_=>0
 |n+1,h=>PU (aaG (OO h))+256 * mkT n (OO h)
def atH:Nat->Int->Nat
 |0,_=>0
 |m+1,h=>mkT 60 h+256 ^ 60 * atH m (it OO 60 h)
def aor:Nat:=atH 50 0
def ZK:Nat->Int->Nat->Bool
 |0,_,_=>true
 |n+1,h,t=>Nat.beq (PU (aaG (OO h))) (t % 256) && ZK n (OO h) (t / 256)
def Yz:∀(n:Nat) (h:Int) (t:Nat),ZK n h t=true->∀k,k<n->PU (aaG (OO (it OO k h)))=t / 256 ^ k % 256
 |0,_,_,_,k,hk=>absurd hk (Nat.not_lt_zero k)
 |n+1,h,t,hc,k,hk=>by
  rw[ZK] at hc;simp only[su] at hc;cases k with
  |zero=>rw[acg,Nat.pow_zero,Nat.div_one];exact lq hc.1
  |succ k=>have:=Yz n (OO h) (t / 256) hc.2 k au;rw[TM,this,Nat.div_div_eq_div_mul,Nat.pow_succ,Nat.mul_comm 256]
def aos:ZK 3000 0 aor=true:=by kernel_rfl
def gTab(p:Nat):Nat:=bif Nat.blt p 3000 then aor / 256 ^ p % 256 else PV p
def alH:gTab=PV:=by
 funext p;unfold gTab;cases hp:Nat.blt p 3000 with
 |false=>rfl
 |true=>rw[Nat.blt_eq] at hp;exact(Yz 3000 0 aor aos p hp).symm
def ahi:(List.range 2858).all (λj=>Nat.ble (Jw gTab j).1 220)=true:=by kernel_rfl
def ahj:(List.range 405).all (λj=>Nat.ble (KC gTab j).1 60)=true:=by kernel_rfl
def acS(j:Nat)(hj:j<=2857):(Jw PV j).1<=220:=by rw[<-alH];exact Nat.le_of_ble_eq_true (List.all_eq_true.1 ahi j (List.mem_range.2 au))
def acT(j:Nat)(hj:j<=404):(KC PV j).1<=60:=by rw[<-alH];exact Nat.le_of_ble_eq_true (List.all_eq_true.1 ahj j (List.mem_range.2 au))
def NI(s:Cu)(p q:Nat):cS (s.st p) q=cS s (p+q):=by unfold cS;rw[Cu.aaH]
abbrev LpS:=(ay×Int×Int)⊕zak
abbrev LpT:=ay×Int×Int×ay
def Qg(s:Cu)(p:Nat):LpS->Prop
 | .inl c=>c=cS s p
 | .inr (_,c,c1,c2,_)=>(c,c1,c2)=cS s p
def ZL{s:Cu}{p q:Nat}{x:LpS}:Qg (s.st p) q x↔Qg s (p+q) x:=by
 cases x with
 |inl c=>simp only[Qg,NI]
 |inr c=>simp only[Qg,NI]
def DX(m:DR)(s:Cu)(lim:Nat):Prop:=∃(t:Tn) (q:Nat),m=some (aH true (t.flat 0),cS s q)/\t.size<=lim/\Bv t
def DX.mono{m:DR}{s:Cu}{a b:Nat}(h:DX m s a)(hab:a<=b):DX m s b:=by obtain⟨t,q,h1,h2,h3⟩:=h;exact⟨t,q,h1,Nat.le_trans h2 hab,h3⟩
def LW.dx{m:DR}{s:Cu}{r:Nat×Nat}{lim:Nat}(h:LW m s r)(hr:r.1<=lim):DX m s lim:=by obtain⟨t,h1,h2,h3⟩:=h;exact⟨t,r.2,h1,au,h3⟩
def adQ{b:LpS->Option (LpS⊕LpT)}{f:(Nat->Nat)->DF}{lim L:Nat}
  (hf:∀{s:Cu},LU s->∀p,∃t:Tn,t.size=(f s.g p).1/\Bv t/\∀x,Qg s p x->b x=(bif decide ((t.size:Int)<=(lim:Int)) then some (.inr ((cS s (f s.g p).2).1,(cS s (f s.g p).2).2.1,(cS s (f s.g p).2).2.2,aH true (t.flat 0)))
   else some (.inl (.inr (false,(cS s (f s.g p).2).1,(cS s (f s.g p).2).2.1,(cS s (f s.g p).2).2.2,aH true (t.flat 0))))))
  (hbd:∀g,Bd L (f g)) (hsm:∀j,j<=L->(f PV j).1<=lim):∀s:Cu,LU s->∀x,Qg s 0 x->∃(q:Nat) (t:Tn),fG b x=some ((cS s q).1,(cS s q).2.1,(cS s q).2.2,aH true (t.flat 0))/\t.size<=lim/\Bv t:=by
 intro s hs;refine aex f lim L (λu=>u.code.length<=1048576->∀x,Qg u 0 x->∃(q:Nat) (t:Tn),fG b x=some ((cS u q).1,(cS u q).2.1,(cS u q).2.2,aH true (t.flat 0))/\t.size<=lim/\Bv t) ?_ hsm s hs.i hs.l;intro s p hi;have hb:=hbd s.g p;refine⟨au,au,λhz hl x hx=> ?_,λhP hl x hx=> ?_⟩
 ·rw[Cu.Ad] at hl;rw[ZL,Nat.add_zero] at hx;obtain⟨t,z,i,hbx⟩:=hf ⟨hi,hl⟩ p;have e:=hbx x hx;rw[zdt au,bZ] at e;refine⟨(f s.g p).2 - p,t, ?_,au,i⟩;rw[NI,show p+((f s.g p).2 - p)=(f s.g p).2 by omega];exact dJ e
 ·rw[Cu.Ad] at hl;rw[ZL,Nat.add_zero] at hx;obtain⟨t,z,i,hbx⟩:=hf ⟨hi,hl⟩ p;have e:=hbx x hx
  by_cases hz:(t.size:Int)<=(lim:Int)
  ·rw[zdt hz,bZ] at e;refine⟨(f s.g p).2 - p,t, ?_,au,i⟩;rw[NI,show p+((f s.g p).2 - p)=(f s.g p).2 by omega];exact dJ e
  ·rw[pX hz,dX] at e;obtain⟨q,t',k1,k2,k3⟩:=hP (by rw[Cu.Ad];exact hl) _ (show Qg (s.st (f s.g p).2) 0 (.inr (false,(cS s (f s.g p).2).1,(cS s (f s.g p).2).2.1,(cS s (f s.g p).2).2.2,aH true (t.flat 0))) from by rw[ZL];rfl);refine⟨(f s.g p).2 - p+q,t', ?_,k2,k3⟩;rw[iD e,k1,NI,NI,show p+((f s.g p).2 - p+q)=(f s.g p).2+q by omega]
section
variable {s:Cu} (h:LU s)
include h
theorem acU(p:Nat):∃t:Tn,t.size=(KC s.g p).1/\Bv t/\∀x,Qg s p x->M.tJ x=(bif decide ((t.size:Int)<=((60:Nat):Int)) then some (.inr ((cS s (KC s.g p).2).1,(cS s (KC s.g p).2).2.1,(cS s (KC s.g p).2).2.2,aH true (t.flat 0)))
   else some (.inl (.inr (false,(cS s (KC s.g p).2).1,(cS s (KC s.g p).2).2.1,(cS s (KC s.g p).2).2.2,aH true (t.flat 0))))):=by
 have hm:=Nat.mod_lt (s.g p) (show 0<4 by omega);have w1:i64.wrap (1+((s.g p % 4:Nat):Int))=((1+s.g p % 4:Nat):Int):=by rw[aB au au];omega
 have e4:=iI h p 4 au au;rw[show((4:Nat):Int)=4 from rfl] at e4;obtain⟨t,f,z,i⟩:=Iz h (deep:=((1+s.g p % 4:Nat):Int)) au au (p+1);rw[Qi] at f z;refine⟨t,z,i,λx hx=> ?_⟩;cases x with
 |inl c=>simp only[Qg] at hx;subst hx;simp only[M.tJ,M.tH,e4,aj,w1,f,bn,t.flat_length];cases decide ((t.size:Int)<=60)<;>rfl
 |inr c=>obtain⟨v,c,c1,c2,xx⟩:=c;simp only[Qg] at hx;cases hx;have e4':M.aG 4 (cR (s.st p)) ((s.st p).i:Int) (s.st p).h=_:=e4;simp only[M.tJ,M.tH,e4',aj,w1,f,bn,t.flat_length];cases decide ((t.size:Int)<=60)<;>rfl
theorem acV(p:Nat):∃t:Tn,t.size=(Jw s.g p).1/\Bv t/\∀x,Qg s p x->M.nZ x=(bif decide ((t.size:Int)<=((220:Nat):Int)) then some (.inr ((cS s (Jw s.g p).2).1,(cS s (Jw s.g p).2).2.1,(cS s (Jw s.g p).2).2.2,aH true (t.flat 0)))
   else some (.inl (.inr (false,(cS s (Jw s.g p).2).1,(cS s (Jw s.g p).2).2.1,(cS s (Jw s.g p).2).2.2,aH true (t.flat 0))))):=by
 have hm:=Nat.mod_lt (s.g p) (show 0<4 by omega);have hB:=adP (g:=s.g) p;have e4:=iI h p 4 au au;rw[show((4:Nat):Int)=4 from rfl] at e4;obtain⟨us,k1,k2,k3,k4⟩:=H8 (s:=s) (e:=WB s.g) (b:=M.zM) (λp x=>rfl) (λn p ts hn ht=>by obtain⟨t,f1,z1,i1⟩:=akI h p;refine⟨t, ?_,z1,i1⟩;simp only[BF,M.zM,M.sH,f1,aj,zaw,QX];rw[zdt au,bZ,dV au,bZ,dV au,bZ,aB au au,GK];simp) (s.g p % 4) (p+1) [] (by simp;omega);have k1':M.qQ (((s.g p % 4:Nat):Int),(cS s (p+1)).1,(cS s (p+1)).2.1,(cS s (p+1)).2.2,[])=_:=k1;have hz:(Jw s.g p).1=sizes us+1:=by rw[k2];rfl
 have hmk:=Zy 45 0 [] [] [] us au;rw[<-adJ] at hmk;refine⟨.mk 45 0 [] [] us,by rw[Tn.size,hz],TQ au au aW aW k4,λx hx=> ?_⟩;cases x with
 |inl c=>simp only[Qg] at hx;subst hx;simp only[M.nZ,M.nY,e4,aj,k1',List.nil_append,hmk,MJ,bZ,bn,Tn.flat_length];cases decide (((Tn.mk 45 0 [] [] us).size:Int)<=220)<;>rfl
 |inr c=>obtain⟨v,c,c1,c2,xx⟩:=c;simp only[Qg] at hx;cases hx;have e4':M.aG 4 (cR (s.st p)) ((s.st p).i:Int) (s.st p).h=_:=e4;simp only[M.nZ,M.nY,e4',aj,k1',List.nil_append,hmk,MJ,bZ,bn,Tn.flat_length];cases decide (((Tn.mk 45 0 [] [] us).size:Int)<=220)<;>rfl
theorem akJ(p:Nat):DX (M.qG (cS s p).1 (cS s p).2.1 (cS s p).2.2) s 60:=by obtain⟨q,t,k1,k2,k3⟩:=adQ (b:=M.tJ) (f:=KC) (lim:=60) (L:=404) (λh p=>acU h p) (λg=>akF) acT (s.st p) (h.st p) (.inl (cS s p)) (by show cS s p=cS (s.st p) 0;rw[NI];rfl);have k1':M.BZ (.inl ((cS s p).1,(cS s p).2.1,(cS s p).2.2))=_:=k1;rw[NI] at k1';refine⟨t,p+q, ?_,k2,k3⟩;simp only[M.qG,M.Ez];rw[k1',aj]
theorem acW(p:Nat):DX (M.ng (cS s p).1 (cS s p).2.1 (cS s p).2.2) s 220:=by obtain⟨q,t,k1,k2,k3⟩:=adQ (b:=M.nZ) (f:=Jw) (lim:=220) (L:=2857) (λh p=>acV h p) (λg=>adP) acS (s.st p) (h.st p) (.inl (cS s p)) (by show cS s p=cS (s.st p) 0;rw[NI];rfl);have k1':M.xB (.inl ((cS s p).1,(cS s p).2.1,(cS s p).2.2))=_:=k1;rw[NI] at k1';refine⟨t,p+q, ?_,k2,k3⟩;simp only[M.ng,M.y8];rw[k1',aj]
theorem any_ok(p:Nat):DX (M.rQ (cS s p).1 (cS s p).2.1 (cS s p).2.2) s 500:=by
 have hm:=Nat.mod_lt (s.g p) (show 0<5 by omega);have e5:=iI h p 5 au au;rw[show((5:Nat):Int)=5 from rfl] at e5;simp only[M.rQ,M.Gs];rw[e5,aj];obtain⟨t1,q1,f1,z1,i1⟩:=akJ h (p+1);obtain⟨t2,f2,z2,i2⟩:=akH h (deep:=2) au au (p+1);have b2:=ZI (g:=s.g) (p+1);rw[show(2:Int).toNat=2 from rfl] at f2 z2;obtain⟨t3,q3,f3,z3,i3⟩:=acW h (p+1);simp only[f1,f2,f3,aj];cases((s.g p % 5:Nat):Int)==0 with
 |true=>exact⟨t1,q1,rfl,au,i1⟩
 |false=>cases((s.g p % 5:Nat):Int)==1 with
  |true=>exact⟨t1,q1,rfl,au,i1⟩
  |false=>cases((s.g p % 5:Nat):Int)==2 with
   |true=>exact⟨t2,_,rfl,au,i2⟩
   |false=>exact⟨t3,q3,rfl,au,i3⟩
end
def aot(c:aT)(hc:c.length<=1048576):∃h,M.yw (c.map byteRow)=some (c.map byteRow,0,h):=by
 have key:∀(n i:Nat) (h:Int),c.length - i=n->∃t,fG (M.wG (c.map byteRow)) (h,(i:Int))=some t:=by
  intro n;induction n with
  |zero=>intro i h hi;refine⟨(h,(i:Int)),dJ ?_⟩;simp only[M.wG,M.qm,zaw];rw[pX au,dX]
  |succ n ih=>
   intro i h hi
   by_cases h4:i<4000
   ·obtain⟨b,hb⟩:∃b,c[i]? =some b:=⟨c[i],by simp⟩
    have hr:idx (c.map byteRow) (i:Int)=some (byteRow b):=by rw[bT,List.getElem?_map,hb];rfl
    have hcI:gW .u8 (byteRow b) 0=some (b.toNat:Int):=rfl;obtain⟨t,ht⟩:=ih (i+1) _ au;refine⟨t, ?_⟩;rw[<-ht];apply iD;simp only[M.wG,M.qm,zaw];rw[zdt au,bZ,zdt au,bZ,hr,aj,hcI,aj,aB (n:=(i:Int)+1) au au];rfl
   ·refine⟨(h,(i:Int)),dJ ?_⟩;simp only[M.wG,M.qm,zaw];rw[zdt au,bZ,pX au,dX]
 obtain⟨t,ht⟩:=key c.length 0 (i64.wrap (10101+(((c.map byteRow).length:Nat):Int))) au;refine⟨t.fst, ?_⟩;simp only[M.yw,M.Gm];rw[show M.Eo (c.map byteRow) (i64.wrap (10101+(((c.map byteRow).length:Nat):Int)),0)=some t from ht,aj]
structure BtN(n:Nd):Prop where
 kids:n.kids.length<=501
 ints:∀e,e∈n.kids-> -1000000<=e/\e<=1000000
 fine:alE n
structure Bt(l:List Nd):Prop where
 len:l.length<=1000
 all:∀n,n∈l->BtN n
def abo{t:Tn}(hs:t.size<=500)(hf:Bv t):∀n,n∈t.flat 0->BtN n/\n.kids.length<=500:=by intro n hn;obtain⟨h1,h2⟩:=Jt t 0 n hn;exact⟨⟨au,λe he=>by have:=h2 e he;omega,hf 0 n hn⟩,au⟩
def TT{t:Tn}(hs:t.size<=500)(hf:Bv t):Bt (t.flat 0):=⟨by rw[t.flat_length];omega,λn hn=>(abo hs hf n hn).1⟩
def Bt.set{l:List Nd}(h:Bt l){i:Nat}{n:Nd}(hn:BtN n):Bt (l.set i n):=⟨by rw[List.length_set];exact h.len,λm hm=>by
 rcases List.mem_or_eq_of_mem_set hm with hm|rfl
 ·exact h.all m hm
 ·exact hn⟩
def ahk(n:Nd):TU 1 (DC true n) 4=some (encI n.kids):=rfl
def ZM(o:Bool)(n:Nd)(k:List Int):splice (DC o n) 4 [D.sl o 1 (encI k)]=DC o {n with kids:=k}:=rfl
def Ef(o:Bool)(l:List Nd)(i:Nat)(n:Nd):(aH o l).set i (DC o n)=aH o (l.set i n):=by simp[aH,List.map_set]
structure Few(l:List Nd):Prop where
 len:l.length<=1000
 kids:∀n,n∈l->n.kids.length<=501
def Bt.few{l:List Nd}(h:Bt l):Few l:=⟨h.len,λn hn=>(h.all n hn).kids⟩
def akK(o:Bool)(n:Nd)(x:aT):splice (DC o n) 2 [D.str x]=DC o {n with text:=x}:=rfl
def DB(m:Option (Bool×ay×ay×Int×Int))(s:Cu):Prop:=∃(b o:Bool) (l:List Nd) (q:Nat),m=some (b,aH o l,cS s q)/\Bt l
section
variable {s:Cu} (h:LU s)
include h
theorem akL(p:Nat):DB (M.uT (cS s p).1 (cS s p).2.1 (cS s p).2.2) s:=by
 obtain⟨t,q,f1,z1,i1⟩:=any_ok h p;have hlen:(aH true (t.flat 0)).length=t.size:=by rw[bn,t.flat_length]
 have hpos:=t.size_pos;obtain⟨k,q1,f2,_,_,k0,k1⟩:=QU h q (t.size:Int) au;have hk:k<t.size:=au;obtain⟨i,rfl⟩:=Int.eq_ofNat_of_zero_le k0;have hi:i<t.size:=au;have e12:=iI h q1 12 au au;rw[show((12:Nat):Int)=12 from rfl] at e12;have hb:=TT z1 i1;have hil:i<(t.flat 0).length:=by rw[t.flat_length];exact hi
 obtain⟨n,hn⟩:∃n,(t.flat 0)[i]? =some n:=⟨(t.flat 0)[i],by simp[hil]⟩
 have hnb:=abo z1 i1 n (OQ hn);have hset:(t.flat 0).set i {n with kids:=n.kids}=t.flat 0:=by obtain⟨_,rfl⟩:=FK.1 hn;exact List.set_getElem_self hil
 simp only[BF,M.uT,M.ED];rw[f1,aj];simp only[hlen];rw[f2,aj];simp only;rw[e12,aj];simp only;cases c0:((s.g q1 % 12:Nat):Int)==0 with
 |true=>
  rw[bZ,pF];refine⟨false,false,(t.flat 0).take i,q1+1, ?_,by have:=hb.len;rw[MW];omega,λm hm=>hb.all m (List.mem_of_mem_take hm)⟩;have:cut (aH false (t.flat 0)) 0 (i:Int)=some (aH false ((t.flat 0).take i)):=by unfold cut;rw[bn,t.flat_length,zdt au,zdt au,zdt au];simp[aH,List.map_take]
  rw[this,aj]
 |false=>
  rw[dX];cases c1:((s.g q1 % 12:Nat):Int)==1 with
  |true=>
   have hrb:Ju iB [[D.int .i64 (-1)],[D.int .i64 (i:Int)],[D.int .i64 0],[D.int .i64 99]]=true:=by simp only[Ju,iB,List.all_cons,List.all_nil,Bool.and_true,su,decide_eq_true_eq,OL,zln];refine⟨⟨⟨au,au⟩,⟨au,au⟩,⟨au,au⟩,⟨au,au⟩⟩,by decide,by decide⟩
   have epk:=Aa h (q1+1) _ hrb;have hpk:=uH hrb (s.g (q1+1));simp only[bZ,bT,Qi,dQ,hn,Eh,aj,ahk,wS,epk];generalize pkI [[D.int .i64 (-1)],[D.int .i64 (i:Int)],[D.int .i64 0],[D.int .i64 99]] (s.g (q1+1))=w at hpk;have hl:=hnb.2;rw[show encI n.kids++[[D.int IntKind.i64 w]]=encI (n.kids++[w]) from by simp[encI],wS,bZ,ZM,Ef,dw];rw[dV (by simp;omega),bZ,dV (by simp;omega),bZ,show(i.beq i)=true from Nat.beq_refl i];refine⟨true,true,(t.flat 0).set i {n with kids:=n.kids++[w]},q1+1+1,rfl,hb.set ⟨by simp;omega,λe he=> ?_,hnb.1.fine⟩⟩;rcases List.mem_append.1 he with he|he
   ·exact hnb.1.ints e he
   ·rw[List.mem_singleton.1 he];omega
  |false=>
   rw[dX];cases c2:((s.g q1 % 12:Nat):Int)==2 with
   |true=>
    simp only[bZ,bT,Qi,dQ,hn,Eh,aj,ahk,wS,ZM,Ef,hset,dw];cases hk:n.kids with
    |nil=>
     refine⟨true,true,t.flat 0,q1+1, ?_,hb⟩;have e0:(t.flat 0).set i {n with kids:=[]}=t.flat 0:=by rw[<-hk];exact hset
     rfl
    |cons x xs=>
     have e0:(t.flat 0).set i {n with kids:=x::xs}=t.flat 0:=by rw[<-hk];exact hset
     obtain⟨j,q2,f3,_,_,j0,j1⟩:=QU h (q1+1) ((i:Int)+1) au;have w1:i64.wrap ((i:Int)+1)=(i:Int)+1:=aB au au;have w2:i64.wrap (j - 1)=j - 1:=aB au au;have hx0:idx (encI (x::xs)) 0=some [D.int .i64 x]:=rfl;have hx1:(encI (x::xs))[0]? =some [D.int .i64 x]:=rfl;have hx2:(encI (x::xs)).set 0 (splice [D.int .i64 x] 0 [D.int .i64 (j - 1)])=encI ((j - 1)::xs):=rfl;rw[zdt (by simp),bZ];simp only[w1,f3,aj,w2,e0,hn,dQ,Eh,hk,hx0,hx1,hx2,wS,bZ,ahk,ZM,Ef,hset];refine⟨true,true,(t.flat 0).set i {n with kids:=(j - 1)::xs},q2,rfl,hb.set ⟨?_,λe he=> ?_,hnb.1.fine⟩⟩
     ·have:=hnb.2;rw[hk] at this;simp only[OL] at this|-;omega
     ·rcases List.mem_cons.1 he with rfl|he
      ·omega
      ·exact hnb.1.ints e (by rw[hk];exact zmm _ he)
   |false=>
    rw[dX];cases c3:((s.g q1 % 12:Nat):Int)==3 with
    |true=>
     rw[bZ,dV au,dV au];refine⟨false,false,t.flat 0++t.flat 0,q1+1, ?_, ?_,λm hm=> ?_⟩
     ·rw[Bool.and_true,bZ,pF,rJ]
     ·rw[ZP,t.flat_length];omega
     ·rcases List.mem_append.1 hm with hm|hm<;>exact hb.all m hm
    |false=>exact⟨true,true,t.flat 0,q1+1,rfl,hb⟩
end
def aou{c:aT}(hc:c.length<=1048576)(h:Int):LU ⟨c,0,h⟩:=⟨Nat.zero_le _,hc⟩
def setKind(o:Bool)(n:Nd)(v:Int):splice (DC o n) 0 [D.int .i64 v]=DC o {n with kind:=v}:=rfl
def atI(o:Bool)(n:Nd)(v:Int):splice (DC o n) 1 [D.int .i64 v]=DC o {n with op:=v}:=rfl
def setOther(o:Bool)(n:Nd)(x:aT):splice (DC o n) 3 [D.str x]=DC o {n with other:=x}:=rfl
section
variable {s:Cu} (h:LU s)
include h
theorem aeX(p:Nat):DB (M.oM (cS s p).1 (cS s p).2.1 (cS s p).2.2) s:=by
 obtain⟨t,q,f1,z1,i1⟩:=any_ok h p;have hlen:(aH true (t.flat 0)).length=t.size:=by rw[bn,t.flat_length]
 have hpos:=t.size_pos;obtain⟨k,q1,f2,_,_,k0,k1⟩:=QU h q (t.size:Int) au;have hk:k<t.size:=au;obtain⟨i,rfl⟩:=Int.eq_ofNat_of_zero_le k0;have hi:i<t.size:=au;have e14:=iI h q1 14 au au;rw[show((14:Nat):Int)=14 from rfl] at e14;have e47:=iI h (q1+1) 47 au au;rw[show((47:Nat):Int)=47 from rfl] at e47;have aEF:=Nat.mod_lt (s.g (q1+1)) (show 0<47 by omega);have aD0:(-1000:Int)<=((s.g (q1+1) % 47:Nat):Int)/\((s.g (q1+1) % 47:Nat):Int)<=1000:=au;have hb:=TT z1 i1;have hil:i<(t.flat 0).length:=by rw[t.flat_length];exact hi
 obtain⟨n,hn⟩:∃n,(t.flat 0)[i]? =some n:=⟨(t.flat 0)[i],by simp[hil]⟩
 have hnb:=hb.all n (OQ hn);have Qh:=hnb.fine;simp only[M.oM,M.Ah];rw[f1,aj];simp only[hlen];rw[f2,aj];simp only;rw[e14,aj];simp only;cases c0:((s.g q1 % 14:Nat):Int)==0 with
 |true=>simp only[bZ,e47,bT,Qi,dQ,hn,Eh,aj,setKind,Ef];exact⟨true,true,_,_,rfl,hb.set ⟨hnb.kids,hnb.ints,⟨aD0,Qh.2⟩⟩⟩
 |false=>
  rw[dX];cases c1:((s.g q1 % 14:Nat):Int)==1 with
  |true=>
   have hrb:Ju iB [[D.int .i64 0],[D.int .i64 1],[D.int .i64 56],[D.int .i64 99],[D.int .i64 54],[D.int .i64 51],[D.int .i64 (-1)]]=true:=by decide
   have epk:=Aa h (q1+1) _ hrb;have hpk:=uH hrb (s.g (q1+1));simp only[bZ,epk,bT,Qi,dQ,hn,Eh,aj,atI,Ef];exact⟨true,true,_,_,rfl,hb.set ⟨hnb.kids,hnb.ints,⟨Qh.1,hpk,Qh.2.2⟩⟩⟩
  |false=>
   rw[dX];cases c2:((s.g q1 % 14:Nat):Int)==2 with
   |true=>
    have hrb:Ju sB [[D.str []],[D.str [120]],[D.str [105,102]],[D.str [108,101,110,103,116,104]],[D.str [49]],[D.str [47]]]=true:=by decide
    have epk:=xY h (q1+1) _ hrb;have hpk:=o7 hrb (s.g (q1+1));simp only[bZ,epk,bT,Qi,dQ,hn,Eh,aj,akK,Ef];exact⟨true,true,_,_,rfl,hb.set ⟨hnb.kids,hnb.ints,⟨Qh.1,Qh.2.1,hpk,Qh.2.2.2⟩⟩⟩
   |false=>
    rw[dX];cases c3:((s.g q1 % 14:Nat):Int)==3 with
    |true=>
     have hrb:Ju sB [[D.str []],[D.str [62]],[D.str [120]]]=true:=by decide
     have epk:=xY h (q1+1) _ hrb;have hpk:=o7 hrb (s.g (q1+1));simp only[bZ,epk,bT,Qi,dQ,hn,Eh,aj,setOther,Ef];exact⟨true,true,_,_,rfl,hb.set ⟨hnb.kids,hnb.ints,⟨Qh.1,Qh.2.1,Qh.2.2.1,hpk⟩⟩⟩
    |false=>
     rw[dX];cases c4:((s.g q1 % 14:Nat):Int)==4 with
     |true=>obtain⟨b,o,l,q2,f5,hl⟩:=akL h (q1+1);rw[bZ,f5,aj];simp only[pF];exact⟨false,false,l,q2,rfl,hl⟩
     |false=>exact⟨true,true,t.flat 0,q1+1,rfl,hb⟩
end
def bdx{α:Type}{m:Option α}{x:α}{k:α->DR}{s:Cu}{n:Nat}(e:m=some x)(hk:DX (k x) s n):DX (m.bind k) s n:=by rw[e];exact hk
def DX.ite{c:Bool}{a b:DR}{s:Cu}{n:Nat}(ha:DX a s n)(hb:DX b s n):DX (bif c then a else b) s n:=by cases c<;>assumption
abbrev opsV:ay:=[[D.int IntKind.i64 55],[D.int IntKind.i64 56],[D.int IntKind.i64 57],[D.int IntKind.i64 59],[D.int IntKind.i64 63],[D.int IntKind.i64 47],[D.int IntKind.i64 49],[D.int IntKind.i64 45],[D.int IntKind.i64 44],[D.int IntKind.i64 55],[D.int IntKind.i64 50],[D.int IntKind.i64 62],[D.int IntKind.i64 48],[D.int IntKind.i64 58]]
abbrev atJ:ay:=[[D.int IntKind.i64 56],[D.int IntKind.i64 61],[D.int IntKind.i64 55]]
abbrev akM:ay:=[[D.str [120]],[D.str [121]],[D.str [110]]]
abbrev nums:ay:=[[D.str [48]],[D.str [49]],[D.str [50]],[D.str [55]],[D.str [49,48]],[D.str [57,57,57,57,57,57,57,57,57]],[D.str [51,46,53]]]
section
variable {s:Cu} (h:LU s)
include h
theorem alI(p n:Nat):DX ((M.bM akM (cS s p).1 (cS s p).2.1 (cS s p).2.2).bind λr=>some ([[D.int IntKind.i64 1,D.int IntKind.i64 0,D.str r.1,D.str [],D.sl true 1 []]],r.2.1,r.2.2.1,r.2.2.2)) s (n+1):=
 bdx (xY h p akM rfl) ((Jv (s:=s) (q:=p+1) 1 _ au (o7 rfl _)).dx (by show 1<=n+1;omega))
theorem ahl(p n:Nat):DX ((M.bM nums (cS s p).1 (cS s p).2.1 (cS s p).2.2).bind λr=>some ([[D.int IntKind.i64 2,D.int IntKind.i64 0,D.str r.1,D.str [],D.sl true 1 []]],r.2.1,r.2.2.1,r.2.2.2)) s (n+1):=
 bdx (xY h p nums rfl) ((Jv (s:=s) (q:=p+1) 2 _ au (o7 rfl _)).dx (by show 1<=n+1;omega))
theorem e27:∀(d p:Nat),d<=3->DX (M.jr (d+1) (d:Int) (cS s p).1 (cS s p).2.1 (cS s p).2.2) s (4 ^(d+1))
 |0,p,hd=>by
  have e10:=iI h p 10 au au;rw[show((10:Nat):Int)=10 from rfl] at e10;have e3:=iI h (p+1) 3 au au;rw[show((3:Nat):Int)=3 from rfl] at e3;have hm:=Nat.mod_lt (s.g (p+1)) (show 0<3 by omega);have n1:=alI h (p+1+1) 3;have n2:=ahl h (p+1+1) 3;simp only[M.jr,M.tu];refine bdx e10 ?_;rw[zdt au,bZ];refine bdx e3 ?_;have hc:s.g (p+1) % 3=0\/s.g (p+1) % 3=1\/s.g (p+1) % 3=2:=au;rcases hc with hc|hc|hc
  ·simp only[hc];exact n1
  ·simp only[hc];exact n2
  ·simp only[hc];exact n2
 |d+1,p,hd=>by
  have e10:=iI h p 10 au au;rw[show((10:Nat):Int)=10 from rfl] at e10;have w:i64.wrap (((d+1:Nat):Int) - 1)=(d:Int):=by rw[aB au au];omega
  have ih:=λq=>e27 d q au
  have hp:4 ^(d+1)<=4 ^ 3:=Nat.pow_le_pow_right au au;have hp1:1<=4 ^(d+1):=Nat.one_le_pow _ _ au;have hpe:4 ^(d+1+1)=4 ^(d+1) * 4:=Nat.pow_succ ..;have hlim:4 ^(d+1) * 4=(4 ^(d+1) * 4 - 1)+1:=au;rw[M.jr];simp only[M.tu,w];refine bdx e10 ?_;rw[pX au,dX,hpe];refine DX.ite (by rw[hlim];exact alI h (p+1) _) (DX.ite (by rw[hlim];exact ahl h (p+1) _) (DX.ite (by rw[hlim];exact ahl h (p+1) _) (DX.ite ?_ (DX.ite ?_ ?_))))
  ·have hu:Ju iB atJ=true:=by decide
   refine bdx (Aa h (p+1) atJ hu) ?_;have ho:=uH hu (s.g (p+1));obtain⟨t1,q1,f1,z1,i1⟩:=ih (p+1+1);refine bdx f1 ?_;exact(made (q:=q1) 11 _ [] [] [t1] (z:=t1.size+1) (by simp[sizes]) au au ho (by simp[uG]) (by simp[uG]) (by simp[i1])).dx (by show t1.size+1<=_;omega)
  ·obtain⟨t1,q1,f1,z1,i1⟩:=ih (p+1);refine bdx f1 ?_;obtain⟨t2,q2,f2,z2,i2⟩:=ih q1;refine bdx f2 ?_;obtain⟨t3,q3,f3,z3,i3⟩:=ih q2;refine bdx f3 ?_;exact(made (q:=q3) 14 0 [] [] [t1,t2,t3] (z:=t1.size+(t2.size+t3.size)+1) (by simp[sizes]) au au au (by simp[uG]) (by simp[uG]) (by simp[i1,i2,i3])).dx (by show t1.size+(t2.size+t3.size)+1<=_;omega)
  ·have hu:Ju iB opsV=true:=by decide
   refine bdx (Aa h (p+1) opsV hu) ?_;have ho:=uH hu (s.g (p+1));obtain⟨t1,q1,f1,z1,i1⟩:=ih (p+1+1);refine bdx f1 ?_;obtain⟨t2,q2,f2,z2,i2⟩:=ih q1;refine bdx f2 ?_;exact(made (q:=q2) 12 _ [] [] [t1,t2] (z:=t1.size+t2.size+1) (by simp[sizes]) au au ho (by simp[uG]) (by simp[uG]) (by simp[i1,i2])).dx (by show t1.size+t2.size+1<=_;omega)
theorem alJ(d p:Nat)(hd:d<=3):DX (M.iW (d:Int) (cS s p).1 (cS s p).2.1 (cS s p).2.2) s 256:=by obtain⟨t,q,f,z,i⟩:=e27 h d p hd;have hp:4 ^(d+1)<=4 ^ 4:=Nat.pow_le_pow_right au au;exact⟨t,q,M.SK f,au,i⟩
end
def ZN(c:aT)(hc:c.length<=1048576):∃(b o:Bool) (l xs:List Nd) (name:aT),M.ni (c.map byteRow)=some (b,aH o l,name,true,aH true xs)/\Bt l/\Bt xs:=by
 obtain⟨h,e⟩:=aot c hc;have hc':=aou hc h;have e3:=iI hc' 0 3 au au;rw[show((3:Nat):Int)=3 from rfl] at e3;have e3':M.aG 3 (c.map byteRow) 0 h=_:=e3;have hm:=Nat.mod_lt (Cu.g ⟨c,0,h⟩ 0) (show 0<3 by omega);have w:i64.wrap (1+((Cu.g ⟨c,0,h⟩ 0 % 3:Nat):Int))=((1+Cu.g ⟨c,0,h⟩ 0 % 3:Nat):Int):=by rw[aB au au];omega
 obtain⟨t,q,f,z,i⟩:=alJ hc' (1+Cu.g ⟨c,0,h⟩ 0 % 3) 1 au;have eo:=Kr hc' q 3 au au;rw[show((3:Nat):Int)=3 from rfl] at eo;have last:∀p,∃(xs:List Nd) (name:aT) (y1:aT×ay×Int×Int) (y2:Int×ay×Int×Int) (y3:ay×ay×Int×Int),M.bM akM (cS ⟨c,0,h⟩ p).1 (cS ⟨c,0,h⟩ p).2.1 (cS ⟨c,0,h⟩ p).2.2=some y1/\M.aG 3 y1.2.1 y1.2.2.1 y1.2.2.2=some y2/\M.iW y2.1 y2.2.1 y2.2.2.1 y2.2.2.2=some y3/\y1.1=name/\y3.1=aH true xs/\Bt xs:=by intro p;have e3:=iI hc' (p+1) 3 au au;rw[show((3:Nat):Int)=3 from rfl] at e3;have hm:=Nat.mod_lt (Cu.g ⟨c,0,h⟩ (p+1)) (show 0<3 by omega);obtain⟨t,q,f,z,i⟩:=alJ hc' (Cu.g ⟨c,0,h⟩ (p+1) % 3) (p+1+1) au;exact⟨t.flat 0,_,_,_,_,xY hc' p akM rfl,e3,f,rfl,rfl,TT au i⟩
 simp only[M.ni,M.y9,e,aj,e3',w,f,eo];cases(Cu.g ⟨c,0,h⟩ q % 3==0) with
 |true=>obtain⟨b,o,l,q2,f2,hl⟩:=aeX hc' (q+1);obtain⟨xs,name,y1,y2,y3,g1,g2,g3,g4,g5,g6⟩:=last q2;simp only[bZ,f2,aj,pF];rw[g1,aj,g2,aj,g3,aj,g4,g5];exact⟨_,_,l,xs,name,rfl,hl,g6⟩
 |false=>obtain⟨xs,name,y1,y2,y3,g1,g2,g3,g4,g5,g6⟩:=last (q+1);simp only[dX];rw[g1,aj,g2,aj,g3,aj,g4,g5];exact⟨true,true,t.flat 0,xs,name,rfl,TT au i,g6⟩
def akN(a b:List Int)(ha:a.length<=1048576):∃x,M.vF (encI a) (encI b)=some x/\(x=true↔a=b):=by
 simp only[M.vF,M.E8,dw]
 by_cases hl:a.length=b.length
 ·have:=Js (b:=M.zG (encI a) (encI b)) a (λi x=>b[i]? ==some x) (λi x hx=>by
   have hlt:=(FK.1 hx).1;obtain⟨y,hy⟩:∃y,b[i]? =some y:=⟨b[i],by simp⟩
   simp only[M.zG,M.um,dw,bT,lM,hx,hy,Eh,aj,U4];rw[zdt au,bZ,aB au au]
   by_cases c:x=y
   ·subst c;simp
   ·have c':¬y=x:=λh=>c h.symm
    rw[show(x !=y)=true from by simp[c],show(some y==some x)=false from by simp[c']];rfl) (by
   simp only[M.zG,M.um,dw];rw[pX au,dX])
  have e:M.Df (encI a) (encI b) 0=_:=this;rw[e];have key:∀(t:List Int) (i:Nat),a.drop i=t->(Du (λi x=>b[i]? ==some x) t i=true↔t=b.drop i):=by
   intro t;induction t with
   |nil=>
    intro i hd;have:a.length<=i:=by simpa using hd
    simp[Du];omega
   |cons x t ih=>
    intro i hd;have hlt:i<a.length:=by
     by_cases c:i<a.length
     ·exact c
     ·rw[List.drop_eq_nil_of_le au] at hd;cases hd
    have hd':a.drop (i+1)=t:=by rw[<-List.drop_drop,hd];rfl
    rw[Du,su,ih (i+1) hd',List.drop_eq_getElem_cons (show i<b.length by omega),List.getElem?_eq_getElem (show i<b.length by omega)];simp only[beq_iff_eq,dG,List.cons.injEq];constructor
    ·rintro⟨h1,h2⟩;exact⟨h1.symm,h2⟩
    ·rintro⟨h1,h2⟩;exact⟨h1.symm,h2⟩
  have hk:=key a 0 rfl;rw[List.drop_zero] at hk;rw[hl];refine⟨Du (λi x=>b[i]? ==some x) a 0, ?_,hk⟩;cases Du (λi x=>b[i]? ==some x) a 0<;>simp[qy,letE]
 ·refine⟨false, ?_,by simp;intro h;exact hl (by rw[h])⟩;rw[show((a.length:Int) !=(b.length:Int))=true from by simp;omega];rfl
def abp{α:Type}(p:Nat->α->Bool):∀(l:List α) (i:Nat),Du p l i=true↔∀j x,l[j]? =some x->p (i+j) x=true
 |[],i=>by simp[Du]
 |y::l,i=>by
  rw[Du,su,abp p l (i+1)];constructor
  ·rintro⟨h1,h2⟩ j x hx;cases j with
   |zero=>rw[List.getElem?_cons_zero] at hx;cases hx;exact h1
   |succ j=>rw[List.getElem?_cons_succ] at hx;have:=h2 j x hx;rwa [show i+1+j=i+(j+1) by omega] at this
  ·intro h;exact⟨h 0 y rfl,λj x hx=>by have:=h (j+1) x (by simpa using hx);rwa [show i+1+j=i+(j+1) by omega]⟩
def adR(n m:Nd):Bool:=n.kind==m.kind &&(n.op==m.op &&(n.text==m.text &&(n.other==m.other && decide (n.kids=m.kids))))
def YA(n m:Nd):adR n m=true↔n=m:=by cases n;cases m;simp[adR]
def atB(b:List Nd)(i:Nat)(n:Nd):Bool:=match b[i]? with
 |some m=>adR n m
 |none=>false
def same_iff{a b:List Nd}(hl:a.length=b.length):Du (atB b) a 0=true↔a=b:=by
 rw[abp];constructor
 ·intro h;apply List.ext_getElem?;intro i
  by_cases hi:i<a.length
  ·have:=h i a[i] (by simp[hi]);rw[Nat.zero_add,atB,List.getElem?_eq_getElem au] at this;rw[List.getElem?_eq_getElem hi,List.getElem?_eq_getElem au,(YA _ _).1 this]
  ·rw[List.getElem?_eq_none au,List.getElem?_eq_none au]
 ·rintro rfl j x hx;rw[Nat.zero_add,atB,hx];exact(YA _ _).2 rfl
def akO(a b:List Nd)(o o':Bool)(ha:a.length<=1048576)(hk:∀n,n∈a->n.kids.length<=1048576):∃x,M.oQ (aH o a) (aH o' b)=some x/\(x=true↔a=b):=by
 simp only[M.oQ,M.AO,bn]
 by_cases hl:a.length=b.length
 ·have hloop:=Js (b:=M.wz (aH o a) (aH o' b)) a (atB b) (λi n hn=>by
   have hlt:=(FK.1 hn).1;obtain⟨m,hm⟩:∃m,b[i]? =some m:=⟨b[i],by simp⟩
   obtain⟨z,e,hz⟩:=akN n.kids m.kids (hk n (OQ hn));have hz':z=decide (n.kids=m.kids):=by
    cases z with
    |true=>rw[zdt (hz.1 rfl)]
    |false=>rw[pX (λh=>by have:=hz.2 h;cases this)]
   simp only[M.wz,M.pV,bn,bT,dQ,hn,hm,Eh,aj,Zd,cN1,cN2,cN3,RU,e,atB,adR,hz',bne];rw[zdt au,bZ,aB au au];cases n.kind==m.kind<;>cases n.op==m.op<;>cases n.text==m.text<;>cases n.other==m.other<;>cases decide (n.kids=m.kids)<;>rfl) (by
   simp only[M.wz,M.pV,bn];rw[pX au,dX])
  have e:M.zH (aH o a) (aH o' b) 0=_:=hloop;have hk:=same_iff hl;rw[e];refine⟨Du (atB b) a 0, ?_,hk⟩;rw[hl];cases Du (atB b) a 0<;>simp[qy,letE]
 ·refine⟨false, ?_,by simp;intro h;exact hl (by rw[h])⟩;rw[show((a.length:Int) !=(b.length:Int))=true from by simp;omega];rfl
structure Ps where
 level:Int
 aD1:Bool
 aEG:Bool
 aEH:Bool
 aD2:Bool
 deriving DecidableEq,Inhabited
def Ps.zero:Ps:=⟨0,false,false,false,false⟩
def alK(op:Int):Int:=bif op==44 then 3 else bif op==45 then 4 else bif op==67||op==46 then 6 else
 bif op==63||(op==48||(op==47||(op==50||(op==62||op==49)))) then 7 else bif op==99 then 8 else bif op==55||op==56 then 9 else
 bif op==57||(op==58||op==59) then 10 else bif op==60 then 12 else 0
structure Cnt(k op:Int)(y:aT)(n:Nat):Prop where
 one:k=6\/k=9\/k=10\/k=11\/k=20\/k=32\/k=40\/k=41->n=1
 two:k=12\/k=15\/k=29\/k=30->n=2
 some_:k=5\/k=13\/k=44->1<=n
 three:k=14->n=3
 four:k=31->n=4
 cnd:k=28->n=2\/n=3
 prn:k=21->(op=0\/op=1)/\(y≠[]->1<=n)
 wrd:k=23\/k=24->n<=1
 non:k=1\/k=2\/k=3\/k=4\/k=16\/k=22\/k=25\/k=26\/k=34->n=0
 rule:k=42->(op=1/\n=1)\/(op=2/\n=1)\/(op=3/\n=2)
 range:k=43->(op=1/\n=2)\/(op=3/\n=3)
 few:k≠33->k≠45->n<=7
 bin:k=12->alK op≠0/\op≠61
 asg:k=15->op=54\/(38<=op/\op<=43)
 stp:k=9\/k=10->op=51\/op=52
 una:k=11->op=55\/op=56\/op=61
def cls(k op:Int)(n j:Nat):Nat:=
 if k=9\/k=10\/(k=15/\j=0) then 6 else if k=28\/k=29 then(if j=0 then 0 else 1) else if k=30 then(if j=0 then 1 else 0) else
 if k=31 then(if j<3 then 3 else 1) else if k=32\/k=40\/k=41 then 1 else if k=33 then 2 else if k=42 then(if op=2\/(op=3/\j+1=n) then 1 else 0) else
 if k=43 then(if j=2 then 1 else 0) else if k=44 then(if j+1=n then 1 else 4) else if k=45 then 5 else 0
def wQ(c:Nat)(d:Int):Prop:=match c with
 |0=>1<=d/\d<=15
 |1=>d=33
 |2=>20<=d/\d<=34
 |3=>d=16\/(1<=d/\d<=15)
 |4=>d=1
 |5=>(40<=d/\d<=44)\/d=34
 |_=>d=1\/d=5\/d=6
def QV(k:Int):Prop:=(1<=k/\k<=16)\/(20<=k/\k<=34)\/(40<=k/\k<=45)
mutual
def KF:Tn->Prop
 | .mk k op x y ks=>QV k/\Cnt k op y ks.length/\oks k op ks.length ks 0
def oks(k op:Int)(n:Nat):List Tn->Nat->Prop
 |[],_=>True
 |t::ts,j=>wQ (cls k op n j) t.kind/\(KF t)/\oks k op n ts (j+1)
end
def adS{k op:Int}{n:Nat}:∀{ks:List Tn} {j i:Nat} {t:Tn},oks k op n ks j->ks[i]? =some t->wQ (cls k op n (j+i)) t.kind/\(KF t)
 |[],_,i,_,_,h=>by simp at h
 |u::ts,j,0,t,h,e=>by rw[oks] at h;cases e;exact⟨h.1,h.2.1⟩
 |u::ts,j,i+1,t,h,e=>by rw[oks] at h;rw[List.getElem?_cons_succ] at e;have:=adS h.2.2 e;rw[show j+1+i=j+(i+1) by omega] at this;exact this
def o9{op:Int}(h:VW op=true):alK op≠0/\op≠61:=by
 have hc:op=60\/op=57\/op=58\/op=59\/op=55\/op=56\/op=99\/op=63\/op=48\/op=47\/op=50\/op=62\/op=49\/op=67\/op=46\/op=45\/op=44:=by simp only[VW,Bool.or_eq_true,beq_iff_eq] at h;omega
 rcases hc with rfl|rfl|rfl|rfl|rfl|rfl|rfl|rfl|rfl|rfl|rfl|rfl|rfl|rfl|rfl|rfl|rfl<;>decide
def uJ{op:Int}(h:VX op=true):op=54\/(38<=op/\op<=43):=by simp only[VX,Bool.or_eq_true,su,beq_iff_eq,decide_eq_true_eq] at h;omega
def QW(k:Int)(op:Int)(t o:aT)(kids:ay)(h:M.aA k op t o kids=some true)(hk:k=1\/k=5\/k=7\/k=13\/k=27\/k=44):Cnt k op o kids.length:=by
 rcases hk with rfl|rfl|rfl|rfl|rfl|rfl
 all_goals
  simp only[M.aA,M.aS,M.bI,M.bC,M.cu,M.bQ,M.bJ,M.bF,dI,bP,rH,jL,Int.reduceBEq,reduceLE,reduceLT,reduceSub,reduceAdd,bH,aj] at h;revert h;cases hn0:M.fU t with
  |none=>cases op==0<;>simp
  |some b0=>_
  all_goals try simp only[Int.reduceBEq,reduceLE,reduceLT,reduceSub,reduceAdd,bH,aj]
  all_goals(cases ho0:(op==0)<;>cases ht:(t==[])<;>cases hy:(o==[])<;>cases b0<;>simp_all<;>intros<;>constructor<;>intros<;>first|omega|exact o9 ‹_›|exact uJ ‹_›|(rw[aB (n:=op+1) au au] at *;omega)|(simp_all<;>omega))
def atK(op:Int)(t o:aT)(kids:ay)(h:M.aA 2 op t o kids=some true):Cnt 2 op o kids.length:=by
 simp only[M.aA,M.aS,M.bI,M.bC,M.cu,M.bQ,M.bJ,M.bF,dI,bP,rH,jL,Int.reduceBEq,reduceLE,reduceLT,reduceSub,reduceAdd,bH,aj] at h;revert h;cases hn0:M.iY 3 t 0 with
 |none=>cases op==0<;>simp
 |some b0=>_
 all_goals try simp only[Int.reduceBEq,reduceLE,reduceLT,reduceSub,reduceAdd,bH,aj]
 all_goals(cases ho0:(op==0)<;>cases ht:(t==[])<;>cases hy:(o==[])<;>cases b0<;>simp_all<;>intros<;>constructor<;>intros<;>first|omega|exact o9 ‹_›|exact uJ ‹_›|(rw[aB (n:=op+1) au au] at *;omega)|(simp_all<;>omega))
def atL(op:Int)(t o:aT)(kids:ay)(h:M.aA 3 op t o kids=some true):Cnt 3 op o kids.length:=by
 simp only[M.aA,M.aS,M.bI,M.bC,M.cu,M.bQ,M.bJ,M.bF,dI,bP,rH,jL,Int.reduceBEq,reduceLE,reduceLT,reduceSub,reduceAdd,bH,aj] at h;revert h;cases hn0:M.iY 4 t 0 with
 |none=>cases op==0<;>simp
 |some b0=>_
 all_goals try simp only[Int.reduceBEq,reduceLE,reduceLT,reduceSub,reduceAdd,bH,aj]
 all_goals(cases ho0:(op==0)<;>cases ht:(t==[])<;>cases hy:(o==[])<;>cases b0<;>simp_all<;>intros<;>constructor<;>intros<;>first|omega|exact o9 ‹_›|exact uJ ‹_›|(rw[aB (n:=op+1) au au] at *;omega)|(simp_all<;>omega))
def atM(op:Int)(t o:aT)(kids:ay)(h:M.aA 4 op t o kids=some true):Cnt 4 op o kids.length:=by
 simp only[M.aA,M.aS,M.bI,M.bC,M.cu,M.bQ,M.bJ,M.bF,dI,bP,rH,jL,Int.reduceBEq,reduceLE,reduceLT,reduceSub,reduceAdd,bH,aj] at h;revert h;cases hn0:M.iY 5 t 0 with
 |none=>cases op==0<;>simp
 |some b0=>_
 all_goals try simp only[Int.reduceBEq,reduceLE,reduceLT,reduceSub,reduceAdd,bH,aj]
 all_goals(cases ho0:(op==0)<;>cases ht:(t==[])<;>cases hy:(o==[])<;>cases b0<;>simp_all<;>intros<;>constructor<;>intros<;>first|omega|exact o9 ‹_›|exact uJ ‹_›|(rw[aB (n:=op+1) au au] at *;omega)|(simp_all<;>omega))
def yP(k:Int)(op:Int)(t o:aT)(kids:ay)(h:M.aA k op t o kids=some true)(hk:k=6\/k=14\/k=16\/k=20\/k=22\/k=23\/k=24\/k=25\/k=26\/k=28\/k=29\/k=30\/k=31\/k=33\/k=40\/k=41\/k=45):Cnt k op o kids.length:=by
 rcases hk with rfl|rfl|rfl|rfl|rfl|rfl|rfl|rfl|rfl|rfl|rfl|rfl|rfl|rfl|rfl|rfl|rfl
 all_goals
  simp only[M.aA,M.aS,M.bI,M.bC,M.cu,M.bQ,M.bJ,M.bF,dI,bP,rH,jL,Int.reduceBEq,reduceLE,reduceLT,reduceSub,reduceAdd,bH,aj] at h;revert h
  all_goals try simp only[Int.reduceBEq,reduceLE,reduceLT,reduceSub,reduceAdd,bH,aj]
  all_goals(cases ho0:(op==0)<;>cases ht:(t==[])<;>cases hy:(o==[])<;>simp_all<;>intros<;>constructor<;>intros<;>first|omega|exact o9 ‹_›|exact uJ ‹_›|(rw[aB (n:=op+1) au au] at *;omega)|(simp_all<;>omega))
def atN(op:Int)(t o:aT)(kids:ay)(h:M.aA 8 op t o kids=some true):Cnt 8 op o kids.length:=by
 simp only[M.aA,M.aS,M.bI,M.bC,M.cu,M.bQ,M.bJ,M.bF,dI,bP,rH,jL,Int.reduceBEq,reduceLE,reduceLT,reduceSub,reduceAdd,bH,aj] at h;revert h;cases hn0:M.iP t with
 |none=>cases op==0<;>simp
 |some b0=>_
 all_goals try simp only[Int.reduceBEq,reduceLE,reduceLT,reduceSub,reduceAdd,bH,aj]
 all_goals(cases ho0:(op==0)<;>cases ht:(t==[])<;>cases hy:(o==[])<;>cases b0<;>simp_all<;>intros<;>constructor<;>intros<;>first|omega|exact o9 ‹_›|exact uJ ‹_›|(rw[aB (n:=op+1) au au] at *;omega)|(simp_all<;>omega))
def ahm(k:Int)(op:Int)(t o:aT)(kids:ay)(h:M.aA k op t o kids=some true)(hk:k=9\/k=10):Cnt k op o kids.length:=by
 rcases hk with rfl|rfl
 all_goals
  simp only[M.aA,M.aS,M.bI,M.bC,M.cu,M.bQ,M.bJ,M.bF,dI,bP,rH,jL,Int.reduceBEq,reduceLE,reduceLT,reduceSub,reduceAdd,bH,aj] at h;revert h
  all_goals try simp only[Int.reduceBEq,reduceLE,reduceLT,reduceSub,reduceAdd,bH,aj]
  all_goals(cases ho0:(op==51)<;>cases ho1:(op==52)<;>cases ht:(t==[])<;>cases hy:(o==[])<;>simp_all<;>intros<;>constructor<;>intros<;>first|omega|exact o9 ‹_›|exact uJ ‹_›|(rw[aB (n:=op+1) au au] at *;omega)|(simp_all<;>omega))
def aov(op:Int)(t o:aT)(kids:ay)(h:M.aA 11 op t o kids=some true):Cnt 11 op o kids.length:=by
 simp only[M.aA,M.aS,M.bI,M.bC,M.cu,M.bQ,M.bJ,M.bF,dI,bP,rH,jL,Int.reduceBEq,reduceLE,reduceLT,reduceSub,reduceAdd,bH,aj] at h;revert h
 all_goals try simp only[Int.reduceBEq,reduceLE,reduceLT,reduceSub,reduceAdd,bH,aj]
 all_goals(cases ho0:(op==55)<;>cases ho1:(op==56)<;>cases ho2:(op==61)<;>cases ht:(t==[])<;>cases hy:(o==[])<;>simp_all<;>intros<;>constructor<;>intros<;>first|omega|exact o9 ‹_›|exact uJ ‹_›|(rw[aB (n:=op+1) au au] at *;omega)|(simp_all<;>omega))
def aow(op:Int)(t o:aT)(kids:ay)(h:M.aA 12 op t o kids=some true):Cnt 12 op o kids.length:=by
 simp only[M.aA,M.aS,M.bI,M.bC,M.cu,M.bQ,M.bJ,M.bF,dI,bP,rH,jL,Int.reduceBEq,reduceLE,reduceLT,reduceSub,reduceAdd,bH,aj] at h;revert h
 all_goals try simp only[Int.reduceBEq,reduceLE,reduceLT,reduceSub,reduceAdd,bH,aj]
 all_goals(cases ho0:(VW op)<;>cases ht:(t==[])<;>cases hy:(o==[])<;>simp_all<;>intros<;>constructor<;>intros<;>first|omega|exact o9 ‹_›|exact uJ ‹_›|(rw[aB (n:=op+1) au au] at *;omega)|(simp_all<;>omega))
def aox(op:Int)(t o:aT)(kids:ay)(h:M.aA 15 op t o kids=some true):Cnt 15 op o kids.length:=by
 simp only[M.aA,M.aS,M.bI,M.bC,M.cu,M.bQ,M.bJ,M.bF,dI,bP,rH,jL,Int.reduceBEq,reduceLE,reduceLT,reduceSub,reduceAdd,bH,aj] at h;revert h
 all_goals try simp only[Int.reduceBEq,reduceLE,reduceLT,reduceSub,reduceAdd,bH,aj]
 all_goals(cases ho0:(VX op)<;>cases ht:(t==[])<;>cases hy:(o==[])<;>simp_all<;>intros<;>constructor<;>intros<;>first|omega|exact o9 ‹_›|exact uJ ‹_›|(rw[aB (n:=op+1) au au] at *;omega)|(simp_all<;>omega))
def aoy(op:Int)(t o:aT)(kids:ay)(h:M.aA 21 op t o kids=some true):Cnt 21 op o kids.length:=by
 simp only[M.aA,M.aS,M.bI,M.bC,M.cu,M.bQ,M.bJ,M.bF,dI,bP,rH,jL,Int.reduceBEq,reduceLE,reduceLT,reduceSub,reduceAdd,bH,aj] at h;revert h
 all_goals try simp only[Int.reduceBEq,reduceLE,reduceLT,reduceSub,reduceAdd,bH,aj]
 all_goals(cases ho0:(decide (0<=op))<;>cases ho1:(decide (op<=1))<;>cases ht:(t==[])<;>cases hy:(o==[])<;>cases h1:(o==[62])<;>cases h2:(o==[62,62])<;>cases h3:(o==[124])<;>simp_all<;>intros<;>constructor<;>intros<;>first|omega|exact o9 ‹_›|exact uJ ‹_›|(rw[aB (n:=op+1) au au] at *;omega)|(simp_all<;>omega))
def aoz(op:Int)(t o:aT)(kids:ay)(h:M.aA 32 op t o kids=some true):Cnt 32 op o kids.length:=by
 simp only[M.aA,M.aS,M.bI,M.bC,M.cu,M.bQ,M.bJ,M.bF,dI,bP,rH,jL,Int.reduceBEq,reduceLE,reduceLT,reduceSub,reduceAdd,bH,aj] at h;revert h;cases hn0:M.fU t with
 |none=>cases op==0<;>simp
 |some b0=>_
 cases hn1:M.fU o with
 |none=>cases b0<;>cases op==0<;>simp
 |some b1=>_
 all_goals try simp only[Int.reduceBEq,reduceLE,reduceLT,reduceSub,reduceAdd,bH,aj]
 all_goals(cases ho0:(op==0)<;>cases ht:(t==[])<;>cases hy:(o==[])<;>cases b0<;>cases b1<;>simp_all<;>intros<;>constructor<;>intros<;>first|omega|exact o9 ‹_›|exact uJ ‹_›|(rw[aB (n:=op+1) au au] at *;omega)|(simp_all<;>omega))
def aoA(op:Int)(t o:aT)(kids:ay)(h:M.aA 34 op t o kids=some true):Cnt 34 op o kids.length:=by
 simp only[M.aA,M.aS,M.bI,M.bC,M.cu,M.bQ,M.bJ,M.bF,dI,bP,rH,jL,Int.reduceBEq,reduceLE,reduceLT,reduceSub,reduceAdd,bH,aj] at h;revert h;cases hn0:M.iY 2 t 0 with
 |none=>cases op==0<;>simp
 |some b0=>_
 all_goals try simp only[Int.reduceBEq,reduceLE,reduceLT,reduceSub,reduceAdd,bH,aj]
 all_goals(cases ho0:(op==0)<;>cases ht:(t==[])<;>cases hy:(o==[])<;>cases b0<;>simp_all<;>intros<;>constructor<;>intros<;>first|omega|exact o9 ‹_›|exact uJ ‹_›|(rw[aB (n:=op+1) au au] at *;omega)|(simp_all<;>omega))
def aoB(op:Int)(t o:aT)(kids:ay)(h:M.aA 42 op t o kids=some true):Cnt 42 op o kids.length:=by have hc:=Zt h;have hr:=hc.rule rfl;constructor<;>intros<;>omega
def aoC(op:Int)(t o:aT)(kids:ay)(h:M.aA 43 op t o kids=some true):Cnt 43 op o kids.length:=by have hc:=Zt h;have hr:=hc.range rfl;constructor<;>intros<;>omega
def Kw(k:Int)(op:Int)(t o:aT)(kids:ay)(j:Nat)(d:Int)(hj:j<kids.length)(hl:kids.length<=400)(hc:Cnt k op o kids.length)(h:M.aJ k op t o kids (j:Int) d=some true)(hk:k=1\/k=2\/k=3\/k=4\/k=16\/k=22\/k=25\/k=26\/k=34):wQ (cls k op kids.length j) d:=by
 rcases hk with rfl|rfl|rfl|rfl|rfl|rfl|rfl|rfl|rfl
 all_goals
  have hw:i64.wrap ((kids.length:Int) - 1)=(kids.length:Int) - 1:=aB au au;simp only[M.aJ,M.aI,aZ,bf,bg,aP,dI,bP,Int.reduceBEq,reduceLE,reduceLT,reduceSub,reduceAdd,bH,aj] at h
  try rw[hw] at h
  have:=hc.non au;omega
def xg(k:Int)(op:Int)(t o:aT)(kids:ay)(j:Nat)(d:Int)(hj:j<kids.length)(hl:kids.length<=400)(hc:Cnt k op o kids.length)(h:M.aJ k op t o kids (j:Int) d=some true)(hk:k=5\/k=6\/k=7\/k=8\/k=11\/k=12\/k=13\/k=14\/k=20\/k=21\/k=23\/k=24\/k=27\/k=32\/k=33\/k=40\/k=41\/k=45):wQ (cls k op kids.length j) d:=by
 rcases hk with rfl|rfl|rfl|rfl|rfl|rfl|rfl|rfl|rfl|rfl|rfl|rfl|rfl|rfl|rfl|rfl|rfl|rfl
 all_goals
  have hw:i64.wrap ((kids.length:Int) - 1)=(kids.length:Int) - 1:=aB au au;simp only[M.aJ,M.aI,aZ,bf,bg,aP,dI,bP,Int.reduceBEq,reduceLE,reduceLT,reduceSub,reduceAdd,bH,aj] at h
  try rw[hw] at h
  simp[cls,wQ,lN,Jr,PZ,isIt,Bool.cond_eq_ite] at h|-
  all_goals first|omega|((repeat' split at h)<;>simp_all<;>omega)
def ahn(k:Int)(op:Int)(t o:aT)(kids:ay)(j:Nat)(d:Int)(hj:j<kids.length)(hl:kids.length<=400)(hc:Cnt k op o kids.length)(h:M.aJ k op t o kids (j:Int) d=some true)(hk:k=9\/k=10):wQ (cls k op kids.length j) d:=by
 rcases hk with rfl|rfl
 all_goals
  have hw:i64.wrap ((kids.length:Int) - 1)=(kids.length:Int) - 1:=aB au au;simp only[M.aJ,M.aI,aZ,bf,bg,aP,dI,bP,Int.reduceBEq,reduceLE,reduceLT,reduceSub,reduceAdd,bH,aj] at h
  try rw[hw] at h
  have hn:=hc.one au;obtain rfl:j=0:=au
  all_goals(simp[cls,wQ,lN,Jr,PZ,isIt,Bool.cond_eq_ite] at h|-<;>first|omega|(repeat' split at h)<;>simp_all<;>omega)
def acX(k:Int)(op:Int)(t o:aT)(kids:ay)(j:Nat)(d:Int)(hj:j<kids.length)(hl:kids.length<=400)(hc:Cnt k op o kids.length)(h:M.aJ k op t o kids (j:Int) d=some true)(hk:k=15\/k=29\/k=30):wQ (cls k op kids.length j) d:=by
 rcases hk with rfl|rfl|rfl
 all_goals
  have hw:i64.wrap ((kids.length:Int) - 1)=(kids.length:Int) - 1:=aB au au;simp only[M.aJ,M.aI,aZ,bf,bg,aP,dI,bP,Int.reduceBEq,reduceLE,reduceLT,reduceSub,reduceAdd,bH,aj] at h
  try rw[hw] at h
  have hn:=hc.two au;obtain rfl|rfl:j=0\/j=1:=au
  all_goals(simp[cls,wQ,lN,Jr,PZ,isIt,Bool.cond_eq_ite] at h|-<;>first|omega|(repeat' split at h)<;>simp_all<;>omega)
def aoD(op:Int)(t o:aT)(kids:ay)(j:Nat)(d:Int)(hj:j<kids.length)(hl:kids.length<=400)(hc:Cnt 28 op o kids.length)(h:M.aJ 28 op t o kids (j:Int) d=some true):wQ (cls 28 op kids.length j) d:=by
 have hw:i64.wrap ((kids.length:Int) - 1)=(kids.length:Int) - 1:=aB au au;simp only[M.aJ,M.aI,aZ,bf,bg,aP,dI,bP,Int.reduceBEq,reduceLE,reduceLT,reduceSub,reduceAdd,bH,aj] at h
 try rw[hw] at h
 have hn:=hc.cnd au;obtain rfl|rfl|rfl:j=0\/j=1\/j=2:=au
 all_goals(simp[cls,wQ,lN,Jr,PZ,isIt,Bool.cond_eq_ite] at h|-<;>first|omega|(repeat' split at h)<;>simp_all<;>omega)
def aoE(op:Int)(t o:aT)(kids:ay)(j:Nat)(d:Int)(hj:j<kids.length)(hl:kids.length<=400)(hc:Cnt 31 op o kids.length)(h:M.aJ 31 op t o kids (j:Int) d=some true):wQ (cls 31 op kids.length j) d:=by
 have hw:i64.wrap ((kids.length:Int) - 1)=(kids.length:Int) - 1:=aB au au;simp only[M.aJ,M.aI,aZ,bf,bg,aP,dI,bP,Int.reduceBEq,reduceLE,reduceLT,reduceSub,reduceAdd,bH,aj] at h
 try rw[hw] at h
 have hn:=hc.four au;obtain rfl|rfl|rfl|rfl:j=0\/j=1\/j=2\/j=3:=au
 all_goals(simp[cls,wQ,lN,Jr,PZ,isIt,Bool.cond_eq_ite] at h|-<;>first|omega|(repeat' split at h)<;>simp_all<;>omega)
def aoF(op:Int)(t o:aT)(kids:ay)(j:Nat)(d:Int)(hj:j<kids.length)(hl:kids.length<=400)(hc:Cnt 42 op o kids.length)(h:M.aJ 42 op t o kids (j:Int) d=some true):wQ (cls 42 op kids.length j) d:=by
 have hw:i64.wrap ((kids.length:Int) - 1)=(kids.length:Int) - 1:=aB au au;simp only[M.aJ,M.aI,aZ,bf,bg,aP,dI,bP,Int.reduceBEq,reduceLE,reduceLT,reduceSub,reduceAdd,bH,aj] at h
 try rw[hw] at h
 rcases hc.rule rfl with⟨rfl,h1⟩|⟨rfl,h1⟩|⟨rfl,h1⟩
 ·obtain rfl:j=0:=au
  all_goals(simp[cls,wQ,lN,Jr,PZ,isIt,Bool.cond_eq_ite,h1] at h|-<;>first|omega|(repeat' split at h)<;>simp_all<;>omega)
 ·obtain rfl:j=0:=au
  all_goals(simp[cls,wQ,lN,Jr,PZ,isIt,Bool.cond_eq_ite,h1] at h|-<;>first|omega|(repeat' split at h)<;>simp_all<;>omega)
 ·obtain rfl|rfl:j=0\/j=1:=au
  all_goals(simp[cls,wQ,lN,Jr,PZ,isIt,Bool.cond_eq_ite,h1] at h|-<;>first|omega|(repeat' split at h)<;>simp_all<;>omega)
def aoG(op:Int)(t o:aT)(kids:ay)(j:Nat)(d:Int)(hj:j<kids.length)(hl:kids.length<=400)(hc:Cnt 43 op o kids.length)(h:M.aJ 43 op t o kids (j:Int) d=some true):wQ (cls 43 op kids.length j) d:=by
 have hw:i64.wrap ((kids.length:Int) - 1)=(kids.length:Int) - 1:=aB au au;simp only[M.aJ,M.aI,aZ,bf,bg,aP,dI,bP,Int.reduceBEq,reduceLE,reduceLT,reduceSub,reduceAdd,bH,aj] at h
 try rw[hw] at h
 rcases hc.range rfl with⟨rfl,h1⟩|⟨rfl,h1⟩
 ·obtain rfl|rfl:j=0\/j=1:=au
  all_goals(simp[cls,wQ,lN,Jr,PZ,isIt,Bool.cond_eq_ite,h1] at h|-<;>first|omega|(repeat' split at h)<;>simp_all<;>omega)
 ·obtain rfl|rfl|rfl:j=0\/j=1\/j=2:=au
  all_goals(simp[cls,wQ,lN,Jr,PZ,isIt,Bool.cond_eq_ite,h1] at h|-<;>first|omega|(repeat' split at h)<;>simp_all<;>omega)
def aoH(op:Int)(t o:aT)(kids:ay)(j:Nat)(d:Int)(hj:j<kids.length)(hl:kids.length<=400)(hc:Cnt 44 op o kids.length)(h:M.aJ 44 op t o kids (j:Int) d=some true):wQ (cls 44 op kids.length j) d:=by
 have hw:i64.wrap ((kids.length:Int) - 1)=(kids.length:Int) - 1:=aB au au;simp only[M.aJ,M.aI,aZ,bf,bg,aP,dI,bP,Int.reduceBEq,reduceLE,reduceLT,reduceSub,reduceAdd,bH,aj] at h
 try rw[hw] at h
 by_cases h1:j+1=kids.length
 ·have e:((j:Int)==(kids.length:Int) - 1)=true:=by rw[beq_iff_eq];omega
  rw[e] at h;simp[cls,wQ,h1,Bool.cond_eq_ite] at h|-
  first|omega|skip
 ·have e:((j:Int)==(kids.length:Int) - 1)=false:=by rw[ZQ];omega
  rw[e] at h;simp[cls,wQ,h1,Bool.cond_eq_ite] at h|-
  first|omega|skip
end Go.Proofs.YtcallmiaialhkaaGreatDoor
