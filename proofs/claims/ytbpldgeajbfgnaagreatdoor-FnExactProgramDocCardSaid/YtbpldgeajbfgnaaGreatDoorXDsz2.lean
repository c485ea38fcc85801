import Derived.Test.YtbpldgeajbfgnaaGreatDoorZFields
import Derived.Test.YtbpldgeajbfgnaaGreatDoorVm4
set_option linter.defProp false
namespace Go.Proofs.YtbpldgeajbfgnaaGreatDoor
set_option linter.unusedVariables false
set_option linter.unusedSimpArgs false
set_option linter.unusedSectionVars false
open Go Go.Vm
open Go.IntKind (i64)
structure Cons(k op:Int)(n:Nat):Prop where
 two:k=29∨k=30->n=2
 four:k=31->n=4
 rule:k=42->(op=1∧n=1)∨(op=2∧n=1)∨(op=3∧n=2)
 range:k=43->(op=1∧n=2)∨(op=3∧n=3)
def aXE(op:Int)(t o:aC)(kids:au)(h:M.ay 29 op t o kids=some true):kids.length=2:=by simp only[M.ay,M.aB,M.aP,M.aG,M.aV,M.aT,M.aQ,M.aH,aW,aN,Int.reduceBEq,Int.reduceLE,Int.reduceLT,Int.reduceSub,Int.reduceAdd,aY,ah] at h;revert h;cases op==0<;>cases t==[]<;>cases o==[]<;>simp<;>omega
def aXF(op:Int)(t o:aC)(kids:au)(h:M.ay 30 op t o kids=some true):kids.length=2:=by simp only[M.ay,M.aB,M.aP,M.aG,M.aV,M.aT,M.aQ,M.aH,aW,aN,Int.reduceBEq,Int.reduceLE,Int.reduceLT,Int.reduceSub,Int.reduceAdd,aY,ah] at h;revert h;cases op==0<;>cases t==[]<;>cases o==[]<;>simp<;>omega
def aXG(op:Int)(t o:aC)(kids:au)(h:M.ay 31 op t o kids=some true):kids.length=4:=by simp only[M.ay,M.aB,M.aP,M.aG,M.aV,M.aT,M.aQ,M.aH,aW,aN,Int.reduceBEq,Int.reduceLE,Int.reduceLT,Int.reduceSub,Int.reduceAdd,aY,ah] at h;revert h;cases op==0<;>cases t==[]<;>cases o==[]<;>simp<;>omega
def aXH(op:Int)(t o:aC)(kids:au)(h:M.ay 42 op t o kids=some true):(op=1∧kids.length=1)∨(op=2∧kids.length=1)∨(op=3∧kids.length=2):=by
 by_cases h1:op=1
 ·subst h1;simp only[M.ay,M.aB,M.aP,M.aG,M.aV,M.aT,M.aQ,M.aH,aW,aN,show i64.wrap (1+i64.wrap (Int.tdiv 1 3))=1 from rfl,show i64.wrap (1+i64.wrap (Int.tdiv 2 3))=1 from rfl,show i64.wrap (1+i64.wrap (Int.tdiv 3 3))=2 from rfl,show i64.wrap (2+i64.wrap (Int.tdiv 1 3))=2 from rfl,show i64.wrap (2+i64.wrap (Int.tdiv 3 3))=3 from rfl,Int.reduceBEq,Int.reduceLE,Int.reduceLT,Int.reduceSub,Int.reduceAdd,aY,ah] at h;revert h;cases t==[]<;>cases o==[]<;>simp<;>omega
 have e1:(op==1)=false:=by simpa using h1
 by_cases h2:op=2
 ·subst h2;simp only[M.ay,M.aB,M.aP,M.aG,M.aV,M.aT,M.aQ,M.aH,aW,aN,show i64.wrap (1+i64.wrap (Int.tdiv 1 3))=1 from rfl,show i64.wrap (1+i64.wrap (Int.tdiv 2 3))=1 from rfl,show i64.wrap (1+i64.wrap (Int.tdiv 3 3))=2 from rfl,show i64.wrap (2+i64.wrap (Int.tdiv 1 3))=2 from rfl,show i64.wrap (2+i64.wrap (Int.tdiv 3 3))=3 from rfl,Int.reduceBEq,Int.reduceLE,Int.reduceLT,Int.reduceSub,Int.reduceAdd,aY,ah] at h;revert h;cases t==[]<;>cases o==[]<;>simp<;>omega
 have e2:(op==2)=false:=by simpa using h2
 by_cases h3:op=3
 ·subst h3;simp only[M.ay,M.aB,M.aP,M.aG,M.aV,M.aT,M.aQ,M.aH,aW,aN,show i64.wrap (1+i64.wrap (Int.tdiv 1 3))=1 from rfl,show i64.wrap (1+i64.wrap (Int.tdiv 2 3))=1 from rfl,show i64.wrap (1+i64.wrap (Int.tdiv 3 3))=2 from rfl,show i64.wrap (2+i64.wrap (Int.tdiv 1 3))=2 from rfl,show i64.wrap (2+i64.wrap (Int.tdiv 3 3))=3 from rfl,Int.reduceBEq,Int.reduceLE,Int.reduceLT,Int.reduceSub,Int.reduceAdd,aY,ah] at h;revert h;cases t==[]<;>cases o==[]<;>simp<;>omega
 have e3:(op==3)=false:=by simpa using h3
 have hf:(decide ((1:Int)<=op) && decide (op<=3))=false:=by rw[Bool.and_eq_false_iff,decide_eq_false_iff_not,decide_eq_false_iff_not];omega
 simp only[M.ay,M.aB,M.aP,M.aG,M.aV,M.aT,M.aQ,M.aH,aW,aN,e1,e2,e3,hf,Int.reduceBEq,Int.reduceLE,Int.reduceLT,Int.reduceSub,Int.reduceAdd,aY,ah] at h;cases h
def aXI(op:Int)(t o:aC)(kids:au)(h:M.ay 43 op t o kids=some true):(op=1∧kids.length=2)∨(op=3∧kids.length=3):=by
 by_cases h1:op=1
 ·subst h1;simp only[M.ay,M.aB,M.aP,M.aG,M.aV,M.aT,M.aQ,M.aH,aW,aN,show i64.wrap (1+i64.wrap (Int.tdiv 1 3))=1 from rfl,show i64.wrap (1+i64.wrap (Int.tdiv 2 3))=1 from rfl,show i64.wrap (1+i64.wrap (Int.tdiv 3 3))=2 from rfl,show i64.wrap (2+i64.wrap (Int.tdiv 1 3))=2 from rfl,show i64.wrap (2+i64.wrap (Int.tdiv 3 3))=3 from rfl,Int.reduceBEq,Int.reduceLE,Int.reduceLT,Int.reduceSub,Int.reduceAdd,aY,ah] at h;revert h;cases t==[]<;>cases o==[]<;>simp<;>omega
 have e1:(op==1)=false:=by simpa using h1
 by_cases h3:op=3
 ·subst h3;simp only[M.ay,M.aB,M.aP,M.aG,M.aV,M.aT,M.aQ,M.aH,aW,aN,show i64.wrap (1+i64.wrap (Int.tdiv 1 3))=1 from rfl,show i64.wrap (1+i64.wrap (Int.tdiv 2 3))=1 from rfl,show i64.wrap (1+i64.wrap (Int.tdiv 3 3))=2 from rfl,show i64.wrap (2+i64.wrap (Int.tdiv 1 3))=2 from rfl,show i64.wrap (2+i64.wrap (Int.tdiv 3 3))=3 from rfl,Int.reduceBEq,Int.reduceLE,Int.reduceLT,Int.reduceSub,Int.reduceAdd,aY,ah] at h;revert h;cases t==[]<;>cases o==[]<;>simp<;>omega
 have e3:(op==3)=false:=by simpa using h3
 have hf:True:=trivial;simp only[M.ay,M.aB,M.aP,M.aG,M.aV,M.aT,M.aQ,M.aH,aW,aN,e1,e3,hf,Int.reduceBEq,Int.reduceLE,Int.reduceLT,Int.reduceSub,Int.reduceAdd,aY,ah] at h;cases h
def afx{k op:Int}{t o:aC}{kids:au}(h:M.ay k op t o kids=some true):Cons k op kids.length:=
 ⟨λe=>(by rcases e with rfl|rfl;exact aXE op t o kids h;exact aXF op t o kids h),λe=>(by subst e;exact aXG op t o kids h),λe=>(by subst e;exact aXH op t o kids h),λe=>(by subst e;exact aXI op t o kids h)⟩
def mD(k:Int):Bool:=decide (1<=k) && decide (k<=15)
def Ar(k:Int):Bool:=k==1||(k==5||k==6)
def F6(k:Int):Bool:=decide (20<=k) && decide (k<=34)
def isIt(k:Int):Bool:=decide (40<=k) && decide (k<=44)
def bC(k:Int):M.jh k=some (mD k)∧M.bJ k=some (mD k):=by simp only[M.jh,M.LH,M.bJ,M.bW,aW,aN,ah,mD,ge_iff_le];constructor<;>first|rfl|trivial
def bD(k:Int):M.AV k=some (F6 k)∧M.cZ k=some (F6 k):=by simp only[M.AV,M.LJ,M.cZ,M.bY,aW,aN,ah,F6,ge_iff_le];constructor<;>first|rfl|trivial
def bF(k:Int):M.dR k 40 44=some (isIt k)∧M.Ba k=some (isIt k):=by simp only[M.Ba,M.LZ,aW,aN,ah,isIt,ge_iff_le];constructor<;>first|rfl|trivial
def aU(k:Int):M.oW k=some (Ar k)∧M.o8 k=some (Ar k):=by simp only[M.oW,M.Ht,M.o8,M.Ig,Ar];cases k==1<;>cases k==5<;>exact⟨rfl,rfl⟩
def aMl(k:Int):Ar k=(mD k && Ar k):=by
 by_cases h1:k=1
 ·subst h1;rfl
 by_cases h5:k=5
 ·subst h5;rfl
 by_cases h6:k=6
 ·subst h6;rfl
 have e:Ar k=false:=by simp[Ar,h1,h5,h6]
 rw[e,Bool.and_false]
def xk(k op:Int)(t o:aC)(kids:au)(j d:Int):Prop:=∃b,M.aF k op t o kids j d=some b∧M.dw k op t o kids j d=some b
def aXJ(op:Int)(t o:aC)(kids:au)(j d:Int)(h0:0<=j)(h1:j<kids.length)(hk:kids.length<=400)(hc:Cons 1 op kids.length):xk 1 op t o kids j d:=by simp only[xk,M.aF,M.aO,M.dw,M.bV,bC,bD,bF,aU,Int.reduceBEq,Int.reduceLE,Int.reduceLT,Int.reduceSub,Int.reduceAdd,aY,ah];generalize (mD d)=a0;cases a0<;>exact⟨_,rfl,rfl⟩
def aXK(op:Int)(t o:aC)(kids:au)(j d:Int)(h0:0<=j)(h1:j<kids.length)(hk:kids.length<=400)(hc:Cons 2 op kids.length):xk 2 op t o kids j d:=by simp only[xk,M.aF,M.aO,M.dw,M.bV,bC,bD,bF,aU,Int.reduceBEq,Int.reduceLE,Int.reduceLT,Int.reduceSub,Int.reduceAdd,aY,ah];generalize (mD d)=a0;cases a0<;>exact⟨_,rfl,rfl⟩
def aXL(op:Int)(t o:aC)(kids:au)(j d:Int)(h0:0<=j)(h1:j<kids.length)(hk:kids.length<=400)(hc:Cons 3 op kids.length):xk 3 op t o kids j d:=by simp only[xk,M.aF,M.aO,M.dw,M.bV,bC,bD,bF,aU,Int.reduceBEq,Int.reduceLE,Int.reduceLT,Int.reduceSub,Int.reduceAdd,aY,ah];generalize (mD d)=a0;cases a0<;>exact⟨_,rfl,rfl⟩
def aXM(op:Int)(t o:aC)(kids:au)(j d:Int)(h0:0<=j)(h1:j<kids.length)(hk:kids.length<=400)(hc:Cons 4 op kids.length):xk 4 op t o kids j d:=by simp only[xk,M.aF,M.aO,M.dw,M.bV,bC,bD,bF,aU,Int.reduceBEq,Int.reduceLE,Int.reduceLT,Int.reduceSub,Int.reduceAdd,aY,ah];generalize (mD d)=a0;cases a0<;>exact⟨_,rfl,rfl⟩
def aXN(op:Int)(t o:aC)(kids:au)(j d:Int)(h0:0<=j)(h1:j<kids.length)(hk:kids.length<=400)(hc:Cons 5 op kids.length):xk 5 op t o kids j d:=by simp only[xk,M.aF,M.aO,M.dw,M.bV,bC,bD,bF,aU,Int.reduceBEq,Int.reduceLE,Int.reduceLT,Int.reduceSub,Int.reduceAdd,aY,ah];generalize (mD d)=a0;cases a0<;>exact⟨_,rfl,rfl⟩
def aXO(op:Int)(t o:aC)(kids:au)(j d:Int)(h0:0<=j)(h1:j<kids.length)(hk:kids.length<=400)(hc:Cons 6 op kids.length):xk 6 op t o kids j d:=by simp only[xk,M.aF,M.aO,M.dw,M.bV,bC,bD,bF,aU,Int.reduceBEq,Int.reduceLE,Int.reduceLT,Int.reduceSub,Int.reduceAdd,aY,ah];generalize (mD d)=a0;cases a0<;>exact⟨_,rfl,rfl⟩
def aXP(op:Int)(t o:aC)(kids:au)(j d:Int)(h0:0<=j)(h1:j<kids.length)(hk:kids.length<=400)(hc:Cons 7 op kids.length):xk 7 op t o kids j d:=by simp only[xk,M.aF,M.aO,M.dw,M.bV,bC,bD,bF,aU,Int.reduceBEq,Int.reduceLE,Int.reduceLT,Int.reduceSub,Int.reduceAdd,aY,ah];generalize (mD d)=a0;cases a0<;>exact⟨_,rfl,rfl⟩
def aXQ(op:Int)(t o:aC)(kids:au)(j d:Int)(h0:0<=j)(h1:j<kids.length)(hk:kids.length<=400)(hc:Cons 8 op kids.length):xk 8 op t o kids j d:=by simp only[xk,M.aF,M.aO,M.dw,M.bV,bC,bD,bF,aU,Int.reduceBEq,Int.reduceLE,Int.reduceLT,Int.reduceSub,Int.reduceAdd,aY,ah];generalize (mD d)=a0;cases a0<;>exact⟨_,rfl,rfl⟩
def aXR(op:Int)(t o:aC)(kids:au)(j d:Int)(h0:0<=j)(h1:j<kids.length)(hk:kids.length<=400)(hc:Cons 9 op kids.length):xk 9 op t o kids j d:=by simp only[xk,M.aF,M.aO,M.dw,M.bV,bC,bD,bF,aU,Int.reduceBEq,Int.reduceLE,Int.reduceLT,Int.reduceSub,Int.reduceAdd,aY,ah];generalize (Ar d)=a0;cases a0<;>exact⟨_,rfl,rfl⟩
def aMm(op:Int)(t o:aC)(kids:au)(j d:Int)(h0:0<=j)(h1:j<kids.length)(hk:kids.length<=400)(hc:Cons 10 op kids.length):xk 10 op t o kids j d:=by simp only[xk,M.aF,M.aO,M.dw,M.bV,bC,bD,bF,aU,Int.reduceBEq,Int.reduceLE,Int.reduceLT,Int.reduceSub,Int.reduceAdd,aY,ah];generalize (Ar d)=a0;cases a0<;>exact⟨_,rfl,rfl⟩
def aMn(op:Int)(t o:aC)(kids:au)(j d:Int)(h0:0<=j)(h1:j<kids.length)(hk:kids.length<=400)(hc:Cons 11 op kids.length):xk 11 op t o kids j d:=by simp only[xk,M.aF,M.aO,M.dw,M.bV,bC,bD,bF,aU,Int.reduceBEq,Int.reduceLE,Int.reduceLT,Int.reduceSub,Int.reduceAdd,aY,ah];generalize (mD d)=a0;cases a0<;>exact⟨_,rfl,rfl⟩
def aMo(op:Int)(t o:aC)(kids:au)(j d:Int)(h0:0<=j)(h1:j<kids.length)(hk:kids.length<=400)(hc:Cons 12 op kids.length):xk 12 op t o kids j d:=by simp only[xk,M.aF,M.aO,M.dw,M.bV,bC,bD,bF,aU,Int.reduceBEq,Int.reduceLE,Int.reduceLT,Int.reduceSub,Int.reduceAdd,aY,ah];generalize (mD d)=a0;cases a0<;>exact⟨_,rfl,rfl⟩
def aMp(op:Int)(t o:aC)(kids:au)(j d:Int)(h0:0<=j)(h1:j<kids.length)(hk:kids.length<=400)(hc:Cons 13 op kids.length):xk 13 op t o kids j d:=by simp only[xk,M.aF,M.aO,M.dw,M.bV,bC,bD,bF,aU,Int.reduceBEq,Int.reduceLE,Int.reduceLT,Int.reduceSub,Int.reduceAdd,aY,ah];generalize (mD d)=a0;cases a0<;>exact⟨_,rfl,rfl⟩
def aMq(op:Int)(t o:aC)(kids:au)(j d:Int)(h0:0<=j)(h1:j<kids.length)(hk:kids.length<=400)(hc:Cons 14 op kids.length):xk 14 op t o kids j d:=by simp only[xk,M.aF,M.aO,M.dw,M.bV,bC,bD,bF,aU,Int.reduceBEq,Int.reduceLE,Int.reduceLT,Int.reduceSub,Int.reduceAdd,aY,ah];generalize (mD d)=a0;cases a0<;>exact⟨_,rfl,rfl⟩
def aMr(op:Int)(t o:aC)(kids:au)(j d:Int)(h0:0<=j)(h1:j<kids.length)(hk:kids.length<=400)(hc:Cons 15 op kids.length):xk 15 op t o kids j d:=by
 by_cases hj:j=0
 ·subst hj;have hl:=aMl d;simp only[xk,M.aF,M.aO,M.dw,M.bV,bC,bD,bF,aU,Int.reduceBEq,Int.reduceLE,Int.reduceLT,Int.reduceSub,Int.reduceAdd,aY,ah];revert hl;cases mD d<;>cases Ar d<;>intro hl<;>first|exact⟨_,rfl,rfl⟩|cases hl
 have e0:(j==0)=false:=by simpa using hj
 have e1:decide (0<j)=true:=zdt (by omega);simp only[xk,M.aF,M.aO,M.dw,M.bV,bC,bD,bF,aU,e0,e1,Int.reduceBEq,Int.reduceLE,Int.reduceLT,Int.reduceSub,Int.reduceAdd,aY,ah];generalize (mD d)=a0;cases a0<;>exact⟨_,rfl,rfl⟩
def aMs(op:Int)(t o:aC)(kids:au)(j d:Int)(h0:0<=j)(h1:j<kids.length)(hk:kids.length<=400)(hc:Cons 16 op kids.length):xk 16 op t o kids j d:=by simp only[xk,M.aF,M.aO,M.dw,M.bV,bC,bD,bF,aU,Int.reduceBEq,Int.reduceLE,Int.reduceLT,Int.reduceSub,Int.reduceAdd,aY,ah];generalize (mD d)=a0;cases a0<;>exact⟨_,rfl,rfl⟩
def aMt(op:Int)(t o:aC)(kids:au)(j d:Int)(h0:0<=j)(h1:j<kids.length)(hk:kids.length<=400)(hc:Cons 20 op kids.length):xk 20 op t o kids j d:=by simp only[xk,M.aF,M.aO,M.dw,M.bV,bC,bD,bF,aU,Int.reduceBEq,Int.reduceLE,Int.reduceLT,Int.reduceSub,Int.reduceAdd,aY,ah];generalize (mD d)=a0;cases a0<;>exact⟨_,rfl,rfl⟩
def aMu(op:Int)(t o:aC)(kids:au)(j d:Int)(h0:0<=j)(h1:j<kids.length)(hk:kids.length<=400)(hc:Cons 21 op kids.length):xk 21 op t o kids j d:=by simp only[xk,M.aF,M.aO,M.dw,M.bV,bC,bD,bF,aU,Int.reduceBEq,Int.reduceLE,Int.reduceLT,Int.reduceSub,Int.reduceAdd,aY,ah];generalize (mD d)=a0;cases a0<;>exact⟨_,rfl,rfl⟩
def aMv(op:Int)(t o:aC)(kids:au)(j d:Int)(h0:0<=j)(h1:j<kids.length)(hk:kids.length<=400)(hc:Cons 22 op kids.length):xk 22 op t o kids j d:=by simp only[xk,M.aF,M.aO,M.dw,M.bV,bC,bD,bF,aU,Int.reduceBEq,Int.reduceLE,Int.reduceLT,Int.reduceSub,Int.reduceAdd,aY,ah];generalize (mD d)=a0;cases a0<;>exact⟨_,rfl,rfl⟩
def aMw(op:Int)(t o:aC)(kids:au)(j d:Int)(h0:0<=j)(h1:j<kids.length)(hk:kids.length<=400)(hc:Cons 23 op kids.length):xk 23 op t o kids j d:=by simp only[xk,M.aF,M.aO,M.dw,M.bV,bC,bD,bF,aU,Int.reduceBEq,Int.reduceLE,Int.reduceLT,Int.reduceSub,Int.reduceAdd,aY,ah];generalize (mD d)=a0;cases a0<;>exact⟨_,rfl,rfl⟩
def aMx(op:Int)(t o:aC)(kids:au)(j d:Int)(h0:0<=j)(h1:j<kids.length)(hk:kids.length<=400)(hc:Cons 24 op kids.length):xk 24 op t o kids j d:=by simp only[xk,M.aF,M.aO,M.dw,M.bV,bC,bD,bF,aU,Int.reduceBEq,Int.reduceLE,Int.reduceLT,Int.reduceSub,Int.reduceAdd,aY,ah];generalize (mD d)=a0;cases a0<;>exact⟨_,rfl,rfl⟩
def aMy(op:Int)(t o:aC)(kids:au)(j d:Int)(h0:0<=j)(h1:j<kids.length)(hk:kids.length<=400)(hc:Cons 25 op kids.length):xk 25 op t o kids j d:=by simp only[xk,M.aF,M.aO,M.dw,M.bV,bC,bD,bF,aU,Int.reduceBEq,Int.reduceLE,Int.reduceLT,Int.reduceSub,Int.reduceAdd,aY,ah];generalize (mD d)=a0;cases a0<;>exact⟨_,rfl,rfl⟩
def aMz(op:Int)(t o:aC)(kids:au)(j d:Int)(h0:0<=j)(h1:j<kids.length)(hk:kids.length<=400)(hc:Cons 26 op kids.length):xk 26 op t o kids j d:=by simp only[xk,M.aF,M.aO,M.dw,M.bV,bC,bD,bF,aU,Int.reduceBEq,Int.reduceLE,Int.reduceLT,Int.reduceSub,Int.reduceAdd,aY,ah];generalize (mD d)=a0;cases a0<;>exact⟨_,rfl,rfl⟩
def aMA(op:Int)(t o:aC)(kids:au)(j d:Int)(h0:0<=j)(h1:j<kids.length)(hk:kids.length<=400)(hc:Cons 27 op kids.length):xk 27 op t o kids j d:=by simp only[xk,M.aF,M.aO,M.dw,M.bV,bC,bD,bF,aU,Int.reduceBEq,Int.reduceLE,Int.reduceLT,Int.reduceSub,Int.reduceAdd,aY,ah];generalize (mD d)=a0;cases a0<;>exact⟨_,rfl,rfl⟩
def aMB(op:Int)(t o:aC)(kids:au)(j d:Int)(h0:0<=j)(h1:j<kids.length)(hk:kids.length<=400)(hc:Cons 28 op kids.length):xk 28 op t o kids j d:=by
 by_cases hj:j=0
 ·subst hj;simp only[xk,M.aF,M.aO,M.dw,M.bV,bC,bD,bF,aU,Int.reduceBEq,Int.reduceLE,Int.reduceLT,Int.reduceSub,Int.reduceAdd,aY,ah];generalize (mD d)=a0;generalize (d==33)=a1;cases a0<;>cases a1<;>exact⟨_,rfl,rfl⟩
 have e0:(j==0)=false:=by simpa using hj
 have e1:decide (0<j)=true:=zdt (by omega);simp only[xk,M.aF,M.aO,M.dw,M.bV,bC,bD,bF,aU,e0,e1,Int.reduceBEq,Int.reduceLE,Int.reduceLT,Int.reduceSub,Int.reduceAdd,aY,ah];generalize (d==33)=a0;cases a0<;>exact⟨_,rfl,rfl⟩
def aMC(op:Int)(t o:aC)(kids:au)(j d:Int)(h0:0<=j)(h1:j<kids.length)(hk:kids.length<=400)(hc:Cons 29 op kids.length):xk 29 op t o kids j d:=by
 have hl:=hc.two (by omega);obtain rfl|rfl:j=0∨j=1:=by omega
 ·simp only[xk,M.aF,M.aO,M.dw,M.bV,bC,bD,bF,aU,Int.reduceBEq,Int.reduceLE,Int.reduceLT,Int.reduceSub,Int.reduceAdd,aY,ah];generalize (mD d)=a0;generalize (d==33)=a1;cases a0<;>cases a1<;>exact⟨_,rfl,rfl⟩
 ·simp only[xk,M.aF,M.aO,M.dw,M.bV,bC,bD,bF,aU,Int.reduceBEq,Int.reduceLE,Int.reduceLT,Int.reduceSub,Int.reduceAdd,aY,ah];generalize (mD d)=a0;generalize (d==33)=a1;cases a0<;>cases a1<;>exact⟨_,rfl,rfl⟩
def aMD(op:Int)(t o:aC)(kids:au)(j d:Int)(h0:0<=j)(h1:j<kids.length)(hk:kids.length<=400)(hc:Cons 30 op kids.length):xk 30 op t o kids j d:=by
 have hl:=hc.two (by omega);obtain rfl|rfl:j=0∨j=1:=by omega
 ·simp only[xk,M.aF,M.aO,M.dw,M.bV,bC,bD,bF,aU,Int.reduceBEq,Int.reduceLE,Int.reduceLT,Int.reduceSub,Int.reduceAdd,aY,ah];generalize (mD d)=a0;generalize (d==33)=a1;cases a0<;>cases a1<;>exact⟨_,rfl,rfl⟩
 ·simp only[xk,M.aF,M.aO,M.dw,M.bV,bC,bD,bF,aU,Int.reduceBEq,Int.reduceLE,Int.reduceLT,Int.reduceSub,Int.reduceAdd,aY,ah];generalize (mD d)=a0;generalize (d==33)=a1;cases a0<;>cases a1<;>exact⟨_,rfl,rfl⟩
def aME(op:Int)(t o:aC)(kids:au)(j d:Int)(h0:0<=j)(h1:j<kids.length)(hk:kids.length<=400)(hc:Cons 31 op kids.length):xk 31 op t o kids j d:=by
 have hl:=hc.four rfl;have hw:i64.wrap ((kids.length:Int) - 1)=3:=by rw[hl];rfl
 obtain rfl|rfl|rfl|rfl:j=0∨j=1∨j=2∨j=3:=by omega
 ·simp only[xk,M.aF,M.aO,M.dw,M.bV,bC,bD,bF,aU,hw,Int.reduceBEq,Int.reduceLE,Int.reduceLT,Int.reduceSub,Int.reduceAdd,aY,ah];generalize (mD d)=a0;generalize (d==16)=a1;generalize (d==33)=a2;cases a0<;>cases a1<;>cases a2<;>exact⟨_,rfl,rfl⟩
 ·simp only[xk,M.aF,M.aO,M.dw,M.bV,bC,bD,bF,aU,hw,Int.reduceBEq,Int.reduceLE,Int.reduceLT,Int.reduceSub,Int.reduceAdd,aY,ah];generalize (mD d)=a0;generalize (d==16)=a1;generalize (d==33)=a2;cases a0<;>cases a1<;>cases a2<;>exact⟨_,rfl,rfl⟩
 ·simp only[xk,M.aF,M.aO,M.dw,M.bV,bC,bD,bF,aU,hw,Int.reduceBEq,Int.reduceLE,Int.reduceLT,Int.reduceSub,Int.reduceAdd,aY,ah];generalize (mD d)=a0;generalize (d==16)=a1;generalize (d==33)=a2;cases a0<;>cases a1<;>cases a2<;>exact⟨_,rfl,rfl⟩
 ·simp only[xk,M.aF,M.aO,M.dw,M.bV,bC,bD,bF,aU,hw,Int.reduceBEq,Int.reduceLE,Int.reduceLT,Int.reduceSub,Int.reduceAdd,aY,ah];generalize (mD d)=a0;generalize (d==16)=a1;generalize (d==33)=a2;cases a0<;>cases a1<;>cases a2<;>exact⟨_,rfl,rfl⟩
def aMF(op:Int)(t o:aC)(kids:au)(j d:Int)(h0:0<=j)(h1:j<kids.length)(hk:kids.length<=400)(hc:Cons 32 op kids.length):xk 32 op t o kids j d:=by simp only[xk,M.aF,M.aO,M.dw,M.bV,bC,bD,bF,aU,Int.reduceBEq,Int.reduceLE,Int.reduceLT,Int.reduceSub,Int.reduceAdd,aY,ah];generalize (d==33)=a0;cases a0<;>exact⟨_,rfl,rfl⟩
def aMG(op:Int)(t o:aC)(kids:au)(j d:Int)(h0:0<=j)(h1:j<kids.length)(hk:kids.length<=400)(hc:Cons 33 op kids.length):xk 33 op t o kids j d:=by simp only[xk,M.aF,M.aO,M.dw,M.bV,bC,bD,bF,aU,Int.reduceBEq,Int.reduceLE,Int.reduceLT,Int.reduceSub,Int.reduceAdd,aY,ah];generalize (F6 d)=a0;cases a0<;>exact⟨_,rfl,rfl⟩
def aMH(op:Int)(t o:aC)(kids:au)(j d:Int)(h0:0<=j)(h1:j<kids.length)(hk:kids.length<=400)(hc:Cons 34 op kids.length):xk 34 op t o kids j d:=by simp only[xk,M.aF,M.aO,M.dw,M.bV,bC,bD,bF,aU,Int.reduceBEq,Int.reduceLE,Int.reduceLT,Int.reduceSub,Int.reduceAdd,aY,ah];generalize (mD d)=a0;cases a0<;>exact⟨_,rfl,rfl⟩
def aMI(op:Int)(t o:aC)(kids:au)(j d:Int)(h0:0<=j)(h1:j<kids.length)(hk:kids.length<=400)(hc:Cons 40 op kids.length):xk 40 op t o kids j d:=by simp only[xk,M.aF,M.aO,M.dw,M.bV,bC,bD,bF,aU,Int.reduceBEq,Int.reduceLE,Int.reduceLT,Int.reduceSub,Int.reduceAdd,aY,ah];generalize (d==33)=a0;cases a0<;>exact⟨_,rfl,rfl⟩
def aMJ(op:Int)(t o:aC)(kids:au)(j d:Int)(h0:0<=j)(h1:j<kids.length)(hk:kids.length<=400)(hc:Cons 41 op kids.length):xk 41 op t o kids j d:=by simp only[xk,M.aF,M.aO,M.dw,M.bV,bC,bD,bF,aU,Int.reduceBEq,Int.reduceLE,Int.reduceLT,Int.reduceSub,Int.reduceAdd,aY,ah];generalize (d==33)=a0;cases a0<;>exact⟨_,rfl,rfl⟩
def aMK(op:Int)(t o:aC)(kids:au)(j d:Int)(h0:0<=j)(h1:j<kids.length)(hk:kids.length<=400)(hc:Cons 42 op kids.length):xk 42 op t o kids j d:=by
 rcases hc.rule rfl with⟨rfl,hl⟩|⟨rfl,hl⟩|⟨rfl,hl⟩
 ·have hw:i64.wrap ((kids.length:Int) - 1)=0:=by rw[hl];rfl
  obtain rfl:j=0:=by omega
  simp only[xk,M.aF,M.aO,M.dw,M.bV,bC,bD,bF,aU,hw,Int.reduceBEq,Int.reduceLE,Int.reduceLT,Int.reduceSub,Int.reduceAdd,aY,ah];generalize (mD d)=a0;generalize (d==33)=a1;cases a0<;>cases a1<;>exact⟨_,rfl,rfl⟩
 ·have hw:i64.wrap ((kids.length:Int) - 1)=0:=by rw[hl];rfl
  obtain rfl:j=0:=by omega
  simp only[xk,M.aF,M.aO,M.dw,M.bV,bC,bD,bF,aU,hw,Int.reduceBEq,Int.reduceLE,Int.reduceLT,Int.reduceSub,Int.reduceAdd,aY,ah];generalize (mD d)=a0;generalize (d==33)=a1;cases a0<;>cases a1<;>exact⟨_,rfl,rfl⟩
 ·have hw:i64.wrap ((kids.length:Int) - 1)=1:=by rw[hl];rfl
  obtain rfl|rfl:j=0∨j=1:=by omega
  ·simp only[xk,M.aF,M.aO,M.dw,M.bV,bC,bD,bF,aU,hw,Int.reduceBEq,Int.reduceLE,Int.reduceLT,Int.reduceSub,Int.reduceAdd,aY,ah];generalize (mD d)=a0;generalize (d==33)=a1;cases a0<;>cases a1<;>exact⟨_,rfl,rfl⟩
  ·simp only[xk,M.aF,M.aO,M.dw,M.bV,bC,bD,bF,aU,hw,Int.reduceBEq,Int.reduceLE,Int.reduceLT,Int.reduceSub,Int.reduceAdd,aY,ah];generalize (mD d)=a0;generalize (d==33)=a1;cases a0<;>cases a1<;>exact⟨_,rfl,rfl⟩
def aML(op:Int)(t o:aC)(kids:au)(j d:Int)(h0:0<=j)(h1:j<kids.length)(hk:kids.length<=400)(hc:Cons 43 op kids.length):xk 43 op t o kids j d:=by
 rcases hc.range rfl with⟨rfl,hl⟩|⟨rfl,hl⟩
 ·have hw:i64.wrap ((kids.length:Int) - 1)=1:=by rw[hl];rfl
  obtain rfl|rfl:j=0∨j=1:=by omega
  ·simp only[xk,M.aF,M.aO,M.dw,M.bV,bC,bD,bF,aU,hw,Int.reduceBEq,Int.reduceLE,Int.reduceLT,Int.reduceSub,Int.reduceAdd,aY,ah];generalize (mD d)=a0;generalize (d==33)=a1;cases a0<;>cases a1<;>exact⟨_,rfl,rfl⟩
  ·simp only[xk,M.aF,M.aO,M.dw,M.bV,bC,bD,bF,aU,hw,Int.reduceBEq,Int.reduceLE,Int.reduceLT,Int.reduceSub,Int.reduceAdd,aY,ah];generalize (mD d)=a0;generalize (d==33)=a1;cases a0<;>cases a1<;>exact⟨_,rfl,rfl⟩
 ·have hw:i64.wrap ((kids.length:Int) - 1)=2:=by rw[hl];rfl
  obtain rfl|rfl|rfl:j=0∨j=1∨j=2:=by omega
  ·simp only[xk,M.aF,M.aO,M.dw,M.bV,bC,bD,bF,aU,hw,Int.reduceBEq,Int.reduceLE,Int.reduceLT,Int.reduceSub,Int.reduceAdd,aY,ah];generalize (mD d)=a0;generalize (d==33)=a1;cases a0<;>cases a1<;>exact⟨_,rfl,rfl⟩
  ·simp only[xk,M.aF,M.aO,M.dw,M.bV,bC,bD,bF,aU,hw,Int.reduceBEq,Int.reduceLE,Int.reduceLT,Int.reduceSub,Int.reduceAdd,aY,ah];generalize (mD d)=a0;generalize (d==33)=a1;cases a0<;>cases a1<;>exact⟨_,rfl,rfl⟩
  ·simp only[xk,M.aF,M.aO,M.dw,M.bV,bC,bD,bF,aU,hw,Int.reduceBEq,Int.reduceLE,Int.reduceLT,Int.reduceSub,Int.reduceAdd,aY,ah];generalize (mD d)=a0;generalize (d==33)=a1;cases a0<;>cases a1<;>exact⟨_,rfl,rfl⟩
def aMM(op:Int)(t o:aC)(kids:au)(j d:Int)(h0:0<=j)(h1:j<kids.length)(hk:kids.length<=400)(hc:Cons 44 op kids.length):xk 44 op t o kids j d:=by simp only[xk,M.aF,M.aO,M.dw,M.bV,bC,bD,bF,aU,Int.reduceBEq,Int.reduceLE,Int.reduceLT,Int.reduceSub,Int.reduceAdd,aY,ah];generalize (j==i64.wrap ((kids.length:Int) - 1))=a0;generalize (d==33)=a1;generalize (d==1)=a2;cases a0<;>cases a1<;>cases a2<;>exact⟨_,rfl,rfl⟩
def aMN(op:Int)(t o:aC)(kids:au)(j d:Int)(h0:0<=j)(h1:j<kids.length)(hk:kids.length<=400)(hc:Cons 45 op kids.length):xk 45 op t o kids j d:=by simp only[xk,M.aF,M.aO,M.dw,M.bV,bC,bD,bF,aU,Int.reduceBEq,Int.reduceLE,Int.reduceLT,Int.reduceSub,Int.reduceAdd,aY,ah];generalize (isIt d)=a0;generalize (d==34)=a1;cases a0<;>cases a1<;>exact⟨_,rfl,rfl⟩
def awX(k:Int)(op:Int)(t o:aC)(kids:au)(j d:Int)(hj0:0<=j)(hj1:j<kids.length)(hk:kids.length<=400)(hc:Cons k op kids.length):xk k op t o kids j d:=by
 by_cases h1:k=1
 ·subst h1;exact aXJ op t o kids j d hj0 hj1 hk hc
 by_cases h2:k=2
 ·subst h2;exact aXK op t o kids j d hj0 hj1 hk hc
 by_cases h3:k=3
 ·subst h3;exact aXL op t o kids j d hj0 hj1 hk hc
 by_cases h4:k=4
 ·subst h4;exact aXM op t o kids j d hj0 hj1 hk hc
 by_cases h5:k=5
 ·subst h5;exact aXN op t o kids j d hj0 hj1 hk hc
 by_cases h6:k=6
 ·subst h6;exact aXO op t o kids j d hj0 hj1 hk hc
 by_cases h7:k=7
 ·subst h7;exact aXP op t o kids j d hj0 hj1 hk hc
 by_cases h8:k=8
 ·subst h8;exact aXQ op t o kids j d hj0 hj1 hk hc
 by_cases h9:k=9
 ·subst h9;exact aXR op t o kids j d hj0 hj1 hk hc
 by_cases h10:k=10
 ·subst h10;exact aMm op t o kids j d hj0 hj1 hk hc
 by_cases h11:k=11
 ·subst h11;exact aMn op t o kids j d hj0 hj1 hk hc
 by_cases h12:k=12
 ·subst h12;exact aMo op t o kids j d hj0 hj1 hk hc
 by_cases h13:k=13
 ·subst h13;exact aMp op t o kids j d hj0 hj1 hk hc
 by_cases h14:k=14
 ·subst h14;exact aMq op t o kids j d hj0 hj1 hk hc
 by_cases h15:k=15
 ·subst h15;exact aMr op t o kids j d hj0 hj1 hk hc
 by_cases h16:k=16
 ·subst h16;exact aMs op t o kids j d hj0 hj1 hk hc
 by_cases h20:k=20
 ·subst h20;exact aMt op t o kids j d hj0 hj1 hk hc
 by_cases h21:k=21
 ·subst h21;exact aMu op t o kids j d hj0 hj1 hk hc
 by_cases h22:k=22
 ·subst h22;exact aMv op t o kids j d hj0 hj1 hk hc
 by_cases h23:k=23
 ·subst h23;exact aMw op t o kids j d hj0 hj1 hk hc
 by_cases h24:k=24
 ·subst h24;exact aMx op t o kids j d hj0 hj1 hk hc
 by_cases h25:k=25
 ·subst h25;exact aMy op t o kids j d hj0 hj1 hk hc
 by_cases h26:k=26
 ·subst h26;exact aMz op t o kids j d hj0 hj1 hk hc
 by_cases h27:k=27
 ·subst h27;exact aMA op t o kids j d hj0 hj1 hk hc
 by_cases h28:k=28
 ·subst h28;exact aMB op t o kids j d hj0 hj1 hk hc
 by_cases h29:k=29
 ·subst h29;exact aMC op t o kids j d hj0 hj1 hk hc
 by_cases h30:k=30
 ·subst h30;exact aMD op t o kids j d hj0 hj1 hk hc
 by_cases h31:k=31
 ·subst h31;exact aME op t o kids j d hj0 hj1 hk hc
 by_cases h32:k=32
 ·subst h32;exact aMF op t o kids j d hj0 hj1 hk hc
 by_cases h33:k=33
 ·subst h33;exact aMG op t o kids j d hj0 hj1 hk hc
 by_cases h34:k=34
 ·subst h34;exact aMH op t o kids j d hj0 hj1 hk hc
 by_cases h40:k=40
 ·subst h40;exact aMI op t o kids j d hj0 hj1 hk hc
 by_cases h41:k=41
 ·subst h41;exact aMJ op t o kids j d hj0 hj1 hk hc
 by_cases h42:k=42
 ·subst h42;exact aMK op t o kids j d hj0 hj1 hk hc
 by_cases h43:k=43
 ·subst h43;exact aML op t o kids j d hj0 hj1 hk hc
 by_cases h44:k=44
 ·subst h44;exact aMM op t o kids j d hj0 hj1 hk hc
 by_cases h45:k=45
 ·subst h45;exact aMN op t o kids j d hj0 hj1 hk hc
 have e1:(k==1)=false:=by simpa using h1
 have e2:(k==2)=false:=by simpa using h2
 have e3:(k==3)=false:=by simpa using h3
 have e4:(k==4)=false:=by simpa using h4
 have e5:(k==5)=false:=by simpa using h5
 have e6:(k==6)=false:=by simpa using h6
 have e7:(k==7)=false:=by simpa using h7
 have e8:(k==8)=false:=by simpa using h8
 have e9:(k==9)=false:=by simpa using h9
 have e10:(k==10)=false:=by simpa using h10
 have e11:(k==11)=false:=by simpa using h11
 have e12:(k==12)=false:=by simpa using h12
 have e13:(k==13)=false:=by simpa using h13
 have e14:(k==14)=false:=by simpa using h14
 have e15:(k==15)=false:=by simpa using h15
 have e16:(k==16)=false:=by simpa using h16
 have e20:(k==20)=false:=by simpa using h20
 have e21:(k==21)=false:=by simpa using h21
 have e22:(k==22)=false:=by simpa using h22
 have e23:(k==23)=false:=by simpa using h23
 have e24:(k==24)=false:=by simpa using h24
 have e25:(k==25)=false:=by simpa using h25
 have e26:(k==26)=false:=by simpa using h26
 have e27:(k==27)=false:=by simpa using h27
 have e28:(k==28)=false:=by simpa using h28
 have e29:(k==29)=false:=by simpa using h29
 have e30:(k==30)=false:=by simpa using h30
 have e31:(k==31)=false:=by simpa using h31
 have e32:(k==32)=false:=by simpa using h32
 have e33:(k==33)=false:=by simpa using h33
 have e34:(k==34)=false:=by simpa using h34
 have e40:(k==40)=false:=by simpa using h40
 have e41:(k==41)=false:=by simpa using h41
 have e42:(k==42)=false:=by simpa using h42
 have e43:(k==43)=false:=by simpa using h43
 have e44:(k==44)=false:=by simpa using h44
 have e45:(k==45)=false:=by simpa using h45
 simp only[xk,M.aF,M.aO,M.dw,M.bV,bC,bD,bF,aU,e1,e2,e3,e4,e5,e6,e7,e8,e9,e10,e11,e12,e13,e14,e15,e16,e20,e21,e22,e23,e24,e25,e26,e27,e28,e29,e30,e31,e32,e33,e34,e40,e41,e42,e43,e44,e45,dO,ah];exact⟨_,rfl,rfl⟩
end Go.Proofs.YtbpldgeajbfgnaaGreatDoor
namespace Go.Proofs.YtbpldgeajbfgnaaGreatDoor
set_option linter.unusedVariables false
set_option linter.unusedSimpArgs false
open Go Go.Vm
open Go.IntKind (i64)
def wN(n:Nd):Nat:=n.text.length+n.other.length+n.kids.length
def wNs:List Nd->Nat
 |[]=>0
 |n::l=>wN n+wNs l
def ame(k:List Int)(L:Int)(h0:0<=L)(h1:L<=1048576)(hk:k.length<=maxLen):M.AA (encI k) L=some (if(k.length:Int)<=L then L - k.length else -1):=by
 unfold maxLen at hk;simp only[M.AA,M.Lj,dh];rw[aJ (by omega) (by omega)]
 by_cases h:(k.length:Int)<=L
 ·rw[uw (by omega),if_pos h];rfl
 ·rw[zdt (by omega),if_neg h];rfl
def amf(n:Nd)(o:Bool)(L:Int)(h0:0<=L)(h1:L<=1048576)(ht:n.text.length<=maxLen)(ho:n.other.length<=maxLen)(hk:n.kids.length<=maxLen):
  M.AB n.kind n.op n.text n.other (encI n.kids) L=some (if(wN n:Int)<=L then L - wN n else -1):=by
 have ht':=ht;have ho':=ho;have hk':=hk;unfold maxLen at ht' ho' hk';have hwn:wN n=n.text.length+n.other.length+n.kids.length:=rfl;simp only[M.AB,M.Ll];rw[aJ (n:=L - n.text.length) (by omega) (by omega)]
 by_cases c1:(n.text.length:Int)<=L
 ·rw[uw (by omega),dO,aJ (by omega) (by omega)]
  by_cases c2:(n.other.length:Int)<=L - n.text.length
  ·rw[uw (by omega),dO,ame _ _ (by omega) (by omega) hk,ah]
   by_cases c3:(n.kids.length:Int)<=L - n.text.length - n.other.length
   ·rw[if_pos c3,uw (by omega),dO,if_pos (by omega)];congr 1;omega
   ·rw[if_neg c3,zdt (by omega),cO,if_neg (by omega)]
  ·rw[zdt (by omega),cO,if_neg (by omega)]
 ·rw[zdt (by omega),cO,if_neg (by omega)]
def apU(l:List Nd)(len:Nat):∀w:Int,0<=w->abm (fun(w:Int) (n:Nd)=>(if(wN n:Int)<=w then .inl (w - wN n) else .inr (.inl ()):Int⊕(Unit⊕(Int×Int)))) (λw=> .inr (w,(len:Int))) l w=
  if(wNs l:Int)<=w then .inr (w - wNs l,(len:Int)) else .inl ():=by
 induction l with
 |nil=>intro w h;simp[abm,wNs,h]
 |cons n l ih=>
  intro w h;have hw:wNs (n::l)=wN n+wNs l:=rfl;simp only[abm]
  by_cases c:(wN n:Int)<=w
  ·rw[if_pos c];simp only;rw[ih (w - wN n) (by omega)]
   by_cases c2:(wNs l:Int)<=w - wN n
   ·rw[if_pos c2,if_pos (by omega)];congr 2;omega
   ·rw[if_neg c2,if_neg (by omega)]
  ·rw[if_neg c,if_neg (by omega)]
def ajX(l:List Nd)(o:Bool)(L:Int)(h0:0<=L)(h1:L<=1048576)(hl:l.length<=maxLen)(hf:∀n,n∈l->Fit n):
  M.xB (dF o l) L=some (if(l.length+wNs l:Int)<=L then L - l.length - wNs l else -1):=by
 unfold maxLen at hl;simp only[M.xB,M.Jp,iE];rw[aJ (by omega) (by omega)]
 by_cases c:(l.length:Int)<=L
 ·rw[uw (by omega),dO];have hloop:=ajN (M.Dw (dF o l)) l (λi (w:Int)=>(w,(i:Int)))
   (fun(w:Int) (n:Nd)=>(if(wN n:Int)<=w then .inl (w - wN n) else .inr (.inl ()):Int⊕(Unit⊕(Int×Int)))) (λw=> .inr (w,(l.length:Int))) (λ_ w=>0<=w∧w<=1048576)
   (by
    intro i n w hi hw;have hlt:=(MG.1 hi).1;have hfn:=hf n (Au hi);simp only[jY,M.Dw,M.xQ,iE,fQ,nN,hi,Qq,ah,Gf,G7,GL,G8,Ef];rw[zdt (by omega),cO,amf n o w hw.1 hw.2 hfn.text hfn.other hfn.kids,ah]
    by_cases c2:(wN n:Int)<=w
    ·rw[if_pos c2,uw (by omega),dO,if_pos c2,aJ (by omega) (by omega)];simp
    ·rw[if_neg c2,zdt (by omega),cO,if_neg c2])
   (by
    intro i n w w' hi hw he
    by_cases c2:(wN n:Int)<=w
    ·simp only[c2,if_true,Sum.inl.injEq] at he;omega
    ·simp[c2] at he)
   (by intro w hw;simp only[jY,M.Dw,M.xQ,iE];rw[uw (by omega),dO])
   (L - l.length) (by omega)
  have h0':((0:Nat):Int)=0:=rfl;simp only[h0'] at hloop;rw[M.G9,hloop,ah,apU l l.length _ (by omega)]
  by_cases c2:(wNs l:Int)<=L - l.length
  ·rw[if_pos c2,if_pos (by omega)];rfl
  ·rw[if_neg c2,if_neg (by omega)];rfl
 ·rw[zdt (by omega),cO,if_neg (by omega)]
def ak3{l:List Nd}{n:Nd}(h:n∈l):wN n<=wNs l:=by
 induction l with
 |nil=>simp at h
 |cons m l ih=>
  have hw:wNs (m::l)=wN m+wNs l:=rfl;rcases List.mem_cons.1 h with rfl|h
  ·omega
  ·have:=ih h;omega
def Py{α:Type}(a:List α)(b:List α)(x y:α):(a++x::b).set a.length y=a++y::b:=by
 induction a with
 |nil=>rfl
 |cons z a ih=>simp[ih]
def filled{α β:Type}(f:α->β)(z:β)(l:List α)(i:Nat):List β:=(l.take i).map f++List.replicate (l.length - i) z
def Y8{α β:Type}(f:α->β)(z:β)(l:List α):filled f z l 0=List.replicate l.length z:=by simp[filled]
def ab6{α β:Type}(f:α->β)(z:β)(l:List α):filled f z l l.length=l.map f:=by simp[filled]
def ab7{α β:Type}(f:α->β)(z:β)(l:List α){i:Nat}(h:i<l.length):(filled f z l i)[i]? =some z:=by unfold filled;rw[List.getElem?_append_right (by simp;omega)];simp[List.getElem?_replicate];omega
def ab8{α β:Type}(f:α->β)(z:β)(l:List α){i:Nat}{x:α}(h:l[i]? =some x):(filled f z l i).set i (f x)=filled f z l (i+1):=by
 have hlt:=(MG.1 h).1;unfold filled;have hn:l.length - i=(l.length - (i+1))+1:=by omega
 rw[hn,List.replicate_succ];have hl:((l.take i).map f).length=i:=by simp;omega
 have:=Py ((l.take i).map f) (List.replicate (l.length - (i+1)) z) z (f x);rw[hl] at this;rw[this,List.take_add_one,h];simp
def amg(k:List Int)(hk:k.length<=1048576):M.AL (encI k)=some (encI k):=by
 simp only[M.AL,M.Lm,dh];rw[zdt (by omega),zdt (by omega),zdt (by omega),zdt (by omega)];simp only[Bool.and_true,cO,Yq];have hloop:=iV (b:=M.E5 (encI k)) (t:=((k.length:Int),encI k)) (λi=>((i:Int),filled (λx=>[D.int .i64 x]) [D.int .i64 0] k i)) k.length
  (by
   intro i hi;obtain⟨x,hx⟩:∃x,k[i]? =some x:=⟨k[i],by simp[hi]⟩
   simp only[M.E5,M.zH,dh,fQ,sH,hx,Qq,ah,KG,Yq,ab7 _ _ k hi];rw[zdt (by omega),cO,aJ (by omega) (by omega)];have hs:splice [D.int IntKind.i64 0] 0 [D.int IntKind.i64 x]=[D.int IntKind.i64 x]:=rfl;rw[hs,ab8 (λx=>[D.int .i64 x]) _ k hx];simp)
  (by simp only[M.E5,M.zH,dh];rw[uw (by omega),dO,ab6];rfl) 0 (Nat.zero_le _)
 rw[M.Jq];simp only[Y8] at hloop;have h0':((0:Nat):Int)=0:=rfl;rw[h0'] at hloop;rw[hloop,ah];simp
def amh(n:Nd)(hk:n.kids.length<=1048576):M.AO n.kind n.op n.text n.other (encI n.kids)=some (n.kind,n.op,n.text,n.other,encI n.kids):=by simp only[M.AO,M.Lp];rw[amg _ hk,ah];simp
def ajY(l:List Nd)(o:Bool)(hl:l.length<=1048576)(hk:∀n,n∈l->n.kids.length<=1048576):M.pR (dF o l)=some (dF true l):=by
 simp only[M.pR,M.Jr,iE];rw[zdt (by omega),zdt (by omega),zdt (by omega),zdt (by omega)];simp only[Bool.and_true,cO,Yq];have hloop:=iV (b:=M.Dx (dF o l)) (t:=((l.length:Int),dF true l)) (λi=>((i:Int),filled (MN true) [D.int IntKind.i64 0,D.int IntKind.i64 0,D.str [],D.str [],D.sl true 1 []] l i)) l.length
  (by
   intro i hi;obtain⟨x,hx⟩:∃x,l[i]? =some x:=⟨l[i],by simp[hi]⟩
   have hkx:=hk x (Au hx);simp only[jY,M.Dx,M.xR,iE,fQ,nN,hx,Qq,ah,Gf,G7,GL,G8,Ef,amh x hkx,Yq,ab7 _ _ l hi,Ja,cO];rw[zdt (by omega),cO,aJ (by omega) (by omega)];have hs:splice [D.int IntKind.i64 0,D.int IntKind.i64 0,D.str [],D.str [],D.sl true 1 []] 0 [D.int IntKind.i64 x.kind,D.int IntKind.i64 x.op,D.str x.text,D.str x.other,D.sl true 1 (encI x.kids)]=MN true x:=rfl;rw[hs,ab8 (MN true) _ l hx];simp)
  (by simp only[jY,M.Dx,M.xR,iE];rw[uw (by omega),dO,ab6];rfl) 0 (Nat.zero_le _)
 rw[M.He];simp only[Y8] at hloop;have h0':((0:Nat):Int)=0:=rfl;rw[h0'] at hloop;rw[hloop,ah]
def Y9(k:List Int)(hk:k.length<=maxLen):M.vC (encI k) (encI k)=some true:=by
 unfold maxLen at hk;simp only[M.vC,M.Md,bne_self_eq_false,dO];have hloop:=iV (b:=M.FT (encI k) (encI k)) (t:=.inr ((k.length:Int))) (λi=>(i:Int)) k.length
  (by
   intro i hi;obtain⟨x,hx⟩:∃x,k[i]? =some x:=⟨k[i],by simp[hi]⟩
   simp only[M.FT,M.Ai,dh,fQ,sH,hx,Qq,ah,KG,bne_self_eq_false,dO];rw[zdt (by omega),cO,aJ (by omega) (by omega)];simp)
  (by simp only[M.FT,M.Ai,dh];rw[uw (by omega),dO]) 0 (Nat.zero_le _)
 have h0':((0:Nat):Int)=0:=rfl;rw[h0'] at hloop;rw[M.J5,hloop,ah];rfl
def aiR(n:Nd)(hk:n.kids.length<=maxLen):M.Bf n.kind n.op n.text n.other (encI n.kids) n.kind n.op n.text n.other (encI n.kids)=some true:=by simp only[M.Bf,M.Me,bne_self_eq_false,dO,beq_self_eq_true,Bool.not_true];rw[Y9 _ hk];rfl
def afy(l:List Nd)(o o':Bool)(hl:l.length<=maxLen)(hk:∀n,n∈l->n.kids.length<=maxLen):M.xP (dF o l) (dF o' l)=some true:=by
 unfold maxLen at hl;simp only[M.xP,M.J7,iE,bne_self_eq_false,dO];have hloop:=iV (b:=M.DZ (dF o l) (dF o' l)) (t:=.inr ((l.length:Int))) (λi=>(i:Int)) l.length
  (by
   intro i hi;obtain⟨x,hx⟩:∃x,l[i]? =some x:=⟨l[i],by simp[hi]⟩
   simp only[jY,M.DZ,M.yF,iE,fQ,nN,hx,Qq,ah,Gf,G7,GL,G8,Ef,aiR x (hk x (Au hx)),Bool.not_true,dO];rw[zdt (by omega),cO,aJ (by omega) (by omega)];simp)
  (by simp only[jY,M.DZ,M.yF,iE];rw[uw (by omega),dO]) 0 (Nat.zero_le _)
 have h0':((0:Nat):Int)=0:=rfl;rw[h0'] at hloop;rw[M.Iu,hloop,ah];rfl
def afz(x lo hi:Int):M.dR x lo hi=some (decide (lo<=x) && decide (x<=hi)):=by
 simp only[M.dR,M.xU]
 by_cases h:lo<=x
 ·rw[zdt (show x>=lo from h)];rfl
 ·rw[uw (show¬x>=lo from h)];rfl
def aiS:∀k:List Int,afn (encI k)=some k
 |[]=>rfl
 |x::k=>by have:encI (x::k)=[D.int .i64 x]::encI k:=rfl;rw[this];simp only[afn,aiS k,Qq]
def nk(n:Nd):Nk:=⟨n.kind,n.op,⟨⟨n.text⟩⟩,⟨⟨n.other⟩⟩,n.kids⟩
def aeo(o:Bool):∀l:List Nd,(∀n,n∈l->n.kids.length<=1048576)->SB (dF o l)=some (l.map nk)
 |[],_=>rfl
 |n::l,h=>by
  have:dF o (n::l)=MN o n::dF o l:=rfl;rw[this,SB];have hk:ajS (MN o n)=some (nk n):=by simp only[MN,ajS,aiS,ah];rw[if_pos (h n zmf)];rfl
  rw[hk,ah,aeo o l (λm hm=>h m (zmm _ hm))];rfl
def aMO(l:List Nd):(l.map nk).map (·.kids)=ks l:=by simp[ks,nk]
def Z7(l:List Nd)(o:Bool)(hl:l.length<=1048576)(hk:∀n,n∈l->n.kids.length<=1048576):M.xK (dF o l)=some (Eo l):=by
 simp only[M.xK,M.JO,M.jZ,aeo o l hk,ah,aMO,List.length_map];rw[if_pos hl,Eo];cases oK (ks l) with
 |none=>rfl
 |some st=>rfl
def Xj(l:List Nd)(o:Bool){i:Nat}{n:Nd}{st:List Int}(hi:l[i]? =some n)(hl:l.length<=1048576)(hkl:n.kids.length<=1048576)(hst:WU st)(hs:st.length=i):
  ∀(j:Nat) (a:Int),j<=n.kids.length->0<=a->a<=i->M.qY (dF o l) (i:Int) (encI st) (a,(j:Int) - 1)=some (match iq st (n.kids.take j).reverse (a - 1) with
   |none=> .inl ()
   |some r=> .inr (r+1, -1))
 |0,a,hj,h0,h1=>by rw[M.qY];apply jq;simp only[M.BA,M.vP];rw[uw (by omega),dO,List.take_zero,List.reverse_nil,iq];simp
 |j+1,a,hj,h0,h1=>by
  have hlt:i<l.length:=(MG.1 hi).1;obtain⟨k,hk⟩:∃k,n.kids[j]? =some k:=⟨n.kids[j]'(by omega),by simp⟩
  have ht:(n.kids.take (j+1)).reverse=k::(n.kids.take j).reverse:=by rw[List.take_add_one,hk,Option.toList_some,List.reverse_append];rfl
  rw[ht,iq];have e1:(((j+1:Nat):Int) - 1)=(j:Int):=by omega
  rw[e1];have hstep:M.BA (dF o l) (i:Int) (encI st) (a,(j:Int))=if a - 1<0∨k≠a - 1 then some (.inr (.inl ())) else some (.inl (st[k.toNat]?.getD 0,(j:Int) - 1)):=by
   simp only[M.BA,M.vP,fQ,nN,hi,Qq,ah,Ef,sH,hk,KG];rw[zdt (by omega),cO,aJ (n:=a - 1) (by omega) (by omega)]
   by_cases h2:k=a - 1
   ·have:(k !=a - 1)=false:=by simp[h2]
    rw[this,dO]
    by_cases h3:a=0
    ·have:(a==0)=true:=by simp[h3]
     rw[this,cO,if_pos (.inl (by omega))]
    ·have:(a==0)=false:=by simp[h3]
     rw[this,dO,if_neg (by omega)];obtain⟨d,hd⟩:∃d:Nat,a - 1=(d:Int):=⟨(a - 1).toNat,by omega⟩
     have hdl:d<st.length:=by omega
     rw[h2,hd];simp only[agy,fQ,sH,Yq];rw[List.getElem?_eq_getElem hdl];simp only[Qq,ah,KG,Option.getD_some];rw[aJ (by omega) (by omega)]
   ·have:(k !=a - 1)=true:=by simp[h2]
    rw[this,cO,if_pos (.inr h2)]
  by_cases hc:a - 1<0∨k≠a - 1
  ·rw[if_pos hc];rw[if_pos hc] at hstep;exact jq hstep
  ·rw[if_neg hc];rw[if_neg hc] at hstep;rw[M.qY,kQ hstep];have hz:=Qd hst k.toNat;have:=Xj l o hi hl hkl hst hs j (st[k.toNat]?.getD 0) (by omega) hz.1 (by omega);rw[M.qY] at this;exact this
def UN(l:List Nd)(o:Bool)(hl:l.length<=1048576)(hk:∀n,n∈l->n.kids.length<=1048576):∀(rest:List Nd) (i:Nat) (st:List Int),l.drop i=rest->st.length=i->i<=l.length->WU st->
  M.qZ (dF o l) ((i:Int),encI st)=some (match jQ st (ks rest) with
   |none=> .inl ()
   |some r=> .inr ((l.length:Int),encI r))
 |[],i,st,hd,hs,hi,hst=>by
  have:l.length<=i:=List.drop_eq_nil_iff.1 hd;rw[M.qZ];apply jq;simp only[jY,M.BD,M.vS,iE];rw[uw (by omega),dO];have:i=l.length:=by omega
  subst this;rfl
 |n::rest,i,st,hd,hs,hi,hst=>by
  have hn:l[i]? =some n:=by
   have:(l.drop i)[0]? =some n:=by rw[hd];rfl
   simpa using this
  have hlt:i<l.length:=(MG.1 hn).1;have hd':l.drop (i+1)=rest:=by rw[<-List.drop_drop,hd];rfl
  have hkn:=hk n (Au hn);have hin:=Xj l o hn hl hkn hst hs n.kids.length (i:Int) (Nat.le_refl _) (by omega) (by omega);rw[List.take_length] at hin;have hks:ks (n::rest)=n.kids::ks rest:=rfl;rw[hks,jQ,hs];have hstep:M.BD (dF o l) ((i:Int),encI st)=some (match iq st n.kids.reverse ((i:Int) - 1) with
    |none=> .inr (.inl ())
    |some a=> .inl (((i+1:Nat):Int),encI (st++[a+1]))):=by
   simp only[jY,M.BD,M.vS,iE,fQ,nN,hn,Qq,ah,Ef,dh];rw[zdt (by omega),cO,aJ (n:=(n.kids.length:Int) - 1) (by omega) (by omega),hin];cases hw:iq st n.kids.reverse ((i:Int) - 1) with
   |none=>rfl
   |some a=>simp only[ah,yS,letE,OJ];rw[dP (by omega),cO,dP (by omega),cO,aJ (by omega) (by omega)];simp[encI]
  cases hw:iq st n.kids.reverse ((i:Int) - 1) with
  |none=>rw[hw] at hstep;exact jq hstep
  |some a=>rw[hw] at hstep;rw[M.qZ,kQ hstep];have hr:=IQ hst _ _ _ (by omega) (by omega) hw;have:=UN l o hl hk rest (i+1) (st++[a+1]) hd' (by simp[hs]) hlt (Ua hst hr.1 hr.2);rw[M.qZ] at this;exact this
def Ri(l:List Nd)(o:Bool)(hl:l.length<=1048576)(hk:∀n,n∈l->n.kids.length<=1048576):M.rJ (dF o l)=some (Eo l):=by
 simp only[M.rJ,M.Js,afz,ah,iE]
 by_cases h1:1<=l.length∧l.length<=400
 ·have hb:(decide ((1:Int)<=(l.length:Int)) && decide ((l.length:Int)<=400))=true:=by simp;omega
  rw[hb,Bool.not_true,dO];have h:=UN l o hl hk l 0 [] rfl rfl (Nat.zero_le _) SA;have e0:((0:Nat):Int)=0:=rfl;rw[e0] at h;simp only[M.yT,M.Hf];rw[show([]:au)=encI [] from rfl,h,Eo,oK,if_pos (by rw[NW];exact h1)];cases hs:jQ [] (ks l) with
  |none=>rfl
  |some r=>
   have hrl:r.length=l.length:=by have:=QL _ _ _ hs;rw[NW] at this;simpa using this
   simp only[ah,yS,letE,Ja,cO];rw[aJ (by omega) (by omega),show(l.length:Int) - 1=((l.length - 1:Nat):Int) by omega];simp only[agy,fQ,sH,Yq];rw[List.getElem?_eq_getElem (by omega)];simp only[Qq,ah,KG,Option.getD_some]
 ·have hb:(decide ((1:Int)<=(l.length:Int)) && decide ((l.length:Int)<=400))=false:=by
   cases hq:(decide ((1:Int)<=(l.length:Int)) && decide ((l.length:Int)<=400)) with
   |false=>rfl
   |true=>simp at hq;omega
  rw[hb,Bool.not_false,cO,Eo,oK,if_neg (by rw[NW];exact h1)]
def aep{st:List Int}(h:WU st):∀(l:List Int) (a r:Int),a<st.length->iq st l a=some r->∀k,k∈l->0<=k∧k<st.length
 |[],a,r,h1,e,k,hk=>absurd hk List.not_mem_nil
 |x::l,a,r,h1,e,k,hk=>by
  rw[iq] at e;split at e
  ·cases e
  ·rename_i hc;have hz:=Qd h x.toNat;rcases List.mem_cons.1 hk with rfl|hk
   ·omega
   ·exact aep h l _ r (by omega) e k hk
def Za:∀(l:List (List Int)) (st r:List Int),WU st->jQ st l=some r->∀(i:Nat) n,l[i]? =some n->∀k,k∈n->0<=k∧k<st.length+i
 |[],st,r,h0,h,i,n,hn=>by simp at hn
 |m::l,st,r,h0,h,i,n,hn=>by
  rw[jQ] at h;split at h
  ·cases h
  ·rename_i a ha;have hr:=IQ h0 _ _ _ (by omega) (by omega) ha;cases i with
   |zero=>simp only[List.getElem?_cons_zero,iH] at hn;subst hn;intro k hk;have:=aep h0 _ _ _ (by omega) ha k (List.mem_reverse.2 hk);omega
   |succ i=>simp only[List.getElem?_cons_succ] at hn;intro k hk;have:=Za l _ r (Ua h0 hr.1 hr.2) h i n hn k hk;simp at this;omega
def ami{l:List Nd}(h:Eo l=true):1<=l.length∧l.length<=400:=by
 unfold Eo at h;cases hs:oK (ks l) with
 |none=>rw[hs] at h;cases h
 |some r=>
  unfold oK at hs;split at hs
  ·rename_i hq;rw[NW] at hq;exact hq
  ·cases hs
def UO:∀(l:List (List Int)) (st r:List Int),jQ st l=some r->∃t,r=st++t
 |[],st,r,h=>by rw[jQ] at h;cases h;exact⟨[],by simp⟩
 |n::l,st,r,h=>by
  rw[jQ] at h;split at h
  ·cases h
  ·obtain⟨t,ht⟩:=UO l _ r h;exact⟨_,by rw[ht,Gp]⟩
def aiT{st t:List Int}(h:WU st):∀(ks:List Int) (a:Int),a<st.length->iq (st++t) ks a=iq st ks a
 |[],a,_=>rfl
 |k::ks,a,ha=>by
  rw[iq,iq];split
  ·rfl
  ·rename_i hc;have hk:k.toNat<st.length:=by omega
   have e:(st++t)[k.toNat]? =st[k.toNat]? :=List.getElem?_append_left hk;rw[e];have hz:=Qd h k.toNat;exact aiT h ks _ (by omega)
def aer:∀(l:List (List Int)) (st r:List Int),WU st->jQ st l=some r->∀(i:Nat) n,l[i]? =some n->∃a,iq r n.reverse ((st.length:Int)+i - 1)=some a∧r[st.length+i]? =some (a+1)
 |[],st,r,h0,h,i,n,hn=>by simp at hn
 |m::l,st,r,h0,h,i,n,hn=>by
  rw[jQ] at h;split at h
  ·cases h
  ·rename_i a ha;have hr:=IQ h0 _ _ _ (by omega) (by omega) ha;obtain⟨t,ht⟩:=UO l _ r h;cases i with
   |zero=>
    simp only[List.getElem?_cons_zero,iH] at hn;subst hn;refine⟨a, ?_, ?_⟩
    ·rw[ht,Gp,aiT h0 _ _ (by simp;omega)];simpa using ha
    ·rw[ht];simp
   |succ i=>
    simp only[List.getElem?_cons_succ] at hn;obtain⟨b,h1,h2⟩:=aer l _ r (Ua h0 hr.1 hr.2) h i n hn;refine⟨b, ?_, ?_⟩
    ·rw[<-h1];congr 1;simp;omega
    ·rw[<-h2];congr 1;simp;omega
def Ti:List Int->Int
 |[]=>0
 |x::l=>x+Ti l
def Zb:∀(a b:List Int),Ti (a++b)=Ti a+Ti b
 |[],b=>by simp[Ti]
 |x::a,b=>by rw[Ru,Ti,Ti,Zb a b];omega
def Xk:∀l:List Int,Ti l.reverse=Ti l
 |[]=>rfl
 |x::l=>by rw[List.reverse_cons,Zb,Xk l];simp[Ti];omega
def sz(r:List Int)(k:Int):Int:=k - (r[k.toNat]?.getD 0)+1
def aiU(r:List Int):∀(ks:List Int) (a b:Int),iq r ks a=some b->Ti (ks.map (sz r))=a - b
 |[],a,b,h=>by rw[iq] at h;cases h;simp[Ti]
 |k::ks,a,b,h=>by
  rw[iq] at h;split at h
  ·cases h
  ·rename_i hc;have:=aiU r ks _ b h;rw[Ug,Ti,this,sz];omega
structure Val(l:List Nd)(r:List Int):Prop where
 st:jQ [] (ks l)=some r
 pos:1<=l.length
 le:l.length<=400
def afA{l:List Nd}(h:Eo l=true):∃r,Val l r:=by
 have hl:=ami h;unfold Eo at h;cases hs:oK (ks l) with
 |none=>rw[hs] at h;cases h
 |some r=>
  unfold oK at hs;split at hs
  ·exact⟨r,hs,hl.1,hl.2⟩
  ·cases hs
section
variable {l:List Nd} {r:List Int}
def Val.len(h:Val l r):r.length=l.length:=by have:=QL _ _ _ h.st;rw[NW] at this;simpa using this
def Val.ok(h:Val l r):WU r:=XT _ _ _ SA h.st
def Val.kids(h:Val l r){i:Nat}{n:Nd}(hn:l[i]? =some n):∀k,k∈n.kids->0<=k∧k<i:=by have:=Za _ _ _ SA h.st i n.kids (by simp[ks,hn]);simpa using this
def Val.sum(h:Val l r){i:Nat}{n:Nd}(hn:l[i]? =some n):Ti (n.kids.map (sz r))+1=sz r i:=by obtain⟨a,h1,h2⟩:=aer _ _ _ SA h.st i n.kids (by simp[ks,hn]);have:=aiU r _ _ _ h1;rw[List.map_reverse,Xk] at this;simp at h2;rw[this,sz,Yq,h2];simp;omega
def Val.apV(h:Val l r){k:Int}(h0:0<=k):1<=sz r k∧sz r k<=k+1:=by have:=Qd h.ok k.toNat;rw[sz];omega
end
def ab9(l:List Nd)(i:Nat):List Int:=match l[i]? with|some n=>n.kids|none=>[]
def KY{l:List Nd}{i:Nat}{n:Nd}(h:l[i]? =some n):ab9 l i=n.kids:=by rw[ab9,h]
def mx:Int->List Int->Int
 |a,[]=>a
 |a,x::l=>mx (bif decide (a<x) then x else a) l
def acd(B:Int):∀(l:List Int) (a:Int),a<=B->(∀x,x∈l->x<=B)->a<=mx a l∧mx a l<=B
 |[],a,h,_=>⟨Int.le_refl _,h⟩
 |x::l,a,h,hl=>by
  have hx:=hl x zmf;rw[mx]
  by_cases c:a<x
  ·rw[zdt c,cO];have:=acd B l x hx λy hy=>hl y (zmm _ hy)
   omega
  ·rw[uw c,dO];exact acd B l a h λy hy=>hl y (zmm _ hy)
def afB:∀(l:List Int) (a x:Int),mx a (l++[x])=(bif decide (mx a l<x) then x else mx a l)
 |[],a,x=>rfl
 |y::l,a,x=>by rw[Ru,mx,mx,afB l]
def apW:∀(l:List Int) (a:Int),mx (1+a) (l.map λd=>1+d)=1+mx a l
 |[],a=>rfl
 |x::l,a=>by
  rw[Ug,mx,mx,<-apW l]
  by_cases c:a<x
  ·rw[zdt c,cO,zdt (by omega),cO]
  ·rw[uw c,dO,uw (by omega),dO]
def dep(l:List Nd):Nat->Nat->Int
 |0,_=>0
 |f+1,i=>mx 0 ((ab9 l i).map λk=>dep l f k.toNat)+1
def Yf(l:List Nd):∀f i,0<=dep l f i∧dep l f i<=f
 |0,i=>by simp[dep]
 |f+1,i=>by have:=acd (f:Int) ((ab9 l i).map λk=>dep l f k.toNat) 0 (by omega) (λx hx=>by obtain⟨k,_,rfl⟩:=List.mem_map.1 hx;exact(Yf l f k.toNat).2);rw[dep];omega
section
variable {l:List Nd} {r:List Int} {o:Bool}
def aiV(h:Val l r):∀(f f' i:Nat),i<f->i<f'->i<l.length->dep l f i=dep l f' i
 |0,_,i,h1,_,_=>absurd h1 (Nat.not_lt_zero _)
 |f+1,0,i,_,h2,_=>absurd h2 (Nat.not_lt_zero _)
 |f+1,f'+1,i,h1,h2,h3=>by
  obtain⟨n,hn⟩:∃n,l[i]? =some n:=⟨l[i],by simp⟩
  rw[dep,dep,KY hn];congr 2;refine List.map_congr_left λk hk=> ?_
  have hkr:=h.kids hn k hk;exact aiV h f f' k.toNat (by omega) (by omega) (by omega)
def ace(l:List Nd)(i:Nat):List Int:=(List.range i).map λj=>dep l (j+1) j
def apX(l:List Nd)(i:Nat):(ace l i).length=i:=by simp[ace]
def aiW(l:List Nd){i j:Nat}(h:j<i):(ace l i)[j]? =some (dep l (j+1) j):=by simp[ace,List.getElem?_range h]
def amj(l:List Nd)(i:Nat):ace l (i+1)=ace l i++[dep l (i+1) i]:=by simp[ace,List.range_succ]
def aiX(h:Val l r){i:Nat}{n:Nd}(hn:l[i]? =some n)(hk:n.kids.length<=1048576):M.CQ (dF o l) (i:Int) (encI (ace l i)) (1,0)=some (dep l (i+1) i,(n.kids.length:Int)):=by
 have hil:=(MG.1 hn).1;have hle:=h.le;have hdk:∀k,k∈n.kids->dep l i k.toNat=dep l (k.toNat+1) k.toNat:=λk hkm=>by have:=h.kids hn k hkm;exact aiV h _ _ _ (by omega) (by omega) (by omega)
 have hval:∀(j:Nat),(1:Int)+mx 0 ((n.kids.take j).map λk=>dep l i k.toNat)=mx 1 ((n.kids.take j).map λk=>1+dep l i k.toNat):=λj=>by have:=apW ((n.kids.take j).map λk=>dep l i k.toNat) 0;rw[List.map_map] at this;exact this.symm
 have hloop:=iV (b:=M.Dy (dF o l) (i:Int) (encI (ace l i))) (t:=(dep l (i+1) i,(n.kids.length:Int))) (λj=>(mx 1 ((n.kids.take j).map λk=>1+dep l i k.toNat),(j:Int))) n.kids.length
  (by
   intro j hj;obtain⟨k,hkj⟩:∃k,n.kids[j]? =some k:=⟨n.kids[j],by simp⟩
   have hkm:=Au hkj;have hkr:=h.kids hn k hkm;obtain⟨q,hq⟩:∃q:Nat,k=q:=⟨k.toNat,by omega⟩
   have hd:=hdk k hkm;have hr:=Yf l (q+1) q;subst hq;rw[Yq] at hd;simp only[M.Dy,M.xW,fQ,nN,hn,Qq,ah,Ef,dh,sH,hkj,KG,Yq,aiW l (show q<i by omega)];rw[zdt (by omega),cO,aJ (n:=(j:Int)+1) (by omega) (by omega),aJ (n:=1+dep l (q+1) q) (by omega) (by omega),List.take_add_one,hkj,Option.toList_some,List.map_append,Ug,List.map_nil,afB,Yq,hd];rfl)
  (by simp only[M.Dy,M.xW,fQ,nN,hn,Qq,ah,Ef,dh];rw[uw (by omega),dO,<-hval,List.take_length,dep,KY hn,Int.add_comm]) 0 (Nat.zero_le _)
 rw[M.CQ];exact hloop
def depth(l:List Nd):Int:=if Eo l then dep l l.length (l.length - 1) else 0
def Z8(l:List Nd)(o:Bool)(hl:l.length<=1048576)(hk:∀n,n∈l->n.kids.length<=1048576):M.xC (dF o l)=some (depth l):=by
 simp only[M.xC,M.Jt,Ri l o hl hk,ah,iE,depth];cases hs:Eo l with
 |false=>rfl
 |true=>
  obtain⟨r,h⟩:=afA hs;have h1:=h.pos;have h2:=h.le;have hloop:=iV (b:=M.Dz (dF o l)) (t:=((l.length:Int),encI (ace l l.length))) (λi=>((i:Int),encI (ace l i))) l.length
   (by
    intro i hi;obtain⟨n,hn⟩:∃n,l[i]? =some n:=⟨l[i],by simp⟩
    have hin:=aiX (o:=o) h hn (hk n (Au hn));simp only[jY,M.Dz,M.xX,iE,hin,ah,dh,apX,OJ];rw[zdt (by omega),cO,dP (by omega),cO,dP (by omega),cO,aJ (by omega) (by omega),amj];simp[encI])
   (by simp only[jY,M.Dz,M.xX,iE];rw[uw (by omega),dO]) 0 (Nat.zero_le _)
  have zh:M.Hg (dF o l) (0,[])=_:=hloop;rw[Bool.not_true,dO,zh,ah,aJ (by omega) (by omega),show(l.length:Int) - 1=((l.length - 1:Nat):Int) by omega,if_pos rfl];simp only[fQ,Yq,sH,aiW l (show l.length - 1<l.length by omega),Qq,ah,KG];rw[show l.length - 1+1=l.length by omega]
def Un(l:List Nd)(i:Nat):Nd:=match l[i]? with|some n=>n|none=>⟨0,0,[],[],[]⟩
def acf(n:Nd)(rows:au):Row:=[.int .i64 n.kind,.int .i64 n.op,.str n.text,.str n.other,.sl true 5 rows]
def Eb(l:List Nd):Nat->Nat->au
 |0,_=>[]
 |f+1,i=>(ab9 l i).map λk=>acf (Un l k.toNat) (Eb l f k.toNat)
def aes(h:Val l r)(hk:∀n,n∈l->n.kids.length<=400):∀(f i:Nat) (n:Nd),i<f->l[i]? =some n->M.jK f (dF o l) (i:Int)=some (n.kind,n.op,n.text,n.other,Eb l f i)
 |0,i,n,hf,_=>absurd hf (Nat.not_lt_zero _)
 |f+1,i,n,hf,hn=>by
  have hkn:=hk n (Au hn);have hil:=(MG.1 hn).1;have hkl:=h.kids hn;simp only[jY,M.jK,M.Dj,fQ,nN,hn,Qq,ah,Gf,G7,GL,G8,Ef,dh];have hrec:∀(j:Nat) k,n.kids[j]? =some k->M.jK f (dF o l) k=some ((Un l k.toNat).kind,(Un l k.toNat).op,(Un l k.toNat).text,(Un l k.toNat).other,Eb l f k.toNat):=by
   intro j k hj;have hkr:=hkl k (Au hj);obtain⟨q,hq⟩:∃q:Nat,k=q:=⟨k.toNat,by omega⟩
   subst hq;obtain⟨m,hm⟩:∃m,l[q]? =some m:=⟨l[q]'(by omega),by simp⟩
   have:=aes h hk f q m (by omega) hm;rw[this,Yq,Un,hm]
  have hloop:=iV (b:=M.lD (M.jK f))
   (t:=if n.kids=[] then .inl (dF o l,encI n.kids,(n.kids.length:Int),0,0,0,[],[],n.kind,n.op,n.text,n.other) else .inr (dF o l,encI n.kids,(n.kids.length:Int),(n.kids.length:Int),0,0,[],[],n.kind,n.op,n.text,n.other,Eb l (f+1) i))
   (λj=>if j=0 then .inl (dF o l,encI n.kids,(n.kids.length:Int),0,0,0,[],[],n.kind,n.op,n.text,n.other) else .inr (dF o l,encI n.kids,(n.kids.length:Int),(j:Int),0,0,[],[],n.kind,n.op,n.text,n.other,(n.kids.take j).map λk=>acf (Un l k.toNat) (Eb l f k.toNat))) n.kids.length
   (by
    intro j hj;obtain⟨k,hkj⟩:∃k,n.kids[j]? =some k:=⟨n.kids[j],by simp⟩
    have hr:=hrec j k hkj;have htk:(n.kids.take (j+1)).map (λk=>acf (Un l k.toNat) (Eb l f k.toNat))=(n.kids.take j).map (λk=>acf (Un l k.toNat) (Eb l f k.toNat))++[acf (Un l k.toNat) (Eb l f k.toNat)]:=by rw[List.take_add_one,hkj,Option.toList_some,List.map_append];rfl
    rw[if_neg (show¬j+1=0 by omega),htk]
    by_cases h0:j=0
    ·subst h0;rw[if_pos rfl];have aXS:idx (encI n.kids) 0=some [D.int .i64 k]:=by have:=fQ (encI n.kids) 0;rw[qP] at this;rw[this,sH,hkj];rfl
     simp only[jY,M.lD,M.lC,aXS,ah,KG,hr];rw[zdt (by omega),cO];rfl
    ·rw[if_neg h0];simp only[jY,M.lD,M.lC,fQ,sH,hkj,Qq,ah,KG,hr,List.length_map,PE,OJ];rw[zdt (by omega),cO,dP (by omega),cO,dP (by omega),cO,aJ (by omega) (by omega)];rfl)
   (by
    by_cases h0:n.kids.length=0
    ·have he:n.kids=[]:=List.length_eq_zero_iff.1 h0;rw[if_pos h0,if_pos he];simp only[jY,M.lD,M.lC];rw[uw (by omega),dO]
    ·have he:¬n.kids=[]:=λe=>h0 (by rw[e];rfl)
     rw[if_neg h0,if_neg he,List.take_length];simp only[jY,M.lD,M.lC];rw[uw (by omega),dO,Eb,KY hn]) 0 (Nat.zero_le _)
  rw[if_pos rfl] at hloop;rw[M.EF,hloop,ah]
  by_cases he:n.kids=[]
  ·rw[if_pos he,Eb,KY hn,he];rfl
  ·rw[if_neg he];rfl
def VN:∀rows:au,bM rows=rows.map sD
 |[]=>rfl
 |x::rows=>by rw[bM,VN rows,Ug]
def aiY(h:Val l r)(hk:∀n,n∈l->n.kids.length<=400):∀(f i:Nat) (n:Nd) (a b:Int) (c d:aC),i<f->f<=1000->l[i]? =some n->M.jR f a b c d (bM (Eb l f i))=some (dep l f i)
 |0,i,n,a,b,c,d,hf,_,_=>absurd hf (Nat.not_lt_zero _)
 |f+1,i,n,a,b,c,d,hf,hf2,hn=>by
  have hkn:=hk n (Au hn);have hil:=(MG.1 hn).1;have hkl:=h.kids hn;have hdr:=Yf l (f+1) i;have hlen:(bM (Eb l (f+1) i)).length=n.kids.length:=by rw[VN,Eb,KY hn];simp
  simp only[M.jR,M.yC,hlen];have hloop:=iV (b:=M.yB (M.jR f) (bM (Eb l (f+1) i)) (n.kids.length:Int)) (t:=(mx 0 (n.kids.map λk=>dep l f k.toNat),(n.kids.length:Int)))
   (λj=>(mx 0 ((n.kids.take j).map λk=>dep l f k.toNat),(j:Int))) n.kids.length
   (by
    intro j hj;obtain⟨k,hkj⟩:∃k,n.kids[j]? =some k:=⟨n.kids[j],by simp⟩
    have hkr:=hkl k (Au hkj);obtain⟨q,hq⟩:∃q:Nat,k=q:=⟨k.toNat,by omega⟩
    subst hq;obtain⟨m,hm⟩:∃m,l[q]? =some m:=⟨l[q]'(by omega),by simp⟩
    have hrow:(bM (Eb l (f+1) i))[j]? =some (sD (acf m (Eb l f q))):=by rw[VN,Eb,KY hn,List.getElem?_map,List.getElem?_map,hkj];simp only[Qq,Yq,Un,hm]
    have hrec:=aiY h hk f q m m.kind m.op m.text m.other (by omega) (by omega) hm;have k0:fB .i64 (sD (acf m (Eb l f q))) 0=some m.kind:=rfl;have k1:fB .i64 (sD (acf m (Eb l f q))) 1=some m.op:=rfl;have k2:cStr (sD (acf m (Eb l f q))) 2=some m.text:=rfl;have k3:cStr (sD (acf m (Eb l f q))) 3=some m.other:=rfl;have k4:TL 5 (sD (acf m (Eb l f q))) 4=some (bM (Eb l f q)):=rfl;simp only[jY,M.yB,M.sU,fQ,hrow,ah,k0,k1,k2,k3,k4,hrec];rw[zdt (by omega),cO,aJ (by omega) (by omega),List.take_add_one,hkj,Option.toList_some,List.map_append,Ug,List.map_nil,afB,Yq];rfl)
   (by simp only[jY,M.yB,M.sU];rw[uw (by omega),dO,List.take_length]) 0 (Nat.zero_le _)
  have zh:M.BN (M.jR f) (bM (Eb l (f+1) i)) (n.kids.length:Int) (0,0)=_:=hloop;rw[zh,ah];rw[dep,KY hn] at hdr⊢;rw[aJ (by omega) (by omega)]
end
def Rt{α:Type}(p:Nat->α->Bool):List α->Nat->Bool
 |[],_=>true
 |x::l,i=>p i x && Rt p l (i+1)
def Xl{α:Type}(l:List α)(p:Nat->α->Bool){b:Int->Option (Int⊕(Unit⊕Int))}
  (hb:∀(i:Nat) x,l[i]? =some x->b (i:Int)=some (bif p i x then .inl ((i:Int)+1) else .inr (.inl ()))) (he:b (l.length:Int)=some (.inr (.inr (l.length:Int)))):
  iT b 0=some (bif Rt p l 0 then .inr (l.length:Int) else .inl ()):=by
 have key:∀(t:List α) (i:Nat),l.drop i=t->i<=l.length->iT b (i:Int)=some (bif Rt p t i then .inr (l.length:Int) else .inl ()):=by
  intro t;induction t with
  |nil=>
   intro i hd hi;have:i=l.length:=by have:=congrArg List.length hd;simp at this;omega
   subst this;exact jq he
  |cons x t ih=>
   intro i hd hi;have hx:l[i]? =some x:=by
    have:(l.drop i)[0]? =some x:=by rw[hd];rfl
    simpa using this
   have hlt:i<l.length:=(MG.1 hx).1;have hd':l.drop (i+1)=t:=by rw[<-List.drop_drop,hd];rfl
   have hs:=hb i x hx;rw[Rt];cases hw:p i x with
   |true=>rw[hw,cO] at hs;rw[kQ hs,show(i:Int)+1=((i+1:Nat):Int) by omega,ih (i+1) hd' hlt,Bool.true_and]
   |false=>rw[hw,dO] at hs;rw[jq hs];rfl
 exact key l 0 rfl (Nat.zero_le _)
noncomputable def fOk(n:Nd):Bool:=(M.ay n.kind n.op n.text n.other (encI n.kids)).getD false
noncomputable def kOk(n:Nd)(j:Int)(d:Int):Bool:=(M.aF n.kind n.op n.text n.other (encI n.kids) j d).getD false
structure Small(n:Nd):Prop where
 text:n.text.length<=1048576
 other:n.other.length<=1048576
def afC{n:Nd}(hs:Small n)(hk:n.kids.length<=400):M.ay n.kind n.op n.text n.other (encI n.kids)=some (fOk n)∧M.bK n.kind n.op n.text n.other (encI n.kids)=some (fOk n):=by obtain⟨b,h1,h2⟩:=aiQ n.kind n.op n.text n.other (encI n.kids) hs.text hs.other (by rw[dh];exact hk);rw[fOk,h1];exact⟨rfl,h2⟩
def ajZ{n:Nd}(hs:Small n)(hk:n.kids.length<=400)(hf:fOk n=true)(j:Nat)(hj:j<n.kids.length)(d:Int):
  M.aF n.kind n.op n.text n.other (encI n.kids) (j:Int) d=some (kOk n j d)∧M.dw n.kind n.op n.text n.other (encI n.kids) (j:Int) d=some (kOk n j d):=by
 have hc:=afx (k:=n.kind) (op:=n.op) (t:=n.text) (o:=n.other) (kids:=encI n.kids) (by rw[(afC hs hk).1,hf]);obtain⟨b,h1,h2⟩:=awX n.kind n.op n.text n.other (encI n.kids) (j:Int) d (by omega) (by rw[dh];omega) (by rw[dh];exact hk) hc;rw[kOk,h1];exact⟨rfl,h2⟩
def ak4:∀(l:List Int),(∀x,x∈l->1<=x)->(l.length:Int)<=Ti l
 |[],_=>by simp[Ti]
 |x::l,h=>by
  have:=ak4 l λy hy=>h y (zmm _ hy)
  have:=h x zmf;simp only[mZ,Ti];omega
section
variable {l:List Nd} {r:List Int} {o:Bool}
def Val.Xm(h:Val l r){i:Nat}{n:Nd}(hn:l[i]? =some n):n.kids.length<=400:=by have hil:=(MG.1 hn).1;have h1:=h.sum hn;have h2:=ak4 (n.kids.map (sz r)) (λx hx=>by obtain⟨k,hk,rfl⟩:=List.mem_map.1 hx;exact(h.apV (h.kids hn k hk).1).1);rw[List.length_map] at h2;have h3:=(h.apV (k:=(i:Int)) (by omega)).2;have:=h.le;omega
def Val.acg(h:Val l r):∀n,n∈l->n.kids.length<=400:=λn hn=>by obtain⟨i,hi⟩:=List.mem_iff_getElem?.1 hn;exact h.Xm hi
noncomputable def kp(l:List Nd)(n:Nd)(j:Nat)(k:Int):Bool:=kOk n j (Un l k.toNat).kind
def ach(h:Val l r)(hsm:∀n,n∈l->Small n){i:Nat}{n:Nd}(hn:l[i]? =some n)(hf:fOk n=true)(v10:au)(v11 v12:Int):
  M.Eu (dF o l) (i:Int) 0=some (bif Rt (kp l n) n.kids 0 then .inr (n.kids.length:Int) else .inl ())∧
  M.EH (dF o l) v10 v11 v12 (encI n.kids) (n.kids.length:Int) n.kind n.op n.text n.other (encI n.kids) 0=some (bif Rt (kp l n) n.kids 0 then .inr (n.kids.length:Int) else .inl ()):=by
 have hkl:=h.Xm hn;have hs:=hsm n (Au hn);have step:∀(j:Nat) k,n.kids[j]? =some k->∃(q:Nat) (m:Nd),k=(q:Int)∧l[q]? =some m∧(Un l k.toNat).kind=m.kind:=by
  intro j k hj;have hkr:=h.kids hn k (Au hj);have hil:=(MG.1 hn).1;obtain⟨q,hq⟩:∃q:Nat,k=q:=⟨k.toNat,by omega⟩
  obtain⟨m,hm⟩:∃m,l[q]? =some m:=⟨l[q]'(by omega),by simp⟩
  refine⟨q,m,hq,hm, ?_⟩;rw[hq,Yq,Un,hm]
 constructor
 ·rw[M.Eu];refine Xl n.kids (kp l n) (λj k hj=> ?_) ?_
  ·obtain⟨q,m,hq,hm,he⟩:=step j k hj;have hjl:=(MG.1 hj).1;have hok:=(ajZ hs hkl hf j hjl m.kind).1;rw[kp,he];subst hq;simp only[jY,M.KR,M.zJ,fQ,nN,hn,hm,Qq,ah,Gf,G7,GL,G8,Ef,dh,sH,hj,KG,hok];rw[zdt (by omega),cO,aJ (by omega) (by omega)];cases kOk n j m.kind<;>rfl
  ·simp only[jY,M.KR,M.zJ,fQ,nN,hn,Qq,ah,Ef,dh];rw[uw (by omega),dO]
 ·rw[M.EH];refine Xl n.kids (kp l n) (λj k hj=> ?_) ?_
  ·obtain⟨q,m,hq,hm,he⟩:=step j k hj;have hjl:=(MG.1 hj).1;have hok:=(ajZ hs hkl hf j hjl m.kind).2;rw[kp,he];subst hq;simp only[M.KW,M.Aa,fQ,nN,hm,Qq,ah,Gf,sH,hj,KG,hok];rw[zdt (by omega),cO,aJ (by omega) (by omega)];cases kOk n j m.kind<;>rfl
  ·simp only[M.KW,M.Aa];rw[uw (by omega),dO]
noncomputable def np(l:List Nd)(_:Nat)(n:Nd):Bool:=fOk n && Rt (kp l n) n.kids 0
def Zc(h:Val l r)(hsm:∀n,n∈l->Small n):
  M.Ew (dF o l) 0=some (bif Rt (np l) l 0 then .inr (l.length:Int) else .inl ())∧
  M.EI (dF o l) (dF o l) (l.length:Int) 0=some (bif Rt (np l) l 0 then .inr (l.length:Int) else .inl ()):=by
 have hle:=h.le;constructor
 ·rw[M.Ew];refine Xl l (np l) (λi n hi=> ?_) ?_
  ·have hil:=(MG.1 hi).1;have hf:=(afC (hsm n (Au hi)) (h.Xm hi)).1;simp only[jY,M.KT,M.zK,iE,fQ,nN,hi,Qq,ah,Gf,G7,GL,G8,Ef,hf,np];rw[zdt (by omega),cO,aJ (by omega) (by omega)];cases hff:fOk n with
   |false=>rfl
   |true=>have:=(ach (o:=o) h hsm hi hff [] 0 0).1;rw[Bool.not_true,dO,this,ah];cases Rt (kp l n) n.kids 0<;>rfl
  ·simp only[jY,M.KT,M.zK,iE];rw[uw (by omega),dO]
 ·rw[M.EI];refine Xl l (np l) (λi n hi=> ?_) ?_
  ·have hil:=(MG.1 hi).1;have hf:=(afC (hsm n (Au hi)) (h.Xm hi)).2;simp only[jY,M.KX,M.Ac,fQ,nN,hi,Qq,ah,Gf,G7,GL,G8,Ef,hf,np,dh];rw[zdt (by omega),cO,aJ (by omega) (by omega)];cases hff:fOk n with
   |false=>rfl
   |true=>have:=(ach (o:=o) h hsm hi hff (dF o l) (l.length:Int) (i:Int)).2;rw[Bool.not_true,dO,this,ah];cases Rt (kp l n) n.kids 0<;>rfl
  ·simp only[jY,M.KX,M.Ac];rw[uw (by omega),dO]
end
noncomputable def QV(l:List Nd):Bool:=Eo l &&(decide (depth l<=40) && Rt (np l) l 0)
section
variable (l:List Nd) (o:Bool) (hl:l.length<=1048576) (hk:∀n,n∈l->n.kids.length<=1048576) (hsm:∀n,n∈l->Small n)
include hl hk hsm
theorem aci:M.AX (dF o l)=some (QV l):=by
 simp only[M.AX,M.LK,Ri l o hl hk,Z8 l o hl hk,ah,QV];cases hs:Eo l with
 |false=>rfl
 |true=>
  obtain⟨r,h⟩:=afA hs;rw[Bool.not_true,dO,(Zc (o:=o) h hsm).1,ah,Bool.true_and]
  by_cases hd:depth l<=40
  ·rw[uw (show¬depth l>40 by omega),dO,zdt hd,Bool.true_and];cases Rt (np l) l 0<;>rfl
  ·rw[zdt (show depth l>40 by omega),cO,uw hd];rfl
theorem acj:M.Bc (dF o l)=some (QV l):=by
 simp only[M.Bc,M.L6,Z7 l o hl hk,ah,QV,iE];cases hs:Eo l with
 |false=>rfl
 |true=>
  obtain⟨r,h⟩:=afA hs;have h1:=h.pos;have h2:=h.le;obtain⟨n,hn⟩:∃n,l[l.length - 1]? =some n:=⟨l[l.length - 1]'(by omega),by simp⟩
  have ht:=aes (o:=o) h h.acg l.length (l.length - 1) n (by omega) hn;have hd:=aiY h h.acg l.length (l.length - 1) n n.kind n.op n.text n.other (by omega) (by omega) hn;rw[Bool.not_true,dO,(Zc (o:=o) h hsm).2,ah,Bool.true_and];simp only[M.sQ,M.GR,iE];rw[aJ (by omega) (by omega),show(l.length:Int) - 1=((l.length - 1:Nat):Int) by omega,M.SC ht,ah,ah];simp only;rw[M.VH hd,ah,depth,if_pos hs];cases Rt (np l) l 0<;>simp[yS,letE]
end
def zl(k:Int):Nat->List Int
 |0=>[]
 |n+1=>k::zl (k+1) n
def F7(k:Int)(n:Nat):(zl k n).length=n:=by
 induction n generalizing k with
 |zero=>rfl
 |succ n ih=>simp[zl,ih]
def amk(k:Int)(n i:Nat)(h:i<n):(zl k n)[i]? =some (k+i):=by
 induction n generalizing k i with
 |zero=>omega
 |succ n ih=>
  cases i with
  |zero=>simp[zl]
  |succ i=>simp only[zl,List.getElem?_cons_succ];rw[ih (k+1) i (by omega)];congr 1;omega
def markT(k:Int)(l:List Int)(i:Nat):List Int:=zl k i++l.drop i
def aml{k:Int}{l:List Int}{i:Nat}(h:i<l.length):(markT k l i)[i]? =l[i]? :=by unfold markT;rw[List.getElem?_append_right (by simp[F7])];simp[F7]
def aj0(k:Int)(n:Nat):zl k (n+1)=zl k n++[k+n]:=by
 induction n generalizing k with
 |zero=>simp[zl]
 |succ n ih=>rw[zl,ih (k+1),zl];simp;omega
def amm{k:Int}{l:List Int}{i:Nat}(h:i<l.length):(markT k l i).set i (k+i)=markT k l (i+1):=by
 unfold markT;obtain⟨x,hx⟩:∃x,l[i]? =some x:=⟨l[i],by simp[h]⟩
 have hd:l.drop i=x::l.drop (i+1):=by rw[List.drop_eq_getElem_cons h];rw[List.getElem?_eq_getElem h] at hx;rw[Option.some.inj hx]
 rw[hd];have:=Py (zl k i) (l.drop (i+1)) x (k+i);rw[F7] at this;rw[this,aj0];simp
def Xn(k:Int)(l:List Int){i:Nat}(h:i<=l.length):(markT k l i).length=l.length:=by simp[markT,F7];omega
def Zd(k:Int)(l:List Int)(h0:0<=k)(h1:k<=1000000000)(hl:l.length<=1000000000):M.pz k (encI l)=some (k+l.length,encI (zl k l.length)):=by
 simp only[M.pz,M.Iy];have hloop:=iV (b:=M.BX) (t:=(k+l.length,(l.length:Int),encI (zl k l.length))) (λi=>(k+i,(i:Int),encI (markT k l i))) l.length
  (by
   intro i hi;obtain⟨x,hx⟩:∃x,l[i]? =some x:=⟨l[i],by simp[hi]⟩
   simp only[M.BX,M.wG,dh,Xn k l (Nat.le_of_lt hi),fQ,sH,aml hi,hx,Qq,ah,Yq];rw[zdt (by omega),cO,aJ (by omega) (by omega),aJ (by omega) (by omega)];have hs:splice [D.int IntKind.i64 x] 0 [D.int IntKind.i64 (k+i)]=[D.int IntKind.i64 (k+i)]:=rfl;rw[hs,anC,amm hi];congr 3;omega)
  (by simp only[M.BX,M.wG,dh,Xn k l (Nat.le_refl _)];rw[uw (by omega),dO];simp[markT]) 0 (Nat.zero_le _)
 simp only[qP,Int.add_zero,markT,zl,List.drop_zero,List.nil_append] at hloop;rw[M.FV,hloop,ah]
def aiZ(k:Int)(n:Nat)(h0:0<=k)(h1:k<=1000000000)(hl:n<=1000000000):M.vF (encI (zl k n)) k=some (k+n):=by
 simp only[M.vF,M.Iz];have hloop:=iV (b:=M.Cb (encI (zl k n))) (t:=.inr (k+n,(n:Int))) (λi=>(k+i,(i:Int))) n
  (by intro i hi;simp only[M.Cb,M.wH,dh,F7,fQ,sH,amk k n i hi,Qq,ah,KG,bne_self_eq_false,dO];rw[zdt (by omega),cO,aJ (by omega) (by omega),aJ (by omega) (by omega)];congr 3;omega)
  (by simp only[M.Cb,M.wH,dh,F7];rw[uw (by omega),dO]) 0 (Nat.zero_le _)
 simp only[qP,Int.add_zero] at hloop;rw[M.FX,hloop,ah];rfl
@[simp] theorem aeu(l:List Int):CG (encI l)=true:=by
 induction l with
 |nil=>rfl
 |cons x l ih=>simp only[encI,Ug] at ih⊢;simp[CG,dQ,D.pure,ih]
@[simp] theorem ayl(l:List Int):[[D.sl true 1 (encI l)]].all dQ=true:=by simp[dQ,D.pure]
def UQ:∀(m:Nat) (k:Int) (s:aC),0<=k->k.toNat<=m->s.length+k.toNat<=4000000000000000000->∃k' s',M.vJ (k,s)=some (k',s')∧s'.length<=4000000000000000000
 |m,k,s,h0,h1,hs=>by
  by_cases hk:0<k
  ·cases m with
   |zero=>omega
   |succ m=>
    have hd:k.tdiv 10=k / 10:=Int.tdiv_eq_ediv_of_nonneg h0;obtain⟨y,hy⟩:∃y,y=UInt8.ofNat (IntKind.u8.wrap (i64.wrap (48+k.tmod 10))).toNat:=⟨_,rfl⟩
    have hstep:M.BU (k,s)=some (.inl (k / 10,[y]++s)):=by
     simp only[M.BU,M.wF];rw[<-hy,zdt (show k>0 from hk),cO];have:([y].length+s.length).ble 9223372036854775807=true:=by apply Nat.ble_eq_true_of_le;simp;omega
     rw[this,cO,hd,aJ (by omega) (by omega)]
    obtain⟨k',s',h2,h3⟩:=UQ m (k / 10) ([y]++s) (by omega) (by omega) (by simp;omega);refine⟨k',s', ?_,h3⟩;rw[M.vJ,kQ hstep];exact h2
  ·refine⟨k,s, ?_,by omega⟩;rw[M.vJ];apply jq;simp only[M.BU,M.wF];rw[uw (show¬k>0 from hk),dO]
noncomputable def mk(k:Int):aC:=(M.kR k).getD []
def O9(k:Int)(h:k<=4000000000000000000):M.kR k=some (mk k):=by
 have:∃s,M.kR k=some s:=by
  simp only[M.kR,M.Iw]
  by_cases hk:k<=0
  ·rw[zdt hk];exact⟨_,rfl⟩
  ·rw[uw hk,dO];obtain⟨k',s',h2,h3⟩:=UQ k.toNat k [] (by omega) (Nat.le_refl _) (by simp;omega);rw[h2,ah];have:(1+s'.length).ble 9223372036854775807=true:=by apply Nat.ble_eq_true_of_le;omega
   rw[this];exact⟨_,rfl⟩
 obtain⟨s,hs⟩:=this;rw[mk,hs];rfl
def apY{α:Type}(a:List α)(x:α)(b:List α){i:Nat}(h:a.length=i):idx (a++x::b) (i:Int)=some x:=by rw[fQ,List.getElem?_append_right (by omega)];simp[h]
def apZ{α:Type}(a:List α)(x:α)(b:List α){i:Nat}(h:a.length=i):(a++x::b)[i]? =some x:=by rw[List.getElem?_append_right (by omega)];simp[h]
def at_set{α:Type}(a:List α)(x y:α)(b:List α){i:Nat}(h:a.length=i):(a++x::b).set i y=a++y::b:=by subst h;exact Py a b x y
def afD(o:Bool)(a b:List Nd):dF o (a++b)=dF o a++dF o b:=by simp[dF]
def awY(w:Bool):∀t:Tn,t.row w=[.int .i64 t.kind,.int .i64 t.op,.str t.text,.str t.other,.sl w 5 (fE w t.kids)]
 | .mk k o x y ks=>rfl
def afE(w:Bool)(a b:List Tn):fE w (a++b)=fE w a++fE w b:=by simp[Qb]
def gG(w:Bool)(a:List Tn):(fE w a).length=a.length:=by simp[Qb]
def jo{α:Type}{l:List α}{j:Nat}{t:α}(h:l[j]? =some t):l.take (j+1)=l.take j++[t]:=by rw[List.take_add_one,h];rfl
def ai0{α:Type}{l:List α}{j:Nat}{t:α}(h:l[j]? =some t):l=l.take j++t::l.drop (j+1):=by obtain⟨hj,rfl⟩:=MG.1 h;rw[<-List.drop_eq_getElem_cons hj,List.take_append_drop]
def OG{ks:List Tn}{j:Nat}{t:Tn}(h:ks[j]? =some t):sizes (ks.take j)+t.size<=sizes ks:=by have:=congrArg sizes (ai0 h);rw[nY,sizes] at this;omega
section
variable {l:List Nd} {b:Nat} {k op:Int} {x y:aC} {ks:List Tn}
def Lies.QW(h:Lies l b (.mk k op x y ks)){j:Nat}{t:Tn}(hj:ks[j]? =some t):Lies l (b+sizes (ks.take j)) t:=by have e:=ai0 hj;rw[e] at h;exact h.kid
def afF{j:Nat}{t:Tn}(hj:ks[j]? =some t):(ends ks b)[j]? =some ((b+sizes (ks.take j)+sizes t.kids:Nat):Int):=by have hlt:=(MG.1 hj).1;have hs:=t.wV;rw[anE hlt,jo hj,nY,sizes,sizes];congr 1;omega
def Lies.root'{t:Tn}(h:Lies l b t):l[b+sizes t.kids]? =some ⟨t.kind,t.op,t.text,t.other,ends t.kids b⟩:=by cases t;exact h.root
def aev{j:Nat}{t:Tn}(hj:ks[j]? =some t):ends (ks.take (j+1)) b=ends (ks.take j) b++[((b+sizes (ks.take j)+t.size:Nat):Int) - 1]:=by rw[jo hj,Sv,ends,ends];congr 2<;>omega
def acn{j:Nat}{t:Tn}(hj:ks[j]? =some t):lV (ks.take (j+1)) b=lV (ks.take j) b++t.flat (b+sizes (ks.take j)):=by rw[jo hj,Jo,lV,lV,List.append_nil]
def aj1{w:Bool}{j:Nat}{t:Tn}(hj:ks[j]? =some t):fE w (ks.take (j+1))=fE w (ks.take j)++[t.row w]:=by rw[jo hj,afE];rfl
def ends_range:∀(ks:List Tn) (b:Nat),∀e,e∈ends ks b->(b:Int)<=e∧e<b+sizes ks
 |[],b,e,h=>by simp[ends] at h
 |t::ts,b,e,h=>by
  have hp:=t.size_pos;rw[ends] at h;have hs:(sizes (t::ts):Int)=t.size+sizes ts:=by rw[sizes];omega
  rcases List.mem_cons.1 h with rfl|h
  ·omega
  ·have:=ends_range ts _ e h;omega
end
mutual
def aew:∀(t:Tn) (b:Nat),∀n,n∈t.flat b->n.kids.length<=t.size∧∀e,e∈n.kids->(0:Int)<=e∧e<b+t.size
 | .mk k o x y ks,b,n,h=>by
  rw[Tn.flat] at h;rw[Tn.size];rcases List.mem_append.1 h with h|h
  ·have:=aco ks b n h;exact⟨by omega,λe he=>by have:=this.2 e he;omega⟩
  ·simp only[List.mem_singleton] at h;subst h;refine⟨by simp only[gu];have:=lW ks;omega,λe he=> ?_⟩;have:=ends_range ks b e he;omega
def aco:∀(ks:List Tn) (b:Nat),∀n,n∈lV ks b->n.kids.length<=sizes ks∧∀e,e∈n.kids->(0:Int)<=e∧e<b+sizes ks
 |[],b,n,h=>by simp[lV] at h
 |t::ts,b,n,h=>by
  rw[lV] at h;rw[sizes];rcases List.mem_append.1 h with h|h
  ·have:=aew t b n h;exact⟨by omega,λe he=>by have:=this.2 e he;omega⟩
  ·have:=aco ts _ n h;exact⟨by omega,λe he=>by have:=this.2 e he;omega⟩
end
structure Ps where
 level:Int
 lQ:Bool
 qp:Bool
 qw:Bool
 kU:Bool
 deriving DecidableEq,Inhabited
def Ps.top:Ps:=⟨1,false,false,false,false⟩
def Ps.zero:Ps:=⟨0,false,false,false,false⟩
def wP(op:Int):Int:=bif op==44 then 3 else bif op==45 then 4 else bif op==67||op==46 then 6 else
 bif op==63||(op==48||(op==47||(op==50||(op==62||op==49)))) then 7 else bif op==99 then 8 else bif op==55||op==56 then 9 else
 bif op==57||(op==58||op==59) then 10 else bif op==60 then 12 else 0
def lvl(k op:Int):Int:=bif k==15 then 1 else bif k==14 then 2 else bif k==13 then 5 else bif k==12 then wP op else bif k==11 then 11 else
 bif k==9||k==10 then 13 else bif k==6 then 14 else bif k==1||(k==2||(k==3||(k==4||(k==5||(k==7||k==8))))) then 15 else 0
def l9(p:Ps):Bool:=(decide (1<=p.level) && decide (p.level<=15)) &&(!p.lQ||p.level==14)
def fits(k op:Int)(p:Ps):Bool:=bif !(l9 p)||lvl k op==0 then false else bif p.qp && k==13 then false else bif p.qw &&(k==12 && op==62) then false else
 bif p.kU &&(k==11||(k==9||k==4)) then false else(p.lQ && k==9)||decide (p.level<=lvl k op)
def sides(op:Int):Int×Int:=bif wP op==3 then(3,4) else bif wP op==4 then(4,5) else bif wP op==6 then(7,7) else bif wP op==7 then(8,8) else
 bif wP op==8 then(8,9) else bif wP op==9 then(9,10) else bif wP op==10 then(10,11) else(13,11)
def QX(k op:Int)(j:Nat):Int:=bif k==15 then(bif Nat.beq j 0 then 14 else 1) else bif k==14 then(bif Nat.beq j 0 then 3 else 2) else bif k==13 then 5 else bif k==11 then 11 else
 bif k==12 then(bif Nat.beq j 0 then(sides op).1 else(sides op).2) else 14
def eP(k op:Int)(n j:Nat)(p:Ps):Ps:=bif !(l9 p)||(!(Nat.blt j n)||lvl k op==0) then .zero else bif lvl k op==15||(k==13 && Nat.blt 1 n) then .top else
 ⟨QX k op j,k==6,p.qp,p.qw,bif k==11||(k==9||(k==10||k==6)) then false else(Nat.beq j 0 && p.kU)||(Nat.beq j 1 &&(k==12 && op==99))⟩
def oG(k:Int)(j:Nat):Bool:=Nat.beq j 0 &&(k==9||(k==10||k==15))
def tok(k:Int):Tk:=⟨k,spell k,0⟩
def Dq:Bool->List (List Tk)->List Tk
 |_,[]=>[]
 |b,x::l=>(bif b then x else tok 36::x)++Dq false l
def yN{α:Type}(L:List (List α))(j:Nat):List α:=(L[j]?).getD []
def Ee(k op:Int)(n:Nat)(x:aC)(L:List (List Tk)):List Tk:=
 bif k==1 then[⟨6,x,0⟩] else bif k==2 then[⟨3,x,0⟩] else bif k==3 then[⟨4,x,0⟩] else bif k==4 then[⟨5,x,0⟩] else
 bif k==5 then⟨6,x,0⟩::tok 34::(Dq true L++[tok 35]) else bif k==7 then⟨7,x,0⟩::tok 32::(Dq true L++[tok 33]) else bif k==8 then⟨8,x,0⟩::tok 32::(Dq true L++[tok 33]) else
 bif k==9||k==11 then tok op::yN L 0 else bif k==6 then tok 68::yN L 0 else bif k==10 then yN L 0++[tok op] else
 bif k==13 then(bif Nat.blt 1 n then tok 32::(Dq true L++[tok 33]) else yN L 0)++[tok 24,⟨6,x,0⟩] else
 bif k==14 then yN L 0++(tok 65::(yN L 1++(tok 66::yN L 2))) else yN L 0++((bif op==99 then[] else[tok op])++yN L 1)
mutual
def tX:Tn->Ps->List Tk
 | .mk k op x _ ks,p=>Ee k op ks.length x (jF k op ks.length p ks 0)
def jF(k op:Int)(n:Nat)(p:Ps):List Tn->Nat->List (List Tk)
 |[],_=>[]
 |t::ts,j=>(bif oG k j||fits t.kind t.op (eP k op n j p) then tX t (eP k op n j p) else tok 32::(tX t .top++[tok 33]))::jF k op n p ts (j+1)
end
def UR(t:Tn)(p:Ps):List Tk:=bif fits t.kind t.op p then tX t p else tok 32::(tX t .top++[tok 33])
def lI(s:aC):Tn:=.mk 1 0 s [] []
def Rj:Tn:=.mk 2 0 [] [] []
def OH:Tn:=.mk 3 0 [] [] []
def UU(d:Tn):Tn:=.mk 4 4 [] [] [d]
def amn(d:Tn):Tn:=.mk 5 0 [] [] [d]
def nV(l:List Tn):Tn:=.mk 6 0 [] [] l
def OL:Bool->List Tn->List Tn
 |_,[]=>[]
 |b,x::l=>(bif b then[x] else[lI [44],Rj,x])++OL false l
def acp(L:List Tn):Tn:=amn (UU (nV (OL true L)))
def wQ(L:List Tn)(j:Nat):Tn:=(L[j]?).getD (lI [])
def acr(s:aC):List (aC)->Nat->Nat
 |[],m=>m
 |g::l,m=>acr s l (bif Nat.blt m g.length && g.isPrefixOf s then g.length else m)
def lastB(s:aC):Int:=match s.getLast? with|some c=>(c.toNat:Int)|none=> -1
def aj2(s:aC):Int:=match s with|c::_=>(c.toNat:Int)|[]=> -1
def EL(a b:Tk):Bool:=
 bif a.text==[]||(b.text==[]||(a.kind==2||(a.kind==1||b.kind==1))) then false else
 bif isW (lastB a.text) && isW (aj2 b.text) then true else
 bif a.kind==3 &&(isW (aj2 b.text)||aj2 b.text==46) then true else
 bif a.kind==6 && b.kind==32 then true else
 bif !(decide (30<=a.kind) && decide (a.kind<=68)) then false else Nat.blt a.text.length (acr (a.text++b.text) Qj 0)
def VO(k op:Int)(n:Nat)(x:aC)(gap:Bool)(L:List Tn):Tn:=
 bif k==1||(k==2||(k==3||k==4)) then lI x else bif k==5 then nV [lI (x++[91]),acp L,lI [93]] else
 bif k==7||k==8 then nV [lI (x++[40]),acp L,lI [41]] else bif k==9 then nV [lI (spell op),wQ L 0] else bif k==10 then nV [wQ L 0,lI (spell op)] else
 bif k==6 then nV [lI [36],wQ L 0] else bif k==11 then nV [lI (bif gap then spell op++[32] else spell op),wQ L 0] else
 bif k==14 then nV [wQ L 0,lI [32,63,32],wQ L 1,lI [32,58,32],wQ L 2] else
 bif k==13 then(bif Nat.blt 1 n then nV [lI [40],acp L,lI ([41,32,105,110,32]++x)] else nV [wQ L 0,lI ([32,105,110,32]++x)]) else
 bif k==12 && op==99 then nV [wQ L 0,lI [32],wQ L 1] else
 bif k==12 &&(op==45||op==44) then amn (UU (nV [wQ L 0,lI (32::spell op),Rj,wQ L 1])) else
 nV [wQ L 0,lI ((32::spell op)++[32]),wQ L 1]
def aex(op:Int)(L:List (List Tk)):Bool:=match L with
 |(b::_)::_=>EL (tok op) b
 |_=>false
mutual
def qL:Tn->Ps->Tn
 | .mk k op x _ ks,p=>VO k op ks.length x (aex op (jF k op ks.length p ks 0)) (rF k op ks.length p ks 0)
def rF(k op:Int)(n:Nat)(p:Ps):List Tn->Nat->List Tn
 |[],_=>[]
 |t::ts,j=>(bif oG k j||fits t.kind t.op (eP k op n j p) then qL t (eP k op n j p) else nV [lI [40],qL t .top,lI [41]])::rF k op n p ts (j+1)
end
def Ap(t:Tn)(p:Ps):Tn:=bif fits t.kind t.op p then qL t p else nV [lI [40],qL t .top,lI [41]]
def Je(t:Tn):Tn:=Ap t .top
def OM(t:Tn):Tn:=bif t.kind==16 then lI [] else nV [lI [32],Je t]
def Dt:List Tn->List Tn
 |[]=>[]
 |d::l=>OH::d::Dt l
def aj3(L:List Tn):Tn:=nV [lI [123],UU (nV (Dt L)),OH,lI [125]]
def Cj(L:List Tn)(j:Nat):Tn:=(L[j]?).getD (.mk 0 0 [] [] [])
def MQ(p:Ps)(L:List Tn):Tn:=acp (L.map λt=>Ap t p)
def aj6(op:Int)(y:aC)(ks:List Tn):Tn:=
 let args:=bif y==[] then ks else ks.take (ks.length - 1)
 nV ([lI (bif op==0 then[112,114,105,110,116] else[112,114,105,110,116,102])]++
  ((bif Nat.blt 0 args.length then[lI [32],MQ ⟨1,false,false,true,false⟩ args] else[])++
   (bif y==[] then[] else[lI (([32]++y)++[32]),(Ap (Cj ks (ks.length - 1))) ⟨9,false,false,false,false⟩])))
def acs(w:aC)(ks:List Tn):Tn:=match ks with
 |[]=>lI w
 |t::_=>nV [lI w,OM t]
def adu(k op:Int)(x y:aC)(ks L:List Tn):Tn:=
 bif k==20 then Je (Cj ks 0) else bif k==21 then aj6 op y ks else bif k==22 then lI [110,101,120,116] else bif k==25 then lI [98,114,101,97,107] else bif k==26 then lI [99,111,110,116,105,110,117,101] else
 bif k==23 then acs [101,120,105,116] ks else bif k==24 then acs [114,101,116,117,114,110] ks else
 bif k==27 then(match ks with
  |[]=>lI ([100,101,108,101,116,101,32]++x)
  |_::_=>nV [lI (([100,101,108,101,116,101,32]++x)++[91]),MQ .top ks,lI [93]]) else
 bif k==28 then(let d:=nV [lI [105,102,32,40],Je (Cj ks 0),lI [41,32],wQ L 1];bif Nat.blt 2 ks.length then nV [d,lI [32,101,108,115,101,32],wQ L 2] else d) else
 bif k==29 then nV [lI [119,104,105,108,101,32,40],Je (Cj ks 0),lI [41,32],wQ L 1] else
 bif k==30 then nV [lI [100,111,32],wQ L 0,lI [32,119,104,105,108,101,32,40],Je (Cj ks 1),lI [41]] else
 bif k==31 then nV [lI [102,111,114,32,40],(bif(Cj ks 0).kind==16 then lI [] else(Ap (Cj ks 0)) ⟨1,false,true,false,false⟩),lI [59],OM (Cj ks 1),lI [59],OM (Cj ks 2),lI [41,32],wQ L 3] else
 bif k==32 then nV [lI (((([102,111,114,32,40]++x)++[32,105,110,32])++y)++[41,32]),wQ L 0] else
 bif k==33 then aj3 L else lI x
mutual
def jd:Tn->Tn
 | .mk k op x y ks=>adu k op x y ks (nX ks)
def nX:List Tn->List Tn
 |[]=>[]
 |t::ts=>(jd t)::nX ts
end
def EM:List Tn->Bool->List Tn
 |[],_=>[]
 |t::ts,b=>(bif t.kind==33 then(bif b then[(jd t)] else[lI [32],(jd t)]) else(bif b then[Je t] else[lI [44,32],Je t]))++EM ts false
def EN:List (aC)->Bool->aC
 |[],_=>[]
 |x::l,b=>(bif b then x else[44,32]++x)++EN l false
def Rk(x:aC)(ks:List Tn):aC:=(([102,117,110,99,116,105,111,110,32]++x)++[40])++(EN ((ks.take (ks.length - 1)).map Tn.text) true++[41])
def itemD(t:Tn):Tn:=
 bif t.kind==40 then nV [lI [66,69,71,73,78,32],(jd (Cj t.kids 0))] else bif t.kind==41 then nV [lI [69,78,68,32],(jd (Cj t.kids 0))] else
 bif t.kind==42||t.kind==43 then nV (EM t.kids true) else bif t.kind==44 then nV [lI (Rk t.text t.kids++[32]),(jd (Cj t.kids (t.kids.length - 1)))] else(jd t)
def EO:List Tn->List Tn
 |[]=>[]
 |t::ts=>(itemD t)::OH::EO ts
def Rl(t:Tn):Tn:=nV (EO t.kids)
structure Cnt(k op:Int)(y:aC)(n:Nat):Prop where
 one:k=6∨k=9∨k=10∨k=11∨k=20∨k=32∨k=40∨k=41->n=1
 two:k=12∨k=15∨k=29∨k=30->n=2
 some_:k=5∨k=13∨k=44->1<=n
 three:k=14->n=3
 four:k=31->n=4
 cnd:k=28->n=2∨n=3
 prn:k=21->(op=0∨op=1)∧(y≠[]->1<=n)
 wrd:k=23∨k=24->n<=1
 non:k=1∨k=2∨k=3∨k=4∨k=16∨k=22∨k=25∨k=26∨k=34->n=0
 rule:k=42->(op=1∧n=1)∨(op=2∧n=1)∨(op=3∧n=2)
 range:k=43->(op=1∧n=2)∨(op=3∧n=3)
 few:k≠33->k≠45->n<=7
 bin:k=12->wP op≠0∧op≠61
 asg:k=15->op=54∨(38<=op∧op<=43)
 stp:k=9∨k=10->op=51∨op=52
 una:k=11->op=55∨op=56∨op=61
def cls(k op:Int)(n j:Nat):Nat:=
 if k=9∨k=10∨(k=15∧j=0) then 6 else if k=28∨k=29 then(if j=0 then 0 else 1) else if k=30 then(if j=0 then 1 else 0) else
 if k=31 then(if j<3 then 3 else 1) else if k=32∨k=40∨k=41 then 1 else if k=33 then 2 else if k=42 then(if op=2∨(op=3∧j+1=n) then 1 else 0) else
 if k=43 then(if j=2 then 1 else 0) else if k=44 then(if j+1=n then 1 else 4) else if k=45 then 5 else 0
def iZ(c:Nat)(d:Int):Prop:=match c with
 |0=>1<=d∧d<=15
 |1=>d=33
 |2=>20<=d∧d<=34
 |3=>d=16∨(1<=d∧d<=15)
 |4=>d=1
 |5=>(40<=d∧d<=44)∨d=34
 |_=>d=1∨d=5∨d=6
def Yg(k:Int):Prop:=(1<=k∧k<=16)∨(20<=k∧k<=34)∨(40<=k∧k<=45)
mutual
def CJ:Tn->Prop
 | .mk k op x y ks=>Yg k∧Cnt k op y ks.length∧oks k op ks.length ks 0
def oks(k op:Int)(n:Nat):List Tn->Nat->Prop
 |[],_=>True
 |t::ts,j=>iZ (cls k op n j) t.kind∧(CJ t)∧oks k op n ts (j+1)
end
def ak5{k op:Int}{n:Nat}:∀{ks:List Tn} {j i:Nat} {t:Tn},oks k op n ks j->ks[i]? =some t->iZ (cls k op n (j+i)) t.kind∧(CJ t)
 |[],_,i,_,_,h=>by simp at h
 |u::ts,j,0,t,h,e=>by rw[oks] at h;cases e;exact⟨h.1,h.2.1⟩
 |u::ts,j,i+1,t,h,e=>by rw[oks] at h;rw[List.getElem?_cons_succ] at e;have:=ak5 h.2.2 e;rw[show j+1+i=j+(i+1) by omega] at this;exact this
def IV{k op:Int}{x y:aC}{ks:List Tn}(h:(CJ (Tn.mk k op x y ks))){i:Nat}{t:Tn}(e:ks[i]? =some t):iZ (cls k op ks.length i) t.kind∧(CJ t):=by
 rw[CJ] at h;have:=ak5 h.2.2 e
 rwa [Nat.zero_add] at this
def KZ{k op:Int}{x y:aC}{ks:List Tn}(h:(CJ (Tn.mk k op x y ks))):Cnt k op y ks.length:=by rw[CJ] at h;exact h.2.1
def Rw(t:Tn):Prop:=1<=t.kind∧t.kind<=15
def Xo{k op:Int}{x y:aC}{ks:List Tn}(h:(CJ (Tn.mk k op x y ks)))(he:1<=k∧k<=15){i:Nat}{t:Tn}(e:ks[i]? =some t):(Rw t)∧(CJ t):=by
 obtain⟨h1,h2⟩:=IV h e;refine⟨?_,h2⟩;unfold Rw;have:cls k op ks.length i=6∨cls k op ks.length i=0:=by
  unfold cls;split
  ·exact .inl rfl
  ·repeat(rw[if_neg (by omega)])
   exact .inr rfl
 rcases this with h|h<;>rw[h] at h1<;>simp only[iZ] at h1<;>omega
def Gy{a b lo hi:Int}(c:Bool)(ha:lo<=a∧a<=hi)(hb:lo<=b∧b<=hi):lo<=(bif c then a else b)∧(bif c then a else b)<=hi:=by cases c<;>assumption
def acu(op:Int):0<=wP op∧wP op<=12:=by unfold wP;exact Gy _ ⟨by decide,by decide⟩ (Gy _ ⟨by decide,by decide⟩ (Gy _ ⟨by decide,by decide⟩ (Gy _ ⟨by decide,by decide⟩ (Gy _ ⟨by decide,by decide⟩ (Gy _ ⟨by decide,by decide⟩ (Gy _ ⟨by decide,by decide⟩ (Gy _ ⟨by decide,by decide⟩ ⟨by decide,by decide⟩)))))))
def Pg{k op:Int}{y:aC}{n:Nat}(he:1<=k∧k<=15)(hc:Cnt k op y n):1<=lvl k op∧lvl k op<=15:=by
 obtain⟨h1,h2⟩:=he;have hk:k=1∨k=2∨k=3∨k=4∨k=5∨k=6∨k=7∨k=8∨k=9∨k=10∨k=11∨k=13∨k=14∨k=15∨k=12:=by omega
 rcases hk with rfl|rfl|rfl|rfl|rfl|rfl|rfl|rfl|rfl|rfl|rfl|rfl|rfl|rfl|rfl
 case inr.inr.inr.inr.inr.inr.inr.inr.inr.inr.inr.inr.inr.inr=>have hb:=(hc.bin rfl).1;have:=acu op;change 1<=wP op∧wP op<=15;omega
 all_goals simp[lvl]
def gV(s:aC):(lI s).size=1:=by simp[lI,Tn.size,sizes]
def Tj:Rj.size=1:=by simp[Rj,Tn.size,sizes]
def Xp:OH.size=1:=by simp[OH,Tn.size,sizes]
def Ql(d:Tn):(UU d).size=d.size+1:=by simp[UU,Tn.size,sizes]
def ak6(d:Tn):(amn d).size=d.size+1:=by simp[amn,Tn.size,sizes]
def nM(l:List Tn):(nV l).size=sizes l+1:=by simp[nV,Tn.size]
def Yh:∀(L:List Tn) (b:Bool),sizes (OL b L)<=sizes L+2 * L.length
 |[],b=>by rw[OL];simp[sizes]
 |x::l,b=>by have:=Yh l false;cases b<;>simp only[OL,cO,dO,nY,sizes,gV,Tj,mZ]<;>omega
def acv(L:List Tn):(acp L).size<=sizes L+2 * L.length+3:=by have:=Yh L true;rw[acp,ak6,Ql,nM];omega
def aey:∀(L:List Tn) (j:Nat),(wQ L j).size<=sizes L+1
 |[],j=>by simp[wQ,sizes,gV]
 |x::l,0=>by simp only[wQ,List.getElem?_cons_zero,Option.getD_some,sizes];omega
 |x::l,j+1=>by have:=aey l j;simp only[wQ,List.getElem?_cons_succ,sizes] at this⊢;omega
def aj7:∀(L:List Tn),(wQ L 0).size+((wQ L 1).size+(wQ L 2).size)<=sizes L+3
 |[]=>by simp[wQ,sizes,gV]
 |[x]=>by simp[wQ,sizes,gV]
 |[x,y]=>by simp[wQ,sizes,gV];omega
 |x::y::z::l=>by simp[wQ,sizes];omega
def yO{a b:Tn}{N:Nat}(c:Bool)(ha:a.size<=N)(hb:b.size<=N):(bif c then a else b).size<=N:=by cases c<;>assumption
def amo(k op:Int)(n:Nat)(x:aC)(g:Bool)(L:List Tn):(VO k op n x g L).size<=sizes L+2 * L.length+9:=by
 have h1:=acv L;have h2:=aey L 0;have h3:=aj7 L;unfold VO;refine yO _ ?_ (yO _ ?_ (yO _ ?_ (yO _ ?_ (yO _ ?_ (yO _ ?_ (yO _ ?_ (yO _ ?_ (yO _ (yO _ ?_ ?_) (yO _ ?_ (yO _ ?_ ?_))))))))))
 all_goals(simp only[gV,nM,ak6,Ql,Tj,sizes]<;>omega)
def Xq(k op:Int)(n:Nat)(p:Ps):∀(ts:List Tn) (j:Nat),(rF k op n p ts j).length=ts.length
 |[],j=>by simp[rF]
 |t::ts,j=>by rw[rF,mZ,Xq k op n p ts (j+1),mZ]
def Ku(k op:Int)(n:Nat)(p:Ps)(j:Nat)(u:Tn):Tn:=bif oG k j||fits u.kind u.op (eP k op n j p) then qL u (eP k op n j p) else nV [lI [40],qL u .top,lI [41]]
def acw(a:Tn):(nV [lI [40],a,lI [41]]).size=a.size+3:=by simp only[nM,gV,sizes];omega
def aez{k op:Int}{n:Nat}{p:Ps}{j:Nat}{u:Tn}(h:∀q,(qL u q).size+6<=16 * u.size):(Ku k op n p j u).size+3<=16 * u.size:=by
 unfold Ku;cases(oG k j||fits u.kind u.op (eP k op n j p)) with
 |true=>have:=h (eP k op n j p);rw[cO];omega
 |false=>have:=h .top;rw[dO,acw];omega
def acy{k op:Int}{n:Nat}{p:Ps}:∀{ts:List Tn} {j:Nat},(∀u,u∈ts->∀q,(qL u q).size+6<=16 * u.size)->sizes (rF k op n p ts j)+3 * ts.length<=16 * sizes ts
 |[],j,_=>by rw[rF];simp[sizes]
 |t::ts,j,h=>by
  have h1:=aez (k:=k) (op:=op) (n:=n) (p:=p) (j:=j) (h t zmf);have h2:=acy (k:=k) (op:=op) (n:=n) (p:=p) (ts:=ts) (j:=j+1) λu hu=>h u (zmm _ hu)
  unfold Ku at h1;rw[rF,sizes,sizes,mZ];omega
def IW(t:Tn):∀q,(qL t q).size+6<=16 * t.size:=by refine Tn.ind (P:=λt=>∀q,(qL t q).size+6<=16 * t.size) ?_ t;intro k op x y ks ih q;have h1:=amo k op ks.length x (aex op (jF k op ks.length q ks 0)) (rF k op ks.length q ks 0);have h2:=acy (k:=k) (op:=op) (n:=ks.length) (p:=q) (ts:=ks) (j:=0) ih;rw[Xq] at h1;rw[qL,Tn.size];omega
def mG(t:Tn)(q:Ps):(Ap t q).size+3<=16 * t.size:=by
 have h1:=IW t q;have h2:=IW t .top;unfold Ap;cases fits t.kind t.op q with
 |true=>rw[cO];omega
 |false=>rw[dO,acw];omega
def Yi:∀(L:List Tn) (j:Nat),(Cj L j).size<=sizes L+1
 |[],j=>by simp[Cj,sizes,Tn.size]
 |x::l,0=>by simp[Cj,sizes];omega
 |x::l,j+1=>by have:=Yi l j;simp only[Cj,List.getElem?_cons_succ,sizes] at this⊢;omega
def NY(t:Tn):(OM t).size<=16 * t.size:=by
 have h:=mG t .top;have hp:=t.size_pos;unfold OM Je;refine yO _ ?_ ?_
 ·rw[gV];omega
 ·rw[nM];simp only[sizes,gV];omega
def IX(p:Ps)(L:List Tn):(MQ p L).size<=16 * sizes L+3:=by
 have h:∀L:List Tn,sizes (L.map λt=>Ap t p)+3 * L.length<=16 * sizes L:=by
  intro L;induction L with
  |nil=>simp[sizes]
  |cons t l ih=>have:=mG t p;simp only[Ug,sizes,mZ];omega
 have h1:=acv (L.map λt=>Ap t p);have h2:=h L;rw[List.length_map] at h1;unfold MQ;omega
def Tq:∀L:List Tn,sizes (Dt L)=sizes L+L.length
 |[]=>rfl
 |d::l=>by have:=Tq l;simp only[Dt,sizes,Xp,mZ];omega
def amq(L:List Tn):(aj3 L).size=sizes L+L.length+6:=by have:=Tq L;simp only[aj3,nM,Ql,sizes,gV,Xp];omega
def take_size:∀(ks:List Tn) (n:Nat),sizes (ks.take n)<=sizes ks
 |[],n=>by simp[sizes]
 |t::ts,0=>by simp[sizes]
 |t::ts,n+1=>by have:=take_size ts n;simp only[List.take_succ_cons,sizes];omega
def isS(t:Tn):Prop:=20<=t.kind∧t.kind<=34
def VP:∀{ks:List Tn},(∀u,u∈ks->(jd u).size+2<=40 * u.size)->sizes (nX ks)+2 * ks.length<=40 * sizes ks
 |[],_=>by simp[nX,sizes]
 |t::ts,h=>by
  have h1:=h t zmf;have h2:=VP (ks:=ts) λu hu=>h u (zmm _ hu)
  rw[nX,sizes,sizes,mZ];omega
def Kv:∀ks:List Tn,(nX ks).length=ks.length
 |[]=>rfl
 |t::ts=>by rw[nX,mZ,Kv ts,mZ]
def amr(op:Int)(y:aC)(ks:List Tn):(aj6 op y ks).size<=32 * sizes ks+27:=by
 have h1:=IX ⟨1,false,false,true,false⟩ (bif y==[] then ks else ks.take (ks.length - 1));have h2:sizes (bif y==[] then ks else ks.take (ks.length - 1))<=sizes ks:=by
  cases(y==[]) with
  |true=>exact Nat.le_refl _
  |false=>exact take_size _ _
 have h3:=mG (Cj ks (ks.length - 1)) ⟨9,false,false,false,false⟩;have h4:=Yi ks (ks.length - 1);unfold aj6;generalize (bif y==[] then ks else ks.take (ks.length - 1))=args at *;simp only[nM,nY,sizes,gV];cases Nat.blt 0 args.length<;>cases(y==[])<;>simp only[cO,dO,sizes,gV]<;>omega
def acz(w:aC)(ks:List Tn):(acs w ks).size<=16 * sizes ks+2:=by
 cases ks with
 |nil=>simp[acs,gV]
 |cons t l=>have:=NY t;simp only[acs,nM,sizes,gV];omega
def afG{α:Type}{l:List α}(h:l.length=4):∃a b c d,l=[a,b,c,d]:=by
 match l,h with
 |[a,b,c,d],_=>exact⟨a,b,c,d,rfl⟩
def afH{α:Type}{l:List α}(h:l.length=2):∃a b,l=[a,b]:=by
 match l,h with
 |[a,b],_=>exact⟨a,b,rfl⟩
def ams{α:Type}{l:List α}(h:l.length=3):∃a b c,l=[a,b,c]:=by
 match l,h with
 |[a,b,c],_=>exact⟨a,b,c,rfl⟩
def ak7{k op:Int}{x y:aC}{ks:List Tn}(h:CJ (Tn.mk k op x y ks)){i:Nat}{t:Tn}(e:ks[i]? =some t)(hc:cls k op ks.length i=1∨cls k op ks.length i=2):isS t∧CJ t:=by obtain⟨h1,h2⟩:=IV h e;refine⟨?_,h2⟩;unfold isS;rcases hc with hc|hc<;>rw[hc] at h1<;>simp only[iZ] at h1<;>omega
def QY(t:Tn):CJ t->isS t->(jd t).size+2<=40 * t.size:=by
 refine Tn.ind (P:=λt=>CJ t->isS t->(jd t).size+2<=40 * t.size) ?_ t;intro k op x y ks ih hok hs;have hc:=KZ hok;simp only[isS,Tn.kind] at hs;have ihk:∀{i:Nat} {u:Tn},ks[i]? =some u->(cls k op ks.length i=1∨cls k op ks.length i=2)->(jd u).size+2<=40 * u.size:=by intro i u e hcl;obtain⟨h1,h2⟩:=ak7 hok e hcl;exact ih u (Au e) h2 h1
 rw[jd,Tn.size];have hk:k=20∨k=21∨k=22∨k=23∨k=24∨k=25∨k=26∨k=27∨k=28∨k=29∨k=30∨k=31∨k=32∨k=33∨k=34:=by omega
 rcases hk with rfl|rfl|rfl|rfl|rfl|rfl|rfl|rfl|rfl|rfl|rfl|rfl|rfl|rfl|rfl<;>simp only[adu,Int.reduceBEq,cO,dO]
 ·have h1:=mG (Cj ks 0) .top;have h2:=Yi ks 0;unfold Je;omega
 ·have:=amr op y ks;omega
 ·rw[gV];omega
 ·have:=acz [101,120,105,116] ks;omega
 ·have:=acz [114,101,116,117,114,110] ks;omega
 ·rw[gV];omega
 ·rw[gV];omega
 ·cases ks with
  |nil=>rw[gV];omega
  |cons u l=>have:=IX .top (u::l);simp only[nM,gV,sizes] at this⊢;omega
 ·rcases hc.cnd rfl with h2|h3
  ·obtain⟨u,v,rfl⟩:=afH h2;have a0:=mG u .top;have a1:=ihk (i:=1) (u:=v) rfl (by simp[cls]);simp[wQ,Cj,nX,Je,nM,gV,sizes,show Nat.blt 2 2=false from rfl] at *;omega
  ·obtain⟨u,v,z,rfl⟩:=ams h3;have a0:=mG u .top;have a1:=ihk (i:=1) (u:=v) rfl (by simp[cls]);have a2:=ihk (i:=2) (u:=z) rfl (by simp[cls]);simp[wQ,Cj,nX,Je,nM,gV,sizes,show Nat.blt 2 3=true from rfl] at *;omega
 ·obtain⟨u,v,rfl⟩:=afH (hc.two (by omega));have a0:=mG u .top;have a1:=ihk (i:=1) (u:=v) rfl (by simp[cls]);simp[wQ,Cj,nX,Je,nM,gV,sizes] at *;omega
 ·obtain⟨u,v,rfl⟩:=afH (hc.two (by omega));have a0:=mG v .top;have a1:=ihk (i:=0) (u:=u) rfl (by simp[cls]);simp[wQ,Cj,nX,Je,nM,gV,sizes] at *;omega
 ·obtain⟨u,v,z,q,rfl⟩:=afG (hc.four rfl);have a0:=mG u ⟨1,false,true,false,false⟩;have a1:=NY v;have a2:=NY z;have a3:=ihk (i:=3) (u:=q) rfl (by simp[cls]);have a4:(bif u.kind==16 then lI [] else(Ap u) ⟨1,false,true,false,false⟩).size<=16 * u.size:=by
   refine yO _ ?_ ?_
   ·have:=u.size_pos;rw[gV];omega
   ·omega
  simp[wQ,Cj,nX,nM,gV,sizes] at *;omega
 ·obtain⟨u,rfl⟩:=Xx.1 (hc.one (by omega));have a1:=ihk (i:=0) (u:=u) rfl (by simp[cls]);simp[wQ,Cj,nX,nM,gV,sizes] at *;omega
 ·have h1:=amq (nX ks);have h2:=VP (ks:=ks) λu hu=>by obtain⟨i,hi⟩:=List.mem_iff_getElem?.1 hu;exact ihk hi (by simp[cls])
  rw[Kv] at h1;omega
 ·rw[gV];omega
end Go.Proofs.YtbpldgeajbfgnaaGreatDoor
