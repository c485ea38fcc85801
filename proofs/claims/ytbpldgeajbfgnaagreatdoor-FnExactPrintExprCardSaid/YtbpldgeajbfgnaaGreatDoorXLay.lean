import Derived.Test.YtbpldgeajbfgnaaGreatDoorZFields
import Derived.Test.YtbpldgeajbfgnaaGreatDoorVm4
set_option linter.defProp false
namespace Go.Proofs.YtbpldgeajbfgnaaGreatDoor
set_option linter.unusedVariables false
set_option linter.unusedSimpArgs false
set_option linter.unusedSectionVars false
open Go Go.Vm
open Go.IntKind (i64)
structure Cons(k op:Int)(n:Nat):Prop where
 two:k=29∨k=30->n=2
 four:k=31->n=4
 rule:k=42->(op=1∧n=1)∨(op=2∧n=1)∨(op=3∧n=2)
 range:k=43->(op=1∧n=2)∨(op=3∧n=3)
def aQL(op:Int)(t o:aC)(kids:au)(h:M.ay 29 op t o kids=some true):kids.length=2:=by simp only[M.ay,M.aB,M.aN,M.aH,M.aS,M.aP,M.aO,M.aI,aT,aJ,Int.reduceBEq,Int.reduceLE,Int.reduceLT,Int.reduceSub,Int.reduceAdd,aU,ah] at h;revert h;cases op==0<;>cases t==[]<;>cases o==[]<;>simp<;>omega
def aQM(op:Int)(t o:aC)(kids:au)(h:M.ay 30 op t o kids=some true):kids.length=2:=by simp only[M.ay,M.aB,M.aN,M.aH,M.aS,M.aP,M.aO,M.aI,aT,aJ,Int.reduceBEq,Int.reduceLE,Int.reduceLT,Int.reduceSub,Int.reduceAdd,aU,ah] at h;revert h;cases op==0<;>cases t==[]<;>cases o==[]<;>simp<;>omega
def aQN(op:Int)(t o:aC)(kids:au)(h:M.ay 31 op t o kids=some true):kids.length=4:=by simp only[M.ay,M.aB,M.aN,M.aH,M.aS,M.aP,M.aO,M.aI,aT,aJ,Int.reduceBEq,Int.reduceLE,Int.reduceLT,Int.reduceSub,Int.reduceAdd,aU,ah] at h;revert h;cases op==0<;>cases t==[]<;>cases o==[]<;>simp<;>omega
def aQO(op:Int)(t o:aC)(kids:au)(h:M.ay 42 op t o kids=some true):(op=1∧kids.length=1)∨(op=2∧kids.length=1)∨(op=3∧kids.length=2):=by
 by_cases h1:op=1
 ·subst h1;simp only[M.ay,M.aB,M.aN,M.aH,M.aS,M.aP,M.aO,M.aI,aT,aJ,show i64.wrap (1+i64.wrap (Int.tdiv 1 3))=1 from rfl,show i64.wrap (1+i64.wrap (Int.tdiv 2 3))=1 from rfl,show i64.wrap (1+i64.wrap (Int.tdiv 3 3))=2 from rfl,show i64.wrap (2+i64.wrap (Int.tdiv 1 3))=2 from rfl,show i64.wrap (2+i64.wrap (Int.tdiv 3 3))=3 from rfl,Int.reduceBEq,Int.reduceLE,Int.reduceLT,Int.reduceSub,Int.reduceAdd,aU,ah] at h;revert h;cases t==[]<;>cases o==[]<;>simp<;>omega
 have e1:(op==1)=false:=by simpa using h1
 by_cases h2:op=2
 ·subst h2;simp only[M.ay,M.aB,M.aN,M.aH,M.aS,M.aP,M.aO,M.aI,aT,aJ,show i64.wrap (1+i64.wrap (Int.tdiv 1 3))=1 from rfl,show i64.wrap (1+i64.wrap (Int.tdiv 2 3))=1 from rfl,show i64.wrap (1+i64.wrap (Int.tdiv 3 3))=2 from rfl,show i64.wrap (2+i64.wrap (Int.tdiv 1 3))=2 from rfl,show i64.wrap (2+i64.wrap (Int.tdiv 3 3))=3 from rfl,Int.reduceBEq,Int.reduceLE,Int.reduceLT,Int.reduceSub,Int.reduceAdd,aU,ah] at h;revert h;cases t==[]<;>cases o==[]<;>simp<;>omega
 have e2:(op==2)=false:=by simpa using h2
 by_cases h3:op=3
 ·subst h3;simp only[M.ay,M.aB,M.aN,M.aH,M.aS,M.aP,M.aO,M.aI,aT,aJ,show i64.wrap (1+i64.wrap (Int.tdiv 1 3))=1 from rfl,show i64.wrap (1+i64.wrap (Int.tdiv 2 3))=1 from rfl,show i64.wrap (1+i64.wrap (Int.tdiv 3 3))=2 from rfl,show i64.wrap (2+i64.wrap (Int.tdiv 1 3))=2 from rfl,show i64.wrap (2+i64.wrap (Int.tdiv 3 3))=3 from rfl,Int.reduceBEq,Int.reduceLE,Int.reduceLT,Int.reduceSub,Int.reduceAdd,aU,ah] at h;revert h;cases t==[]<;>cases o==[]<;>simp<;>omega
 have e3:(op==3)=false:=by simpa using h3
 have hf:(decide ((1:Int)<=op) && decide (op<=3))=false:=by rw[Bool.and_eq_false_iff,decide_eq_false_iff_not,decide_eq_false_iff_not];omega
 simp only[M.ay,M.aB,M.aN,M.aH,M.aS,M.aP,M.aO,M.aI,aT,aJ,e1,e2,e3,hf,Int.reduceBEq,Int.reduceLE,Int.reduceLT,Int.reduceSub,Int.reduceAdd,aU,ah] at h;cases h
def aQP(op:Int)(t o:aC)(kids:au)(h:M.ay 43 op t o kids=some true):(op=1∧kids.length=2)∨(op=3∧kids.length=3):=by
 by_cases h1:op=1
 ·subst h1;simp only[M.ay,M.aB,M.aN,M.aH,M.aS,M.aP,M.aO,M.aI,aT,aJ,show i64.wrap (1+i64.wrap (Int.tdiv 1 3))=1 from rfl,show i64.wrap (1+i64.wrap (Int.tdiv 2 3))=1 from rfl,show i64.wrap (1+i64.wrap (Int.tdiv 3 3))=2 from rfl,show i64.wrap (2+i64.wrap (Int.tdiv 1 3))=2 from rfl,show i64.wrap (2+i64.wrap (Int.tdiv 3 3))=3 from rfl,Int.reduceBEq,Int.reduceLE,Int.reduceLT,Int.reduceSub,Int.reduceAdd,aU,ah] at h;revert h;cases t==[]<;>cases o==[]<;>simp<;>omega
 have e1:(op==1)=false:=by simpa using h1
 by_cases h3:op=3
 ·subst h3;simp only[M.ay,M.aB,M.aN,M.aH,M.aS,M.aP,M.aO,M.aI,aT,aJ,show i64.wrap (1+i64.wrap (Int.tdiv 1 3))=1 from rfl,show i64.wrap (1+i64.wrap (Int.tdiv 2 3))=1 from rfl,show i64.wrap (1+i64.wrap (Int.tdiv 3 3))=2 from rfl,show i64.wrap (2+i64.wrap (Int.tdiv 1 3))=2 from rfl,show i64.wrap (2+i64.wrap (Int.tdiv 3 3))=3 from rfl,Int.reduceBEq,Int.reduceLE,Int.reduceLT,Int.reduceSub,Int.reduceAdd,aU,ah] at h;revert h;cases t==[]<;>cases o==[]<;>simp<;>omega
 have e3:(op==3)=false:=by simpa using h3
 have hf:True:=trivial;simp only[M.ay,M.aB,M.aN,M.aH,M.aS,M.aP,M.aO,M.aI,aT,aJ,e1,e3,hf,Int.reduceBEq,Int.reduceLE,Int.reduceLT,Int.reduceSub,Int.reduceAdd,aU,ah] at h;cases h
def aeU{k op:Int}{t o:aC}{kids:au}(h:M.ay k op t o kids=some true):Cons k op kids.length:=
 ⟨λe=>(by rcases e with rfl|rfl;exact aQL op t o kids h;exact aQM op t o kids h),λe=>(by subst e;exact aQN op t o kids h),λe=>(by subst e;exact aQO op t o kids h),λe=>(by subst e;exact aQP op t o kids h)⟩
def kT(k:Int):Bool:=decide (1<=k) && decide (k<=15)
def zA(k:Int):Bool:=k==1||(k==5||k==6)
def Ew(k:Int):Bool:=decide (20<=k) && decide (k<=34)
def isIt(k:Int):Bool:=decide (40<=k) && decide (k<=44)
def aZ(k:Int):M.gX k=some (kT k)∧M.bG k=some (kT k):=by simp only[M.gX,M.J3,M.bG,M.bQ,aT,aJ,ah,kT,ge_iff_le];constructor<;>first|rfl|trivial
def bg(k:Int):M.zM k=some (Ew k)∧M.bY k=some (Ew k):=by simp only[M.zM,M.J4,M.bY,M.bT,aT,aJ,ah,Ew,ge_iff_le];constructor<;>first|rfl|trivial
def bn(k:Int):M.dh k 40 44=some (isIt k)∧M.zT k=some (isIt k):=by simp only[M.zT,M.Kt,aT,aJ,ah,isIt,ge_iff_le];constructor<;>first|rfl|trivial
def aQ(k:Int):M.oq k=some (zA k)∧M.oC k=some (zA k):=by simp only[M.oq,M.Fj,M.oC,M.FI,zA];cases k==1<;>cases k==5<;>exact⟨rfl,rfl⟩
def aHI(k:Int):zA k=(kT k && zA k):=by
 by_cases h1:k=1
 ·subst h1;rfl
 by_cases h5:k=5
 ·subst h5;rfl
 by_cases h6:k=6
 ·subst h6;rfl
 have e:zA k=false:=by simp[zA,h1,h5,h6]
 rw[e,Bool.and_false]
def wF(k op:Int)(t o:aC)(kids:au)(j d:Int):Prop:=∃b,M.aF k op t o kids j d=some b∧M.cu k op t o kids j d=some b
def aQQ(op:Int)(t o:aC)(kids:au)(j d:Int)(h0:0<=j)(h1:j<kids.length)(hk:kids.length<=400)(hc:Cons 1 op kids.length):wF 1 op t o kids j d:=by simp only[wF,M.aF,M.aK,M.cu,M.bP,aZ,bg,bn,aQ,Int.reduceBEq,Int.reduceLE,Int.reduceLT,Int.reduceSub,Int.reduceAdd,aU,ah];generalize (kT d)=a0;cases a0<;>exact⟨_,rfl,rfl⟩
def aQR(op:Int)(t o:aC)(kids:au)(j d:Int)(h0:0<=j)(h1:j<kids.length)(hk:kids.length<=400)(hc:Cons 2 op kids.length):wF 2 op t o kids j d:=by simp only[wF,M.aF,M.aK,M.cu,M.bP,aZ,bg,bn,aQ,Int.reduceBEq,Int.reduceLE,Int.reduceLT,Int.reduceSub,Int.reduceAdd,aU,ah];generalize (kT d)=a0;cases a0<;>exact⟨_,rfl,rfl⟩
def aQS(op:Int)(t o:aC)(kids:au)(j d:Int)(h0:0<=j)(h1:j<kids.length)(hk:kids.length<=400)(hc:Cons 3 op kids.length):wF 3 op t o kids j d:=by simp only[wF,M.aF,M.aK,M.cu,M.bP,aZ,bg,bn,aQ,Int.reduceBEq,Int.reduceLE,Int.reduceLT,Int.reduceSub,Int.reduceAdd,aU,ah];generalize (kT d)=a0;cases a0<;>exact⟨_,rfl,rfl⟩
def aQT(op:Int)(t o:aC)(kids:au)(j d:Int)(h0:0<=j)(h1:j<kids.length)(hk:kids.length<=400)(hc:Cons 4 op kids.length):wF 4 op t o kids j d:=by simp only[wF,M.aF,M.aK,M.cu,M.bP,aZ,bg,bn,aQ,Int.reduceBEq,Int.reduceLE,Int.reduceLT,Int.reduceSub,Int.reduceAdd,aU,ah];generalize (kT d)=a0;cases a0<;>exact⟨_,rfl,rfl⟩
def aQU(op:Int)(t o:aC)(kids:au)(j d:Int)(h0:0<=j)(h1:j<kids.length)(hk:kids.length<=400)(hc:Cons 5 op kids.length):wF 5 op t o kids j d:=by simp only[wF,M.aF,M.aK,M.cu,M.bP,aZ,bg,bn,aQ,Int.reduceBEq,Int.reduceLE,Int.reduceLT,Int.reduceSub,Int.reduceAdd,aU,ah];generalize (kT d)=a0;cases a0<;>exact⟨_,rfl,rfl⟩
def aQV(op:Int)(t o:aC)(kids:au)(j d:Int)(h0:0<=j)(h1:j<kids.length)(hk:kids.length<=400)(hc:Cons 6 op kids.length):wF 6 op t o kids j d:=by simp only[wF,M.aF,M.aK,M.cu,M.bP,aZ,bg,bn,aQ,Int.reduceBEq,Int.reduceLE,Int.reduceLT,Int.reduceSub,Int.reduceAdd,aU,ah];generalize (kT d)=a0;cases a0<;>exact⟨_,rfl,rfl⟩
def aQW(op:Int)(t o:aC)(kids:au)(j d:Int)(h0:0<=j)(h1:j<kids.length)(hk:kids.length<=400)(hc:Cons 7 op kids.length):wF 7 op t o kids j d:=by simp only[wF,M.aF,M.aK,M.cu,M.bP,aZ,bg,bn,aQ,Int.reduceBEq,Int.reduceLE,Int.reduceLT,Int.reduceSub,Int.reduceAdd,aU,ah];generalize (kT d)=a0;cases a0<;>exact⟨_,rfl,rfl⟩
def aQX(op:Int)(t o:aC)(kids:au)(j d:Int)(h0:0<=j)(h1:j<kids.length)(hk:kids.length<=400)(hc:Cons 8 op kids.length):wF 8 op t o kids j d:=by simp only[wF,M.aF,M.aK,M.cu,M.bP,aZ,bg,bn,aQ,Int.reduceBEq,Int.reduceLE,Int.reduceLT,Int.reduceSub,Int.reduceAdd,aU,ah];generalize (kT d)=a0;cases a0<;>exact⟨_,rfl,rfl⟩
def aQY(op:Int)(t o:aC)(kids:au)(j d:Int)(h0:0<=j)(h1:j<kids.length)(hk:kids.length<=400)(hc:Cons 9 op kids.length):wF 9 op t o kids j d:=by simp only[wF,M.aF,M.aK,M.cu,M.bP,aZ,bg,bn,aQ,Int.reduceBEq,Int.reduceLE,Int.reduceLT,Int.reduceSub,Int.reduceAdd,aU,ah];generalize (zA d)=a0;cases a0<;>exact⟨_,rfl,rfl⟩
def aHJ(op:Int)(t o:aC)(kids:au)(j d:Int)(h0:0<=j)(h1:j<kids.length)(hk:kids.length<=400)(hc:Cons 10 op kids.length):wF 10 op t o kids j d:=by simp only[wF,M.aF,M.aK,M.cu,M.bP,aZ,bg,bn,aQ,Int.reduceBEq,Int.reduceLE,Int.reduceLT,Int.reduceSub,Int.reduceAdd,aU,ah];generalize (zA d)=a0;cases a0<;>exact⟨_,rfl,rfl⟩
def aHK(op:Int)(t o:aC)(kids:au)(j d:Int)(h0:0<=j)(h1:j<kids.length)(hk:kids.length<=400)(hc:Cons 11 op kids.length):wF 11 op t o kids j d:=by simp only[wF,M.aF,M.aK,M.cu,M.bP,aZ,bg,bn,aQ,Int.reduceBEq,Int.reduceLE,Int.reduceLT,Int.reduceSub,Int.reduceAdd,aU,ah];generalize (kT d)=a0;cases a0<;>exact⟨_,rfl,rfl⟩
def aHL(op:Int)(t o:aC)(kids:au)(j d:Int)(h0:0<=j)(h1:j<kids.length)(hk:kids.length<=400)(hc:Cons 12 op kids.length):wF 12 op t o kids j d:=by simp only[wF,M.aF,M.aK,M.cu,M.bP,aZ,bg,bn,aQ,Int.reduceBEq,Int.reduceLE,Int.reduceLT,Int.reduceSub,Int.reduceAdd,aU,ah];generalize (kT d)=a0;cases a0<;>exact⟨_,rfl,rfl⟩
def aHM(op:Int)(t o:aC)(kids:au)(j d:Int)(h0:0<=j)(h1:j<kids.length)(hk:kids.length<=400)(hc:Cons 13 op kids.length):wF 13 op t o kids j d:=by simp only[wF,M.aF,M.aK,M.cu,M.bP,aZ,bg,bn,aQ,Int.reduceBEq,Int.reduceLE,Int.reduceLT,Int.reduceSub,Int.reduceAdd,aU,ah];generalize (kT d)=a0;cases a0<;>exact⟨_,rfl,rfl⟩
def aHN(op:Int)(t o:aC)(kids:au)(j d:Int)(h0:0<=j)(h1:j<kids.length)(hk:kids.length<=400)(hc:Cons 14 op kids.length):wF 14 op t o kids j d:=by simp only[wF,M.aF,M.aK,M.cu,M.bP,aZ,bg,bn,aQ,Int.reduceBEq,Int.reduceLE,Int.reduceLT,Int.reduceSub,Int.reduceAdd,aU,ah];generalize (kT d)=a0;cases a0<;>exact⟨_,rfl,rfl⟩
def aHO(op:Int)(t o:aC)(kids:au)(j d:Int)(h0:0<=j)(h1:j<kids.length)(hk:kids.length<=400)(hc:Cons 15 op kids.length):wF 15 op t o kids j d:=by
 by_cases hj:j=0
 ·subst hj;have hl:=aHI d;simp only[wF,M.aF,M.aK,M.cu,M.bP,aZ,bg,bn,aQ,Int.reduceBEq,Int.reduceLE,Int.reduceLT,Int.reduceSub,Int.reduceAdd,aU,ah];revert hl;cases kT d<;>cases zA d<;>intro hl<;>first|exact⟨_,rfl,rfl⟩|cases hl
 have e0:(j==0)=false:=by simpa using hj
 have e1:decide (0<j)=true:=zdt (by omega);simp only[wF,M.aF,M.aK,M.cu,M.bP,aZ,bg,bn,aQ,e0,e1,Int.reduceBEq,Int.reduceLE,Int.reduceLT,Int.reduceSub,Int.reduceAdd,aU,ah];generalize (kT d)=a0;cases a0<;>exact⟨_,rfl,rfl⟩
def aHP(op:Int)(t o:aC)(kids:au)(j d:Int)(h0:0<=j)(h1:j<kids.length)(hk:kids.length<=400)(hc:Cons 16 op kids.length):wF 16 op t o kids j d:=by simp only[wF,M.aF,M.aK,M.cu,M.bP,aZ,bg,bn,aQ,Int.reduceBEq,Int.reduceLE,Int.reduceLT,Int.reduceSub,Int.reduceAdd,aU,ah];generalize (kT d)=a0;cases a0<;>exact⟨_,rfl,rfl⟩
def aHQ(op:Int)(t o:aC)(kids:au)(j d:Int)(h0:0<=j)(h1:j<kids.length)(hk:kids.length<=400)(hc:Cons 20 op kids.length):wF 20 op t o kids j d:=by simp only[wF,M.aF,M.aK,M.cu,M.bP,aZ,bg,bn,aQ,Int.reduceBEq,Int.reduceLE,Int.reduceLT,Int.reduceSub,Int.reduceAdd,aU,ah];generalize (kT d)=a0;cases a0<;>exact⟨_,rfl,rfl⟩
def aHR(op:Int)(t o:aC)(kids:au)(j d:Int)(h0:0<=j)(h1:j<kids.length)(hk:kids.length<=400)(hc:Cons 21 op kids.length):wF 21 op t o kids j d:=by simp only[wF,M.aF,M.aK,M.cu,M.bP,aZ,bg,bn,aQ,Int.reduceBEq,Int.reduceLE,Int.reduceLT,Int.reduceSub,Int.reduceAdd,aU,ah];generalize (kT d)=a0;cases a0<;>exact⟨_,rfl,rfl⟩
def aHS(op:Int)(t o:aC)(kids:au)(j d:Int)(h0:0<=j)(h1:j<kids.length)(hk:kids.length<=400)(hc:Cons 22 op kids.length):wF 22 op t o kids j d:=by simp only[wF,M.aF,M.aK,M.cu,M.bP,aZ,bg,bn,aQ,Int.reduceBEq,Int.reduceLE,Int.reduceLT,Int.reduceSub,Int.reduceAdd,aU,ah];generalize (kT d)=a0;cases a0<;>exact⟨_,rfl,rfl⟩
def aHT(op:Int)(t o:aC)(kids:au)(j d:Int)(h0:0<=j)(h1:j<kids.length)(hk:kids.length<=400)(hc:Cons 23 op kids.length):wF 23 op t o kids j d:=by simp only[wF,M.aF,M.aK,M.cu,M.bP,aZ,bg,bn,aQ,Int.reduceBEq,Int.reduceLE,Int.reduceLT,Int.reduceSub,Int.reduceAdd,aU,ah];generalize (kT d)=a0;cases a0<;>exact⟨_,rfl,rfl⟩
def aHU(op:Int)(t o:aC)(kids:au)(j d:Int)(h0:0<=j)(h1:j<kids.length)(hk:kids.length<=400)(hc:Cons 24 op kids.length):wF 24 op t o kids j d:=by simp only[wF,M.aF,M.aK,M.cu,M.bP,aZ,bg,bn,aQ,Int.reduceBEq,Int.reduceLE,Int.reduceLT,Int.reduceSub,Int.reduceAdd,aU,ah];generalize (kT d)=a0;cases a0<;>exact⟨_,rfl,rfl⟩
def aHV(op:Int)(t o:aC)(kids:au)(j d:Int)(h0:0<=j)(h1:j<kids.length)(hk:kids.length<=400)(hc:Cons 25 op kids.length):wF 25 op t o kids j d:=by simp only[wF,M.aF,M.aK,M.cu,M.bP,aZ,bg,bn,aQ,Int.reduceBEq,Int.reduceLE,Int.reduceLT,Int.reduceSub,Int.reduceAdd,aU,ah];generalize (kT d)=a0;cases a0<;>exact⟨_,rfl,rfl⟩
def aHW(op:Int)(t o:aC)(kids:au)(j d:Int)(h0:0<=j)(h1:j<kids.length)(hk:kids.length<=400)(hc:Cons 26 op kids.length):wF 26 op t o kids j d:=by simp only[wF,M.aF,M.aK,M.cu,M.bP,aZ,bg,bn,aQ,Int.reduceBEq,Int.reduceLE,Int.reduceLT,Int.reduceSub,Int.reduceAdd,aU,ah];generalize (kT d)=a0;cases a0<;>exact⟨_,rfl,rfl⟩
def aHX(op:Int)(t o:aC)(kids:au)(j d:Int)(h0:0<=j)(h1:j<kids.length)(hk:kids.length<=400)(hc:Cons 27 op kids.length):wF 27 op t o kids j d:=by simp only[wF,M.aF,M.aK,M.cu,M.bP,aZ,bg,bn,aQ,Int.reduceBEq,Int.reduceLE,Int.reduceLT,Int.reduceSub,Int.reduceAdd,aU,ah];generalize (kT d)=a0;cases a0<;>exact⟨_,rfl,rfl⟩
def aHY(op:Int)(t o:aC)(kids:au)(j d:Int)(h0:0<=j)(h1:j<kids.length)(hk:kids.length<=400)(hc:Cons 28 op kids.length):wF 28 op t o kids j d:=by
 by_cases hj:j=0
 ·subst hj;simp only[wF,M.aF,M.aK,M.cu,M.bP,aZ,bg,bn,aQ,Int.reduceBEq,Int.reduceLE,Int.reduceLT,Int.reduceSub,Int.reduceAdd,aU,ah];generalize (kT d)=a0;generalize (d==33)=a1;cases a0<;>cases a1<;>exact⟨_,rfl,rfl⟩
 have e0:(j==0)=false:=by simpa using hj
 have e1:decide (0<j)=true:=zdt (by omega);simp only[wF,M.aF,M.aK,M.cu,M.bP,aZ,bg,bn,aQ,e0,e1,Int.reduceBEq,Int.reduceLE,Int.reduceLT,Int.reduceSub,Int.reduceAdd,aU,ah];generalize (d==33)=a0;cases a0<;>exact⟨_,rfl,rfl⟩
def aHZ(op:Int)(t o:aC)(kids:au)(j d:Int)(h0:0<=j)(h1:j<kids.length)(hk:kids.length<=400)(hc:Cons 29 op kids.length):wF 29 op t o kids j d:=by
 have hl:=hc.two (by omega);obtain rfl|rfl:j=0∨j=1:=by omega
 ·simp only[wF,M.aF,M.aK,M.cu,M.bP,aZ,bg,bn,aQ,Int.reduceBEq,Int.reduceLE,Int.reduceLT,Int.reduceSub,Int.reduceAdd,aU,ah];generalize (kT d)=a0;generalize (d==33)=a1;cases a0<;>cases a1<;>exact⟨_,rfl,rfl⟩
 ·simp only[wF,M.aF,M.aK,M.cu,M.bP,aZ,bg,bn,aQ,Int.reduceBEq,Int.reduceLE,Int.reduceLT,Int.reduceSub,Int.reduceAdd,aU,ah];generalize (kT d)=a0;generalize (d==33)=a1;cases a0<;>cases a1<;>exact⟨_,rfl,rfl⟩
def aH0(op:Int)(t o:aC)(kids:au)(j d:Int)(h0:0<=j)(h1:j<kids.length)(hk:kids.length<=400)(hc:Cons 30 op kids.length):wF 30 op t o kids j d:=by
 have hl:=hc.two (by omega);obtain rfl|rfl:j=0∨j=1:=by omega
 ·simp only[wF,M.aF,M.aK,M.cu,M.bP,aZ,bg,bn,aQ,Int.reduceBEq,Int.reduceLE,Int.reduceLT,Int.reduceSub,Int.reduceAdd,aU,ah];generalize (kT d)=a0;generalize (d==33)=a1;cases a0<;>cases a1<;>exact⟨_,rfl,rfl⟩
 ·simp only[wF,M.aF,M.aK,M.cu,M.bP,aZ,bg,bn,aQ,Int.reduceBEq,Int.reduceLE,Int.reduceLT,Int.reduceSub,Int.reduceAdd,aU,ah];generalize (kT d)=a0;generalize (d==33)=a1;cases a0<;>cases a1<;>exact⟨_,rfl,rfl⟩
def aH1(op:Int)(t o:aC)(kids:au)(j d:Int)(h0:0<=j)(h1:j<kids.length)(hk:kids.length<=400)(hc:Cons 31 op kids.length):wF 31 op t o kids j d:=by
 have hl:=hc.four rfl;have hw:i64.wrap ((kids.length:Int) - 1)=3:=by rw[hl];rfl
 obtain rfl|rfl|rfl|rfl:j=0∨j=1∨j=2∨j=3:=by omega
 ·simp only[wF,M.aF,M.aK,M.cu,M.bP,aZ,bg,bn,aQ,hw,Int.reduceBEq,Int.reduceLE,Int.reduceLT,Int.reduceSub,Int.reduceAdd,aU,ah];generalize (kT d)=a0;generalize (d==16)=a1;generalize (d==33)=a2;cases a0<;>cases a1<;>cases a2<;>exact⟨_,rfl,rfl⟩
 ·simp only[wF,M.aF,M.aK,M.cu,M.bP,aZ,bg,bn,aQ,hw,Int.reduceBEq,Int.reduceLE,Int.reduceLT,Int.reduceSub,Int.reduceAdd,aU,ah];generalize (kT d)=a0;generalize (d==16)=a1;generalize (d==33)=a2;cases a0<;>cases a1<;>cases a2<;>exact⟨_,rfl,rfl⟩
 ·simp only[wF,M.aF,M.aK,M.cu,M.bP,aZ,bg,bn,aQ,hw,Int.reduceBEq,Int.reduceLE,Int.reduceLT,Int.reduceSub,Int.reduceAdd,aU,ah];generalize (kT d)=a0;generalize (d==16)=a1;generalize (d==33)=a2;cases a0<;>cases a1<;>cases a2<;>exact⟨_,rfl,rfl⟩
 ·simp only[wF,M.aF,M.aK,M.cu,M.bP,aZ,bg,bn,aQ,hw,Int.reduceBEq,Int.reduceLE,Int.reduceLT,Int.reduceSub,Int.reduceAdd,aU,ah];generalize (kT d)=a0;generalize (d==16)=a1;generalize (d==33)=a2;cases a0<;>cases a1<;>cases a2<;>exact⟨_,rfl,rfl⟩
def aH2(op:Int)(t o:aC)(kids:au)(j d:Int)(h0:0<=j)(h1:j<kids.length)(hk:kids.length<=400)(hc:Cons 32 op kids.length):wF 32 op t o kids j d:=by simp only[wF,M.aF,M.aK,M.cu,M.bP,aZ,bg,bn,aQ,Int.reduceBEq,Int.reduceLE,Int.reduceLT,Int.reduceSub,Int.reduceAdd,aU,ah];generalize (d==33)=a0;cases a0<;>exact⟨_,rfl,rfl⟩
def aH3(op:Int)(t o:aC)(kids:au)(j d:Int)(h0:0<=j)(h1:j<kids.length)(hk:kids.length<=400)(hc:Cons 33 op kids.length):wF 33 op t o kids j d:=by simp only[wF,M.aF,M.aK,M.cu,M.bP,aZ,bg,bn,aQ,Int.reduceBEq,Int.reduceLE,Int.reduceLT,Int.reduceSub,Int.reduceAdd,aU,ah];generalize (Ew d)=a0;cases a0<;>exact⟨_,rfl,rfl⟩
def aH4(op:Int)(t o:aC)(kids:au)(j d:Int)(h0:0<=j)(h1:j<kids.length)(hk:kids.length<=400)(hc:Cons 34 op kids.length):wF 34 op t o kids j d:=by simp only[wF,M.aF,M.aK,M.cu,M.bP,aZ,bg,bn,aQ,Int.reduceBEq,Int.reduceLE,Int.reduceLT,Int.reduceSub,Int.reduceAdd,aU,ah];generalize (kT d)=a0;cases a0<;>exact⟨_,rfl,rfl⟩
def aH5(op:Int)(t o:aC)(kids:au)(j d:Int)(h0:0<=j)(h1:j<kids.length)(hk:kids.length<=400)(hc:Cons 40 op kids.length):wF 40 op t o kids j d:=by simp only[wF,M.aF,M.aK,M.cu,M.bP,aZ,bg,bn,aQ,Int.reduceBEq,Int.reduceLE,Int.reduceLT,Int.reduceSub,Int.reduceAdd,aU,ah];generalize (d==33)=a0;cases a0<;>exact⟨_,rfl,rfl⟩
def aH6(op:Int)(t o:aC)(kids:au)(j d:Int)(h0:0<=j)(h1:j<kids.length)(hk:kids.length<=400)(hc:Cons 41 op kids.length):wF 41 op t o kids j d:=by simp only[wF,M.aF,M.aK,M.cu,M.bP,aZ,bg,bn,aQ,Int.reduceBEq,Int.reduceLE,Int.reduceLT,Int.reduceSub,Int.reduceAdd,aU,ah];generalize (d==33)=a0;cases a0<;>exact⟨_,rfl,rfl⟩
def aH7(op:Int)(t o:aC)(kids:au)(j d:Int)(h0:0<=j)(h1:j<kids.length)(hk:kids.length<=400)(hc:Cons 42 op kids.length):wF 42 op t o kids j d:=by
 rcases hc.rule rfl with⟨rfl,hl⟩|⟨rfl,hl⟩|⟨rfl,hl⟩
 ·have hw:i64.wrap ((kids.length:Int) - 1)=0:=by rw[hl];rfl
  obtain rfl:j=0:=by omega
  simp only[wF,M.aF,M.aK,M.cu,M.bP,aZ,bg,bn,aQ,hw,Int.reduceBEq,Int.reduceLE,Int.reduceLT,Int.reduceSub,Int.reduceAdd,aU,ah];generalize (kT d)=a0;generalize (d==33)=a1;cases a0<;>cases a1<;>exact⟨_,rfl,rfl⟩
 ·have hw:i64.wrap ((kids.length:Int) - 1)=0:=by rw[hl];rfl
  obtain rfl:j=0:=by omega
  simp only[wF,M.aF,M.aK,M.cu,M.bP,aZ,bg,bn,aQ,hw,Int.reduceBEq,Int.reduceLE,Int.reduceLT,Int.reduceSub,Int.reduceAdd,aU,ah];generalize (kT d)=a0;generalize (d==33)=a1;cases a0<;>cases a1<;>exact⟨_,rfl,rfl⟩
 ·have hw:i64.wrap ((kids.length:Int) - 1)=1:=by rw[hl];rfl
  obtain rfl|rfl:j=0∨j=1:=by omega
  ·simp only[wF,M.aF,M.aK,M.cu,M.bP,aZ,bg,bn,aQ,hw,Int.reduceBEq,Int.reduceLE,Int.reduceLT,Int.reduceSub,Int.reduceAdd,aU,ah];generalize (kT d)=a0;generalize (d==33)=a1;cases a0<;>cases a1<;>exact⟨_,rfl,rfl⟩
  ·simp only[wF,M.aF,M.aK,M.cu,M.bP,aZ,bg,bn,aQ,hw,Int.reduceBEq,Int.reduceLE,Int.reduceLT,Int.reduceSub,Int.reduceAdd,aU,ah];generalize (kT d)=a0;generalize (d==33)=a1;cases a0<;>cases a1<;>exact⟨_,rfl,rfl⟩
def aH8(op:Int)(t o:aC)(kids:au)(j d:Int)(h0:0<=j)(h1:j<kids.length)(hk:kids.length<=400)(hc:Cons 43 op kids.length):wF 43 op t o kids j d:=by
 rcases hc.range rfl with⟨rfl,hl⟩|⟨rfl,hl⟩
 ·have hw:i64.wrap ((kids.length:Int) - 1)=1:=by rw[hl];rfl
  obtain rfl|rfl:j=0∨j=1:=by omega
  ·simp only[wF,M.aF,M.aK,M.cu,M.bP,aZ,bg,bn,aQ,hw,Int.reduceBEq,Int.reduceLE,Int.reduceLT,Int.reduceSub,Int.reduceAdd,aU,ah];generalize (kT d)=a0;generalize (d==33)=a1;cases a0<;>cases a1<;>exact⟨_,rfl,rfl⟩
  ·simp only[wF,M.aF,M.aK,M.cu,M.bP,aZ,bg,bn,aQ,hw,Int.reduceBEq,Int.reduceLE,Int.reduceLT,Int.reduceSub,Int.reduceAdd,aU,ah];generalize (kT d)=a0;generalize (d==33)=a1;cases a0<;>cases a1<;>exact⟨_,rfl,rfl⟩
 ·have hw:i64.wrap ((kids.length:Int) - 1)=2:=by rw[hl];rfl
  obtain rfl|rfl|rfl:j=0∨j=1∨j=2:=by omega
  ·simp only[wF,M.aF,M.aK,M.cu,M.bP,aZ,bg,bn,aQ,hw,Int.reduceBEq,Int.reduceLE,Int.reduceLT,Int.reduceSub,Int.reduceAdd,aU,ah];generalize (kT d)=a0;generalize (d==33)=a1;cases a0<;>cases a1<;>exact⟨_,rfl,rfl⟩
  ·simp only[wF,M.aF,M.aK,M.cu,M.bP,aZ,bg,bn,aQ,hw,Int.reduceBEq,Int.reduceLE,Int.reduceLT,Int.reduceSub,Int.reduceAdd,aU,ah];generalize (kT d)=a0;generalize (d==33)=a1;cases a0<;>cases a1<;>exact⟨_,rfl,rfl⟩
  ·simp only[wF,M.aF,M.aK,M.cu,M.bP,aZ,bg,bn,aQ,hw,Int.reduceBEq,Int.reduceLE,Int.reduceLT,Int.reduceSub,Int.reduceAdd,aU,ah];generalize (kT d)=a0;generalize (d==33)=a1;cases a0<;>cases a1<;>exact⟨_,rfl,rfl⟩
def aH9(op:Int)(t o:aC)(kids:au)(j d:Int)(h0:0<=j)(h1:j<kids.length)(hk:kids.length<=400)(hc:Cons 44 op kids.length):wF 44 op t o kids j d:=by simp only[wF,M.aF,M.aK,M.cu,M.bP,aZ,bg,bn,aQ,Int.reduceBEq,Int.reduceLE,Int.reduceLT,Int.reduceSub,Int.reduceAdd,aU,ah];generalize (j==i64.wrap ((kids.length:Int) - 1))=a0;generalize (d==33)=a1;generalize (d==1)=a2;cases a0<;>cases a1<;>cases a2<;>exact⟨_,rfl,rfl⟩
def aIa(op:Int)(t o:aC)(kids:au)(j d:Int)(h0:0<=j)(h1:j<kids.length)(hk:kids.length<=400)(hc:Cons 45 op kids.length):wF 45 op t o kids j d:=by simp only[wF,M.aF,M.aK,M.cu,M.bP,aZ,bg,bn,aQ,Int.reduceBEq,Int.reduceLE,Int.reduceLT,Int.reduceSub,Int.reduceAdd,aU,ah];generalize (isIt d)=a0;generalize (d==34)=a1;cases a0<;>cases a1<;>exact⟨_,rfl,rfl⟩
def au1(k:Int)(op:Int)(t o:aC)(kids:au)(j d:Int)(hj0:0<=j)(hj1:j<kids.length)(hk:kids.length<=400)(hc:Cons k op kids.length):wF k op t o kids j d:=by
 by_cases h1:k=1
 ·subst h1;exact aQQ op t o kids j d hj0 hj1 hk hc
 by_cases h2:k=2
 ·subst h2;exact aQR op t o kids j d hj0 hj1 hk hc
 by_cases h3:k=3
 ·subst h3;exact aQS op t o kids j d hj0 hj1 hk hc
 by_cases h4:k=4
 ·subst h4;exact aQT op t o kids j d hj0 hj1 hk hc
 by_cases h5:k=5
 ·subst h5;exact aQU op t o kids j d hj0 hj1 hk hc
 by_cases h6:k=6
 ·subst h6;exact aQV op t o kids j d hj0 hj1 hk hc
 by_cases h7:k=7
 ·subst h7;exact aQW op t o kids j d hj0 hj1 hk hc
 by_cases h8:k=8
 ·subst h8;exact aQX op t o kids j d hj0 hj1 hk hc
 by_cases h9:k=9
 ·subst h9;exact aQY op t o kids j d hj0 hj1 hk hc
 by_cases h10:k=10
 ·subst h10;exact aHJ op t o kids j d hj0 hj1 hk hc
 by_cases h11:k=11
 ·subst h11;exact aHK op t o kids j d hj0 hj1 hk hc
 by_cases h12:k=12
 ·subst h12;exact aHL op t o kids j d hj0 hj1 hk hc
 by_cases h13:k=13
 ·subst h13;exact aHM op t o kids j d hj0 hj1 hk hc
 by_cases h14:k=14
 ·subst h14;exact aHN op t o kids j d hj0 hj1 hk hc
 by_cases h15:k=15
 ·subst h15;exact aHO op t o kids j d hj0 hj1 hk hc
 by_cases h16:k=16
 ·subst h16;exact aHP op t o kids j d hj0 hj1 hk hc
 by_cases h20:k=20
 ·subst h20;exact aHQ op t o kids j d hj0 hj1 hk hc
 by_cases h21:k=21
 ·subst h21;exact aHR op t o kids j d hj0 hj1 hk hc
 by_cases h22:k=22
 ·subst h22;exact aHS op t o kids j d hj0 hj1 hk hc
 by_cases h23:k=23
 ·subst h23;exact aHT op t o kids j d hj0 hj1 hk hc
 by_cases h24:k=24
 ·subst h24;exact aHU op t o kids j d hj0 hj1 hk hc
 by_cases h25:k=25
 ·subst h25;exact aHV op t o kids j d hj0 hj1 hk hc
 by_cases h26:k=26
 ·subst h26;exact aHW op t o kids j d hj0 hj1 hk hc
 by_cases h27:k=27
 ·subst h27;exact aHX op t o kids j d hj0 hj1 hk hc
 by_cases h28:k=28
 ·subst h28;exact aHY op t o kids j d hj0 hj1 hk hc
 by_cases h29:k=29
 ·subst h29;exact aHZ op t o kids j d hj0 hj1 hk hc
 by_cases h30:k=30
 ·subst h30;exact aH0 op t o kids j d hj0 hj1 hk hc
 by_cases h31:k=31
 ·subst h31;exact aH1 op t o kids j d hj0 hj1 hk hc
 by_cases h32:k=32
 ·subst h32;exact aH2 op t o kids j d hj0 hj1 hk hc
 by_cases h33:k=33
 ·subst h33;exact aH3 op t o kids j d hj0 hj1 hk hc
 by_cases h34:k=34
 ·subst h34;exact aH4 op t o kids j d hj0 hj1 hk hc
 by_cases h40:k=40
 ·subst h40;exact aH5 op t o kids j d hj0 hj1 hk hc
 by_cases h41:k=41
 ·subst h41;exact aH6 op t o kids j d hj0 hj1 hk hc
 by_cases h42:k=42
 ·subst h42;exact aH7 op t o kids j d hj0 hj1 hk hc
 by_cases h43:k=43
 ·subst h43;exact aH8 op t o kids j d hj0 hj1 hk hc
 by_cases h44:k=44
 ·subst h44;exact aH9 op t o kids j d hj0 hj1 hk hc
 by_cases h45:k=45
 ·subst h45;exact aIa op t o kids j d hj0 hj1 hk hc
 have e1:(k==1)=false:=by simpa using h1
 have e2:(k==2)=false:=by simpa using h2
 have e3:(k==3)=false:=by simpa using h3
 have e4:(k==4)=false:=by simpa using h4
 have e5:(k==5)=false:=by simpa using h5
 have e6:(k==6)=false:=by simpa using h6
 have e7:(k==7)=false:=by simpa using h7
 have e8:(k==8)=false:=by simpa using h8
 have e9:(k==9)=false:=by simpa using h9
 have e10:(k==10)=false:=by simpa using h10
 have e11:(k==11)=false:=by simpa using h11
 have e12:(k==12)=false:=by simpa using h12
 have e13:(k==13)=false:=by simpa using h13
 have e14:(k==14)=false:=by simpa using h14
 have e15:(k==15)=false:=by simpa using h15
 have e16:(k==16)=false:=by simpa using h16
 have e20:(k==20)=false:=by simpa using h20
 have e21:(k==21)=false:=by simpa using h21
 have e22:(k==22)=false:=by simpa using h22
 have e23:(k==23)=false:=by simpa using h23
 have e24:(k==24)=false:=by simpa using h24
 have e25:(k==25)=false:=by simpa using h25
 have e26:(k==26)=false:=by simpa using h26
 have e27:(k==27)=false:=by simpa using h27
 have e28:(k==28)=false:=by simpa using h28
 have e29:(k==29)=false:=by simpa using h29
 have e30:(k==30)=false:=by simpa using h30
 have e31:(k==31)=false:=by simpa using h31
 have e32:(k==32)=false:=by simpa using h32
 have e33:(k==33)=false:=by simpa using h33
 have e34:(k==34)=false:=by simpa using h34
 have e40:(k==40)=false:=by simpa using h40
 have e41:(k==41)=false:=by simpa using h41
 have e42:(k==42)=false:=by simpa using h42
 have e43:(k==43)=false:=by simpa using h43
 have e44:(k==44)=false:=by simpa using h44
 have e45:(k==45)=false:=by simpa using h45
 simp only[wF,M.aF,M.aK,M.cu,M.bP,aZ,bg,bn,aQ,e1,e2,e3,e4,e5,e6,e7,e8,e9,e10,e11,e12,e13,e14,e15,e16,e20,e21,e22,e23,e24,e25,e26,e27,e28,e29,e30,e31,e32,e33,e34,e40,e41,e42,e43,e44,e45,dP,ah];exact⟨_,rfl,rfl⟩
end Go.Proofs.YtbpldgeajbfgnaaGreatDoor
namespace Go.Proofs.YtbpldgeajbfgnaaGreatDoor
set_option linter.unusedVariables false
set_option linter.unusedSimpArgs false
open Go Go.Vm
open Go.IntKind (i64)
def wN(n:Nd):Nat:=n.text.length+n.other.length+n.kids.length
def wNs:List Nd->Nat
 |[]=>0
 |n::l=>wN n+wNs l
def alO(k:List Int)(L:Int)(h0:0<=L)(h1:L<=1048576)(hk:k.length<=maxLen):M.zF (encI k) L=some (if(k.length:Int)<=L then L - k.length else -1):=by
 unfold maxLen at hk;simp only[M.zF,M.JM,dn];rw[aG (by omega) (by omega)]
 by_cases h:(k.length:Int)<=L
 ·rw[uh (by omega),if_pos h];rfl
 ·rw[zdt (by omega),if_neg h];rfl
def alP(n:Nd)(o:Bool)(L:Int)(h0:0<=L)(h1:L<=1048576)(ht:n.text.length<=maxLen)(ho:n.other.length<=maxLen)(hk:n.kids.length<=maxLen):
  M.zG n.kind n.op n.text n.other (encI n.kids) L=some (if(wN n:Int)<=L then L - wN n else -1):=by
 have ht':=ht;have ho':=ho;have hk':=hk;unfold maxLen at ht' ho' hk';have hwn:wN n=n.text.length+n.other.length+n.kids.length:=rfl;simp only[M.zG,M.JO];rw[aG (n:=L - n.text.length) (by omega) (by omega)]
 by_cases c1:(n.text.length:Int)<=L
 ·rw[uh (by omega),dP,aG (by omega) (by omega)]
  by_cases c2:(n.other.length:Int)<=L - n.text.length
  ·rw[uh (by omega),dP,alO _ _ (by omega) (by omega) hk,ah]
   by_cases c3:(n.kids.length:Int)<=L - n.text.length - n.other.length
   ·rw[if_pos c3,uh (by omega),dP,if_pos (by omega)];congr 1;omega
   ·rw[if_neg c3,zdt (by omega),bW,if_neg (by omega)]
  ·rw[zdt (by omega),bW,if_neg (by omega)]
 ·rw[zdt (by omega),bW,if_neg (by omega)]
def ao5(l:List Nd)(len:Nat):∀w:Int,0<=w->aaM (fun(w:Int) (n:Nd)=>(if(wN n:Int)<=w then .inl (w - wN n) else .inr (.inl ()):Int⊕(Unit⊕(Int×Int)))) (λw=> .inr (w,(len:Int))) l w=
  if(wNs l:Int)<=w then .inr (w - wNs l,(len:Int)) else .inl ():=by
 induction l with
 |nil=>intro w h;simp[aaM,wNs,h]
 |cons n l ih=>
  intro w h;have hw:wNs (n::l)=wN n+wNs l:=rfl;simp only[aaM]
  by_cases c:(wN n:Int)<=w
  ·rw[if_pos c];simp only;rw[ih (w - wN n) (by omega)]
   by_cases c2:(wNs l:Int)<=w - wN n
   ·rw[if_pos c2,if_pos (by omega)];congr 2;omega
   ·rw[if_neg c2,if_neg (by omega)]
  ·rw[if_neg c,if_neg (by omega)]
def ajs(l:List Nd)(o:Bool)(L:Int)(h0:0<=L)(h1:L<=1048576)(hl:l.length<=maxLen)(hf:∀n,n∈l->Fit n):
  M.wJ (fU o l) L=some (if(l.length+wNs l:Int)<=L then L - l.length - wNs l else -1):=by
 unfold maxLen at hl;simp only[M.wJ,M.Hy,iL];rw[aG (by omega) (by omega)]
 by_cases c:(l.length:Int)<=L
 ·rw[uh (by omega),dP];have hloop:=ajj (M.BH (fU o l)) l (λi (w:Int)=>(w,(i:Int)))
   (fun(w:Int) (n:Nd)=>(if(wN n:Int)<=w then .inl (w - wN n) else .inr (.inl ()):Int⊕(Unit⊕(Int×Int)))) (λw=> .inr (w,(l.length:Int))) (λ_ w=>0<=w∧w<=1048576)
   (by
    intro i n w hi hw;have hlt:=(Je.1 hi).1;have hfn:=hf n (Lu hi);simp only[lJ,M.BH,M.wW,iL,dF,mJ,hi,Jf,ah,NP,Oo,Oq,Ot,MN];rw[zdt (by omega),bW,alP n o w hw.1 hw.2 hfn.text hfn.other hfn.kids,ah]
    by_cases c2:(wN n:Int)<=w
    ·rw[if_pos c2,uh (by omega),dP,if_pos c2,aG (by omega) (by omega)];simp
    ·rw[if_neg c2,zdt (by omega),bW,if_neg c2])
   (by
    intro i n w w' hi hw he
    by_cases c2:(wN n:Int)<=w
    ·simp only[c2,if_true,Sum.inl.injEq] at he;omega
    ·simp[c2] at he)
   (by intro w hw;simp only[lJ,M.BH,M.wW,iL];rw[uh (by omega),dP])
   (L - l.length) (by omega)
  have h0':((0:Nat):Int)=0:=rfl;simp only[h0'] at hloop;rw[M.EZ,hloop,ah,ao5 l l.length _ (by omega)]
  by_cases c2:(wNs l:Int)<=L - l.length
  ·rw[if_pos c2,if_pos (by omega)];rfl
  ·rw[if_neg c2,if_neg (by omega)];rfl
 ·rw[zdt (by omega),bW,if_neg (by omega)]
def akC{l:List Nd}{n:Nd}(h:n∈l):wN n<=wNs l:=by
 induction l with
 |nil=>simp at h
 |cons m l ih=>
  have hw:wNs (m::l)=wN m+wNs l:=rfl;rcases List.mem_cons.1 h with rfl|h
  ·omega
  ·have:=ih h;omega
def acI{α:Type}(a:List α)(b:List α)(x y:α):(a++x::b).set a.length y=a++y::b:=by
 induction a with
 |nil=>rfl
 |cons z a ih=>simp[ih]
def filled{α β:Type}(f:α->β)(z:β)(l:List α)(i:Nat):List β:=(l.take i).map f++List.replicate (l.length - i) z
def YD{α β:Type}(f:α->β)(z:β)(l:List α):filled f z l 0=List.replicate l.length z:=by simp[filled]
def abp{α β:Type}(f:α->β)(z:β)(l:List α):filled f z l l.length=l.map f:=by simp[filled]
def abq{α β:Type}(f:α->β)(z:β)(l:List α){i:Nat}(h:i<l.length):(filled f z l i)[i]? =some z:=by unfold filled;rw[List.getElem?_append_right (by simp;omega)];simp[List.getElem?_replicate];omega
def abr{α β:Type}(f:α->β)(z:β)(l:List α){i:Nat}{x:α}(h:l[i]? =some x):(filled f z l i).set i (f x)=filled f z l (i+1):=by
 have hlt:=(Je.1 h).1;unfold filled;have hn:l.length - i=(l.length - (i+1))+1:=by omega
 rw[hn,List.replicate_succ];have hl:((l.take i).map f).length=i:=by simp;omega
 have:=acI ((l.take i).map f) (List.replicate (l.length - (i+1)) z) z (f x);rw[hl] at this;rw[this,List.take_add_one,h];simp
def alQ(k:List Int)(hk:k.length<=1048576):M.zH (encI k)=some (encI k):=by
 simp only[M.zH,M.JQ,dn];rw[zdt (by omega),zdt (by omega),zdt (by omega),zdt (by omega)];simp only[Bool.and_true,bW,O9];have hloop:=kX (b:=M.DR (encI k)) (t:=((k.length:Int),encI k)) (λi=>((i:Int),filled (λx=>[D.int .i64 x]) [D.int .i64 0] k i)) k.length
  (by
   intro i hi;obtain⟨x,hx⟩:∃x,k[i]? =some x:=⟨k[i],by simp[hi]⟩
   simp only[M.DR,M.yR,dn,dF,jS,hx,Jf,ah,LQ,O9,abq _ _ k hi];rw[zdt (by omega),bW,aG (by omega) (by omega)];have hs:splice [D.int IntKind.i64 0] 0 [D.int IntKind.i64 x]=[D.int IntKind.i64 x]:=rfl;rw[hs,abr (λx=>[D.int .i64 x]) _ k hx];simp)
  (by simp only[M.DR,M.yR,dn];rw[uh (by omega),dP,abp];rfl) 0 (Nat.zero_le _)
 rw[M.Hz];simp only[YD] at hloop;have h0':((0:Nat):Int)=0:=rfl;rw[h0'] at hloop;rw[hloop,ah];simp
def alR(n:Nd)(hk:n.kids.length<=1048576):M.zI n.kind n.op n.text n.other (encI n.kids)=some (n.kind,n.op,n.text,n.other,encI n.kids):=by simp only[M.zI,M.JR];rw[alQ _ hk,ah];simp
def ajt(l:List Nd)(o:Bool)(hl:l.length<=1048576)(hk:∀n,n∈l->n.kids.length<=1048576):M.qQ (fU o l)=some (fU true l):=by
 simp only[M.qQ,M.HY,iL];rw[zdt (by omega),zdt (by omega),zdt (by omega),zdt (by omega)];simp only[Bool.and_true,bW,O9];have hloop:=kX (b:=M.BI (fU o l)) (t:=((l.length:Int),fU true l)) (λi=>((i:Int),filled (Oc true) [D.int IntKind.i64 0,D.int IntKind.i64 0,D.str [],D.str [],D.sl true 1 []] l i)) l.length
  (by
   intro i hi;obtain⟨x,hx⟩:∃x,l[i]? =some x:=⟨l[i],by simp[hi]⟩
   have hkx:=hk x (Lu hx);simp only[lJ,M.BI,M.wX,iL,dF,mJ,hx,Jf,ah,NP,Oo,Oq,Ot,MN,alR x hkx,O9,abq _ _ l hi,GH,bW];rw[zdt (by omega),bW,aG (by omega) (by omega)];have hs:splice [D.int IntKind.i64 0,D.int IntKind.i64 0,D.str [],D.str [],D.sl true 1 []] 0 [D.int IntKind.i64 x.kind,D.int IntKind.i64 x.op,D.str x.text,D.str x.other,D.sl true 1 (encI x.kids)]=Oc true x:=rfl;rw[hs,abr (Oc true) _ l hx];simp)
  (by simp only[lJ,M.BI,M.wX,iL];rw[uh (by omega),dP,abp];rfl) 0 (Nat.zero_le _)
 rw[M.E5];simp only[YD] at hloop;have h0':((0:Nat):Int)=0:=rfl;rw[h0'] at hloop;rw[hloop,ah]
def ah2(k:List Int)(hk:k.length<=maxLen):M.zW (encI k) (encI k)=some true:=by
 unfold maxLen at hk;simp only[M.zW,M.Kw,bne_self_eq_false,dP];have hloop:=kX (b:=M.Ee (encI k) (encI k)) (t:=.inr ((k.length:Int))) (λi=>(i:Int)) k.length
  (by
   intro i hi;obtain⟨x,hx⟩:∃x,k[i]? =some x:=⟨k[i],by simp[hi]⟩
   simp only[M.Ee,M.zn,dn,dF,jS,hx,Jf,ah,LQ,bne_self_eq_false,dP];rw[zdt (by omega),bW,aG (by omega) (by omega)];simp)
  (by simp only[M.Ee,M.zn,dn];rw[uh (by omega),dP]) 0 (Nat.zero_le _)
 have h0':((0:Nat):Int)=0:=rfl;rw[h0'] at hloop;rw[M.IE,hloop,ah];rfl
def ah3(n:Nd)(hk:n.kids.length<=maxLen):M.zX n.kind n.op n.text n.other (encI n.kids) n.kind n.op n.text n.other (encI n.kids)=some true:=by simp only[M.zX,M.Ky,bne_self_eq_false,dP,beq_self_eq_true,Bool.not_true];rw[ah2 _ hk];rfl
def aeV(l:List Nd)(o o':Bool)(hl:l.length<=maxLen)(hk:∀n,n∈l->n.kids.length<=maxLen):M.wV (fU o l) (fU o' l)=some true:=by
 unfold maxLen at hl;simp only[M.wV,M.IG,iL,bne_self_eq_false,dP];have hloop:=kX (b:=M.Cc (fU o l) (fU o' l)) (t:=.inr ((l.length:Int))) (λi=>(i:Int)) l.length
  (by
   intro i hi;obtain⟨x,hx⟩:∃x,l[i]? =some x:=⟨l[i],by simp[hi]⟩
   simp only[lJ,M.Cc,M.xO,iL,dF,mJ,hx,Jf,ah,NP,Oo,Oq,Ot,MN,ah3 x (hk x (Lu hx)),Bool.not_true,dP];rw[zdt (by omega),bW,aG (by omega) (by omega)];simp)
  (by simp only[lJ,M.Cc,M.xO,iL];rw[uh (by omega),dP]) 0 (Nat.zero_le _)
 have h0':((0:Nat):Int)=0:=rfl;rw[h0'] at hloop;rw[M.FV,hloop,ah];rfl
def I7(x lo hi:Int):M.dh x lo hi=some (decide (lo<=x) && decide (x<=hi)):=by
 simp only[M.dh,M.wY]
 by_cases h:lo<=x
 ·rw[zdt (show x>=lo from h)];rfl
 ·rw[uh (show¬x>=lo from h)];rfl
def I8(x lo hi:Int):M.cO x lo hi=some (decide (lo<=x) && decide (x<=hi)):=by
 simp only[M.cO,M.uJ]
 by_cases h:lo<=x
 ·rw[zdt (show x>=lo from h)];rfl
 ·rw[uh (show¬x>=lo from h)];rfl
def ah4:∀k:List Int,aeJ (encI k)=some k
 |[]=>rfl
 |x::k=>by have:encI (x::k)=[D.int .i64 x]::encI k:=rfl;rw[this];simp only[aeJ,ah4 k,Jf]
def nk(n:Nd):Nk:=⟨n.kind,n.op,⟨⟨n.text⟩⟩,⟨⟨n.other⟩⟩,n.kids⟩
def adK(o:Bool):∀l:List Nd,(∀n,n∈l->n.kids.length<=1048576)->QW (fU o l)=some (l.map nk)
 |[],_=>rfl
 |n::l,h=>by
  have:fU o (n::l)=Oc o n::fU o l:=rfl;rw[this,QW];have hk:ajo (Oc o n)=some (nk n):=by simp only[Oc,ajo,ah4,ah];rw[if_pos (h n ZQ)];rfl
  rw[hk,ah,adK o l (λm hm=>h m (XR _ hm))];rfl
def aIb(l:List Nd):(l.map nk).map (·.kids)=ks l:=by simp[ks,nk]
def Zd(l:List Nd)(o:Bool)(hl:l.length<=1048576)(hk:∀n,n∈l->n.kids.length<=1048576):M.wS (fU o l)=some (CW l):=by
 simp only[M.wS,M.Ip,M.jB,adK o l hk,ah,aIb,List.length_map];rw[if_pos hl,CW];cases nK (ks l) with
 |none=>rfl
 |some st=>rfl
def VZ(l:List Nd)(o:Bool){i:Nat}{n:Nd}{st:List Int}(hi:l[i]? =some n)(hl:l.length<=1048576)(hkl:n.kids.length<=1048576)(hst:Qr st)(hs:st.length=i):
  ∀(j:Nat) (a:Int),j<=n.kids.length->0<=a->a<=i->M.qI (fU o l) (i:Int) (encI st) (a,(j:Int) - 1)=some (match eH st (n.kids.take j).reverse (a - 1) with
   |none=> .inl ()
   |some r=> .inr (r+1, -1))
 |0,a,hj,h0,h1=>by rw[M.qI];apply dD;simp only[M.Ad,M.uV];rw[uh (by omega),dP,List.take_zero,List.reverse_nil,eH];simp
 |j+1,a,hj,h0,h1=>by
  have hlt:i<l.length:=(Je.1 hi).1;obtain⟨k,hk⟩:∃k,n.kids[j]? =some k:=⟨n.kids[j]'(by omega),by simp⟩
  have ht:(n.kids.take (j+1)).reverse=k::(n.kids.take j).reverse:=by rw[List.take_add_one,hk,Option.toList_some,List.reverse_append];rfl
  rw[ht,eH];have e1:(((j+1:Nat):Int) - 1)=(j:Int):=by omega
  rw[e1];have hstep:M.Ad (fU o l) (i:Int) (encI st) (a,(j:Int))=if a - 1<0∨k≠a - 1 then some (.inr (.inl ())) else some (.inl (st[k.toNat]?.getD 0,(j:Int) - 1)):=by
   simp only[M.Ad,M.uV,dF,mJ,hi,Jf,ah,MN,jS,hk,LQ];rw[zdt (by omega),bW,aG (n:=a - 1) (by omega) (by omega)]
   by_cases h2:k=a - 1
   ·have:(k !=a - 1)=false:=by simp[h2]
    rw[this,dP]
    by_cases h3:a=0
    ·have:(a==0)=true:=by simp[h3]
     rw[this,bW,if_pos (.inl (by omega))]
    ·have:(a==0)=false:=by simp[h3]
     rw[this,dP,if_neg (by omega)];obtain⟨d,hd⟩:∃d:Nat,a - 1=(d:Int):=⟨(a - 1).toNat,by omega⟩
     have hdl:d<st.length:=by omega
     rw[h2,hd];simp only[aaL,dF,jS,O9];rw[List.getElem?_eq_getElem hdl];simp only[Jf,ah,LQ,Option.getD_some];rw[aG (by omega) (by omega)]
   ·have:(k !=a - 1)=true:=by simp[h2]
    rw[this,bW,if_pos (.inr h2)]
  by_cases hc:a - 1<0∨k≠a - 1
  ·rw[if_pos hc];rw[if_pos hc] at hstep;exact dD hstep
  ·rw[if_neg hc];rw[if_neg hc] at hstep;rw[M.qI,eF hstep];have hz:=Hw hst k.toNat;have:=VZ l o hi hl hkl hst hs j (st[k.toNat]?.getD 0) (by omega) hz.1 (by omega);rw[M.qI] at this;exact this
def TI(l:List Nd)(o:Bool)(hl:l.length<=1048576)(hk:∀n,n∈l->n.kids.length<=1048576):∀(rest:List Nd) (i:Nat) (st:List Int),l.drop i=rest->st.length=i->i<=l.length->Qr st->
  M.qJ (fU o l) ((i:Int),encI st)=some (match fG st (ks rest) with
   |none=> .inl ()
   |some r=> .inr ((l.length:Int),encI r))
 |[],i,st,hd,hs,hi,hst=>by
  have:l.length<=i:=List.drop_eq_nil_iff.1 hd;rw[M.qJ];apply dD;simp only[lJ,M.Ae,M.uX,iL];rw[uh (by omega),dP];have:i=l.length:=by omega
  subst this;rfl
 |n::rest,i,st,hd,hs,hi,hst=>by
  have hn:l[i]? =some n:=by
   have:(l.drop i)[0]? =some n:=by rw[hd];rfl
   simpa using this
  have hlt:i<l.length:=(Je.1 hn).1;have hd':l.drop (i+1)=rest:=by rw[<-List.drop_drop,hd];rfl
  have hkn:=hk n (Lu hn);have hin:=VZ l o hn hl hkn hst hs n.kids.length (i:Int) (Nat.le_refl _) (by omega) (by omega);rw[List.take_length] at hin;have hks:ks (n::rest)=n.kids::ks rest:=rfl;rw[hks,fG,hs];have hstep:M.Ae (fU o l) ((i:Int),encI st)=some (match eH st n.kids.reverse ((i:Int) - 1) with
    |none=> .inr (.inl ())
    |some a=> .inl (((i+1:Nat):Int),encI (st++[a+1]))):=by
   simp only[lJ,M.Ae,M.uX,iL,dF,mJ,hn,Jf,ah,MN,dn];rw[zdt (by omega),bW,aG (n:=(n.kids.length:Int) - 1) (by omega) (by omega),hin];cases hw:eH st n.kids.reverse ((i:Int) - 1) with
   |none=>rfl
   |some a=>simp only[ah,nX,letE,GX];rw[dN (by omega),bW,dN (by omega),bW,aG (by omega) (by omega)];simp[encI]
  cases hw:eH st n.kids.reverse ((i:Int) - 1) with
  |none=>rw[hw] at hstep;exact dD hstep
  |some a=>rw[hw] at hstep;rw[M.qJ,eF hstep];have hr:=yc hst _ _ _ (by omega) (by omega) hw;have:=TI l o hl hk rest (i+1) (st++[a+1]) hd' (by simp[hs]) hlt (Mc hst hr.1 hr.2);rw[M.qJ] at this;exact this
def Qn(l:List Nd)(o:Bool)(hl:l.length<=1048576)(hk:∀n,n∈l->n.kids.length<=1048576):M.qR (fU o l)=some (CW l):=by
 simp only[M.qR,M.H6,I7,ah,iL]
 by_cases h1:1<=l.length∧l.length<=400
 ·have hb:(decide ((1:Int)<=(l.length:Int)) && decide ((l.length:Int)<=400))=true:=by simp;omega
  rw[hb,Bool.not_true,dP];have h:=TI l o hl hk l 0 [] rfl rfl (Nat.zero_le _) MP;have e0:((0:Nat):Int)=0:=rfl;rw[e0] at h;simp only[M.yg,M.E8];rw[show([]:au)=encI [] from rfl,h,CW,nK,if_pos (by rw[Jv];exact h1)];cases hs:fG [] (ks l) with
  |none=>rfl
  |some r=>
   have hrl:r.length=l.length:=by have:=PU _ _ _ hs;rw[Jv] at this;simpa using this
   simp only[ah,nX,letE,GH,bW];rw[aG (by omega) (by omega),show(l.length:Int) - 1=((l.length - 1:Nat):Int) by omega];simp only[aaL,dF,jS,O9];rw[List.getElem?_eq_getElem (by omega)];simp only[Jf,ah,LQ,Option.getD_some]
 ·have hb:(decide ((1:Int)<=(l.length:Int)) && decide ((l.length:Int)<=400))=false:=by
   cases hq:(decide ((1:Int)<=(l.length:Int)) && decide ((l.length:Int)<=400)) with
   |false=>rfl
   |true=>simp at hq;omega
  rw[hb,Bool.not_false,bW,CW,nK,if_neg (by rw[Jv];exact h1)]
def adL{st:List Int}(h:Qr st):∀(l:List Int) (a r:Int),a<st.length->eH st l a=some r->∀k,k∈l->0<=k∧k<st.length
 |[],a,r,h1,e,k,hk=>absurd hk List.not_mem_nil
 |x::l,a,r,h1,e,k,hk=>by
  rw[eH] at e;split at e
  ·cases e
  ·rename_i hc;have hz:=Hw h x.toNat;rcases List.mem_cons.1 hk with rfl|hk
   ·omega
   ·exact adL h l _ r (by omega) e k hk
def YE:∀(l:List (List Int)) (st r:List Int),Qr st->fG st l=some r->∀(i:Nat) n,l[i]? =some n->∀k,k∈n->0<=k∧k<st.length+i
 |[],st,r,h0,h,i,n,hn=>by simp at hn
 |m::l,st,r,h0,h,i,n,hn=>by
  rw[fG] at h;split at h
  ·cases h
  ·rename_i a ha;have hr:=yc h0 _ _ _ (by omega) (by omega) ha;cases i with
   |zero=>simp only[List.getElem?_cons_zero,gQ] at hn;subst hn;intro k hk;have:=adL h0 _ _ _ (by omega) ha k (List.mem_reverse.2 hk);omega
   |succ i=>simp only[List.getElem?_cons_succ] at hn;intro k hk;have:=YE l _ r (Mc h0 hr.1 hr.2) h i n hn k hk;simp at this;omega
def alS{l:List Nd}(h:CW l=true):1<=l.length∧l.length<=400:=by
 unfold CW at h;cases hs:nK (ks l) with
 |none=>rw[hs] at h;cases h
 |some r=>
  unfold nK at hs;split at hs
  ·rename_i hq;rw[Jv] at hq;exact hq
  ·cases hs
def TJ:∀(l:List (List Int)) (st r:List Int),fG st l=some r->∃t,r=st++t
 |[],st,r,h=>by rw[fG] at h;cases h;exact⟨[],by simp⟩
 |n::l,st,r,h=>by
  rw[fG] at h;split at h
  ·cases h
  ·obtain⟨t,ht⟩:=TJ l _ r h;exact⟨_,by rw[ht,AB]⟩
def ah5{st t:List Int}(h:Qr st):∀(ks:List Int) (a:Int),a<st.length->eH (st++t) ks a=eH st ks a
 |[],a,_=>rfl
 |k::ks,a,ha=>by
  rw[eH,eH];split
  ·rfl
  ·rename_i hc;have hk:k.toNat<st.length:=by omega
   have e:(st++t)[k.toNat]? =st[k.toNat]? :=List.getElem?_append_left hk;rw[e];have hz:=Hw h k.toNat;exact ah5 h ks _ (by omega)
def adM:∀(l:List (List Int)) (st r:List Int),Qr st->fG st l=some r->∀(i:Nat) n,l[i]? =some n->∃a,eH r n.reverse ((st.length:Int)+i - 1)=some a∧r[st.length+i]? =some (a+1)
 |[],st,r,h0,h,i,n,hn=>by simp at hn
 |m::l,st,r,h0,h,i,n,hn=>by
  rw[fG] at h;split at h
  ·cases h
  ·rename_i a ha;have hr:=yc h0 _ _ _ (by omega) (by omega) ha;obtain⟨t,ht⟩:=TJ l _ r h;cases i with
   |zero=>
    simp only[List.getElem?_cons_zero,gQ] at hn;subst hn;refine⟨a, ?_, ?_⟩
    ·rw[ht,AB,ah5 h0 _ _ (by simp;omega)];simpa using ha
    ·rw[ht];simp
   |succ i=>
    simp only[List.getElem?_cons_succ] at hn;obtain⟨b,h1,h2⟩:=adM l _ r (Mc h0 hr.1 hr.2) h i n hn;refine⟨b, ?_, ?_⟩
    ·rw[<-h1];congr 1;simp;omega
    ·rw[<-h2];congr 1;simp;omega
def Rt:List Int->Int
 |[]=>0
 |x::l=>x+Rt l
def YF:∀(a b:List Int),Rt (a++b)=Rt a+Rt b
 |[],b=>by simp[Rt]
 |x::a,b=>by rw[SS,Rt,Rt,YF a b];omega
def V3:∀l:List Int,Rt l.reverse=Rt l
 |[]=>rfl
 |x::l=>by rw[List.reverse_cons,YF,V3 l];simp[Rt];omega
def sz(r:List Int)(k:Int):Int:=k - (r[k.toNat]?.getD 0)+1
def ah6(r:List Int):∀(ks:List Int) (a b:Int),eH r ks a=some b->Rt (ks.map (sz r))=a - b
 |[],a,b,h=>by rw[eH] at h;cases h;simp[Rt]
 |k::ks,a,b,h=>by
  rw[eH] at h;split at h
  ·cases h
  ·rename_i hc;have:=ah6 r ks _ b h;rw[JI,Rt,this,sz];omega
structure Val(l:List Nd)(r:List Int):Prop where
 st:fG [] (ks l)=some r
 pos:1<=l.length
 le:l.length<=400
def aeW{l:List Nd}(h:CW l=true):∃r,Val l r:=by
 have hl:=alS h;unfold CW at h;cases hs:nK (ks l) with
 |none=>rw[hs] at h;cases h
 |some r=>
  unfold nK at hs;split at hs
  ·exact⟨r,hs,hl.1,hl.2⟩
  ·cases hs
section
variable {l:List Nd} {r:List Int}
def Val.len(h:Val l r):r.length=l.length:=by have:=PU _ _ _ h.st;rw[Jv] at this;simpa using this
def Val.ok(h:Val l r):Qr r:=Xj _ _ _ MP h.st
def Val.kids(h:Val l r){i:Nat}{n:Nd}(hn:l[i]? =some n):∀k,k∈n.kids->0<=k∧k<i:=by have:=YE _ _ _ MP h.st i n.kids (by simp[ks,hn]);simpa using this
def Val.sum(h:Val l r){i:Nat}{n:Nd}(hn:l[i]? =some n):Rt (n.kids.map (sz r))+1=sz r i:=by obtain⟨a,h1,h2⟩:=adM _ _ _ MP h.st i n.kids (by simp[ks,hn]);have:=ah6 r _ _ _ h1;rw[List.map_reverse,V3] at this;simp at h2;rw[this,sz,O9,h2];simp;omega
def Val.ao6(h:Val l r){k:Int}(h0:0<=k):1<=sz r k∧sz r k<=k+1:=by have:=Hw h.ok k.toNat;rw[sz];omega
end
def abt(l:List Nd)(i:Nat):List Int:=match l[i]? with|some n=>n.kids|none=>[]
def JE{l:List Nd}{i:Nat}{n:Nd}(h:l[i]? =some n):abt l i=n.kids:=by rw[abt,h]
def mx:Int->List Int->Int
 |a,[]=>a
 |a,x::l=>mx (bif decide (a<x) then x else a) l
def abu(B:Int):∀(l:List Int) (a:Int),a<=B->(∀x,x∈l->x<=B)->a<=mx a l∧mx a l<=B
 |[],a,h,_=>⟨Int.le_refl _,h⟩
 |x::l,a,h,hl=>by
  have hx:=hl x ZQ;rw[mx]
  by_cases c:a<x
  ·rw[zdt c,bW];have:=abu B l x hx λy hy=>hl y (XR _ hy)
   omega
  ·rw[uh c,dP];exact abu B l a h λy hy=>hl y (XR _ hy)
def aeX:∀(l:List Int) (a x:Int),mx a (l++[x])=(bif decide (mx a l<x) then x else mx a l)
 |[],a,x=>rfl
 |y::l,a,x=>by rw[SS,mx,mx,aeX l]
def ao7:∀(l:List Int) (a:Int),mx (1+a) (l.map λd=>1+d)=1+mx a l
 |[],a=>rfl
 |x::l,a=>by
  rw[JI,mx,mx,<-ao7 l]
  by_cases c:a<x
  ·rw[zdt c,bW,zdt (by omega),bW]
  ·rw[uh c,dP,uh (by omega),dP]
def dep(l:List Nd):Nat->Nat->Int
 |0,_=>0
 |f+1,i=>mx 0 ((abt l i).map λk=>dep l f k.toNat)+1
def Xz(l:List Nd):∀f i,0<=dep l f i∧dep l f i<=f
 |0,i=>by simp[dep]
 |f+1,i=>by have:=abu (f:Int) ((abt l i).map λk=>dep l f k.toNat) 0 (by omega) (λx hx=>by obtain⟨k,_,rfl⟩:=List.mem_map.1 hx;exact(Xz l f k.toNat).2);rw[dep];omega
section
variable {l:List Nd} {r:List Int} {o:Bool}
def ah7(h:Val l r):∀(f f' i:Nat),i<f->i<f'->i<l.length->dep l f i=dep l f' i
 |0,_,i,h1,_,_=>absurd h1 (Nat.not_lt_zero _)
 |f+1,0,i,_,h2,_=>absurd h2 (Nat.not_lt_zero _)
 |f+1,f'+1,i,h1,h2,h3=>by
  obtain⟨n,hn⟩:∃n,l[i]? =some n:=⟨l[i],by simp⟩
  rw[dep,dep,JE hn];congr 2;refine List.map_congr_left λk hk=> ?_
  have hkr:=h.kids hn k hk;exact ah7 h f f' k.toNat (by omega) (by omega) (by omega)
def abv(l:List Nd)(i:Nat):List Int:=(List.range i).map λj=>dep l (j+1) j
def ao8(l:List Nd)(i:Nat):(abv l i).length=i:=by simp[abv]
def ah8(l:List Nd){i j:Nat}(h:j<i):(abv l i)[j]? =some (dep l (j+1) j):=by simp[abv,List.getElem?_range h]
def alT(l:List Nd)(i:Nat):abv l (i+1)=abv l i++[dep l (i+1) i]:=by simp[abv,List.range_succ]
def ah9(h:Val l r){i:Nat}{n:Nd}(hn:l[i]? =some n)(hk:n.kids.length<=1048576):M.AQ (fU o l) (i:Int) (encI (abv l i)) (1,0)=some (dep l (i+1) i,(n.kids.length:Int)):=by
 have hil:=(Je.1 hn).1;have hle:=h.le;have hdk:∀k,k∈n.kids->dep l i k.toNat=dep l (k.toNat+1) k.toNat:=λk hkm=>by have:=h.kids hn k hkm;exact ah7 h _ _ _ (by omega) (by omega) (by omega)
 have hval:∀(j:Nat),(1:Int)+mx 0 ((n.kids.take j).map λk=>dep l i k.toNat)=mx 1 ((n.kids.take j).map λk=>1+dep l i k.toNat):=λj=>by have:=ao7 ((n.kids.take j).map λk=>dep l i k.toNat) 0;rw[List.map_map] at this;exact this.symm
 have hloop:=kX (b:=M.BJ (fU o l) (i:Int) (encI (abv l i))) (t:=(dep l (i+1) i,(n.kids.length:Int))) (λj=>(mx 1 ((n.kids.take j).map λk=>1+dep l i k.toNat),(j:Int))) n.kids.length
  (by
   intro j hj;obtain⟨k,hkj⟩:∃k,n.kids[j]? =some k:=⟨n.kids[j],by simp⟩
   have hkm:=Lu hkj;have hkr:=h.kids hn k hkm;obtain⟨q,hq⟩:∃q:Nat,k=q:=⟨k.toNat,by omega⟩
   have hd:=hdk k hkm;have hr:=Xz l (q+1) q;subst hq;rw[O9] at hd;simp only[M.BJ,M.wZ,dF,mJ,hn,Jf,ah,MN,dn,jS,hkj,LQ,O9,ah8 l (show q<i by omega)];rw[zdt (by omega),bW,aG (n:=(j:Int)+1) (by omega) (by omega),aG (n:=1+dep l (q+1) q) (by omega) (by omega),List.take_add_one,hkj,Option.toList_some,List.map_append,JI,List.map_nil,aeX,O9,hd];rfl)
  (by simp only[M.BJ,M.wZ,dF,mJ,hn,Jf,ah,MN,dn];rw[uh (by omega),dP,<-hval,List.take_length,dep,JE hn,Int.add_comm]) 0 (Nat.zero_le _)
 rw[M.AQ];exact hloop
def depth(l:List Nd):Int:=if CW l then dep l l.length (l.length - 1) else 0
def Ze(l:List Nd)(o:Bool)(hl:l.length<=1048576)(hk:∀n,n∈l->n.kids.length<=1048576):M.wL (fU o l)=some (depth l):=by
 simp only[M.wL,M.H7,Qn l o hl hk,ah,iL,depth];cases hs:CW l with
 |false=>rfl
 |true=>
  obtain⟨r,h⟩:=aeW hs;have h1:=h.pos;have h2:=h.le;have hloop:=kX (b:=M.BK (fU o l)) (t:=((l.length:Int),encI (abv l l.length))) (λi=>((i:Int),encI (abv l i))) l.length
   (by
    intro i hi;obtain⟨n,hn⟩:∃n,l[i]? =some n:=⟨l[i],by simp⟩
    have hin:=ah9 (o:=o) h hn (hk n (Lu hn));simp only[lJ,M.BK,M.xg,iL,hin,ah,dn,ao8,GX];rw[zdt (by omega),bW,dN (by omega),bW,dN (by omega),bW,aG (by omega) (by omega),alT];simp[encI])
   (by simp only[lJ,M.BK,M.xg,iL];rw[uh (by omega),dP]) 0 (Nat.zero_le _)
  have UQ:M.Fa (fU o l) (0,[])=_:=hloop;rw[Bool.not_true,dP,UQ,ah,aG (by omega) (by omega),show(l.length:Int) - 1=((l.length - 1:Nat):Int) by omega,if_pos rfl];simp only[dF,O9,jS,ah8 l (show l.length - 1<l.length by omega),Jf,ah,LQ];rw[show l.length - 1+1=l.length by omega]
def SQ(l:List Nd)(i:Nat):Nd:=match l[i]? with|some n=>n|none=>⟨0,0,[],[],[]⟩
def abw(n:Nd)(rows:au):Row:=[.int .i64 n.kind,.int .i64 n.op,.str n.text,.str n.other,.sl true 5 rows]
def Cm(l:List Nd):Nat->Nat->au
 |0,_=>[]
 |f+1,i=>(abt l i).map λk=>abw (SQ l k.toNat) (Cm l f k.toNat)
def adN(h:Val l r)(hk:∀n,n∈l->n.kids.length<=400):∀(f i:Nat) (n:Nd),i<f->l[i]? =some n->M.jd f (fU o l) (i:Int)=some (n.kind,n.op,n.text,n.other,Cm l f i)
 |0,i,n,hf,_=>absurd hf (Nat.not_lt_zero _)
 |f+1,i,n,hf,hn=>by
  have hkn:=hk n (Lu hn);have hil:=(Je.1 hn).1;have hkl:=h.kids hn;simp only[lJ,M.jd,M.Bo,dF,mJ,hn,Jf,ah,NP,Oo,Oq,Ot,MN,dn];have hrec:∀(j:Nat) k,n.kids[j]? =some k->M.jd f (fU o l) k=some ((SQ l k.toNat).kind,(SQ l k.toNat).op,(SQ l k.toNat).text,(SQ l k.toNat).other,Cm l f k.toNat):=by
   intro j k hj;have hkr:=hkl k (Lu hj);obtain⟨q,hq⟩:∃q:Nat,k=q:=⟨k.toNat,by omega⟩
   subst hq;obtain⟨m,hm⟩:∃m,l[q]? =some m:=⟨l[q]'(by omega),by simp⟩
   have:=adN h hk f q m (by omega) hm;rw[this,O9,SQ,hm]
  have hloop:=kX (b:=M.jZ (M.jd f))
   (t:=if n.kids=[] then .inl (fU o l,encI n.kids,(n.kids.length:Int),0,0,0,[],[],n.kind,n.op,n.text,n.other) else .inr (fU o l,encI n.kids,(n.kids.length:Int),(n.kids.length:Int),0,0,[],[],n.kind,n.op,n.text,n.other,Cm l (f+1) i))
   (λj=>if j=0 then .inl (fU o l,encI n.kids,(n.kids.length:Int),0,0,0,[],[],n.kind,n.op,n.text,n.other) else .inr (fU o l,encI n.kids,(n.kids.length:Int),(j:Int),0,0,[],[],n.kind,n.op,n.text,n.other,(n.kids.take j).map λk=>abw (SQ l k.toNat) (Cm l f k.toNat))) n.kids.length
   (by
    intro j hj;obtain⟨k,hkj⟩:∃k,n.kids[j]? =some k:=⟨n.kids[j],by simp⟩
    have hr:=hrec j k hkj;have htk:(n.kids.take (j+1)).map (λk=>abw (SQ l k.toNat) (Cm l f k.toNat))=(n.kids.take j).map (λk=>abw (SQ l k.toNat) (Cm l f k.toNat))++[abw (SQ l k.toNat) (Cm l f k.toNat)]:=by rw[List.take_add_one,hkj,Option.toList_some,List.map_append];rfl
    rw[if_neg (show¬j+1=0 by omega),htk]
    by_cases h0:j=0
    ·subst h0;rw[if_pos rfl];have aQZ:idx (encI n.kids) 0=some [D.int .i64 k]:=by have:=dF (encI n.kids) 0;rw[rE] at this;rw[this,jS,hkj];rfl
     simp only[lJ,M.jZ,M.jY,aQZ,ah,LQ,hr];rw[zdt (by omega),bW];rfl
    ·rw[if_neg h0];simp only[lJ,M.jZ,M.jY,dF,jS,hkj,Jf,ah,LQ,hr,List.length_map,U2,GX];rw[zdt (by omega),bW,dN (by omega),bW,dN (by omega),bW,aG (by omega) (by omega)];rfl)
   (by
    by_cases h0:n.kids.length=0
    ·have he:n.kids=[]:=List.length_eq_zero_iff.1 h0;rw[if_pos h0,if_pos he];simp only[lJ,M.jZ,M.jY];rw[uh (by omega),dP]
    ·have he:¬n.kids=[]:=λe=>h0 (by rw[e];rfl)
     rw[if_neg h0,if_neg he,List.take_length];simp only[lJ,M.jZ,M.jY];rw[uh (by omega),dP,Cm,JE hn]) 0 (Nat.zero_le _)
  rw[if_pos rfl] at hloop;rw[M.Dh,hloop,ah]
  by_cases he:n.kids=[]
  ·rw[if_pos he,Cm,JE hn,he];rfl
  ·rw[if_neg he];rfl
def UR:∀rows:au,dI rows=rows.map ql
 |[]=>rfl
 |x::rows=>by rw[dI,UR rows,JI]
def aia(h:Val l r)(hk:∀n,n∈l->n.kids.length<=400):∀(f i:Nat) (n:Nd) (a b:Int) (c d:aC),i<f->f<=1000->l[i]? =some n->M.jg f a b c d (dI (Cm l f i))=some (dep l f i)
 |0,i,n,a,b,c,d,hf,_,_=>absurd hf (Nat.not_lt_zero _)
 |f+1,i,n,a,b,c,d,hf,hf2,hn=>by
  have hkn:=hk n (Lu hn);have hil:=(Je.1 hn).1;have hkl:=h.kids hn;have hdr:=Xz l (f+1) i;have hlen:(dI (Cm l (f+1) i)).length=n.kids.length:=by rw[UR,Cm,JE hn];simp
  simp only[M.jg,M.xJ,hlen];have hloop:=kX (b:=M.xI (M.jg f) (dI (Cm l (f+1) i)) (n.kids.length:Int)) (t:=(mx 0 (n.kids.map λk=>dep l f k.toNat),(n.kids.length:Int)))
   (λj=>(mx 0 ((n.kids.take j).map λk=>dep l f k.toNat),(j:Int))) n.kids.length
   (by
    intro j hj;obtain⟨k,hkj⟩:∃k,n.kids[j]? =some k:=⟨n.kids[j],by simp⟩
    have hkr:=hkl k (Lu hkj);obtain⟨q,hq⟩:∃q:Nat,k=q:=⟨k.toNat,by omega⟩
    subst hq;obtain⟨m,hm⟩:∃m,l[q]? =some m:=⟨l[q]'(by omega),by simp⟩
    have hrow:(dI (Cm l (f+1) i))[j]? =some (ql (abw m (Cm l f q))):=by rw[UR,Cm,JE hn,List.getElem?_map,List.getElem?_map,hkj];simp only[Jf,O9,SQ,hm]
    have hrec:=aia h hk f q m m.kind m.op m.text m.other (by omega) (by omega) hm;have k0:eu .i64 (ql (abw m (Cm l f q))) 0=some m.kind:=rfl;have k1:eu .i64 (ql (abw m (Cm l f q))) 1=some m.op:=rfl;have k2:cStr (ql (abw m (Cm l f q))) 2=some m.text:=rfl;have k3:cStr (ql (abw m (Cm l f q))) 3=some m.other:=rfl;have k4:LC 5 (ql (abw m (Cm l f q))) 4=some (dI (Cm l f q)):=rfl;simp only[lJ,M.xI,M.rV,dF,hrow,ah,k0,k1,k2,k3,k4,hrec];rw[zdt (by omega),bW,aG (by omega) (by omega),List.take_add_one,hkj,Option.toList_some,List.map_append,JI,List.map_nil,aeX,O9];rfl)
   (by simp only[lJ,M.xI,M.rV];rw[uh (by omega),dP,List.take_length]) 0 (Nat.zero_le _)
  have UQ:M.Ak (M.jg f) (dI (Cm l (f+1) i)) (n.kids.length:Int) (0,0)=_:=hloop;rw[UQ,ah];rw[dep,JE hn] at hdr⊢;rw[aG (by omega) (by omega)]
end
def O5{α:Type}(p:Nat->α->Bool):List α->Nat->Bool
 |[],_=>true
 |x::l,i=>p i x && O5 p l (i+1)
def O6{α:Type}(l:List α)(p:Nat->α->Bool){b:Int->Option (Int⊕(Unit⊕Int))}
  (hb:∀(i:Nat) x,l[i]? =some x->b (i:Int)=some (bif p i x then .inl ((i:Int)+1) else .inr (.inl ()))) (he:b (l.length:Int)=some (.inr (.inr (l.length:Int)))):
  fF b 0=some (bif O5 p l 0 then .inr (l.length:Int) else .inl ()):=by
 have key:∀(t:List α) (i:Nat),l.drop i=t->i<=l.length->fF b (i:Int)=some (bif O5 p t i then .inr (l.length:Int) else .inl ()):=by
  intro t;induction t with
  |nil=>
   intro i hd hi;have:i=l.length:=by have:=congrArg List.length hd;simp at this;omega
   subst this;exact dD he
  |cons x t ih=>
   intro i hd hi;have hx:l[i]? =some x:=by
    have:(l.drop i)[0]? =some x:=by rw[hd];rfl
    simpa using this
   have hlt:i<l.length:=(Je.1 hx).1;have hd':l.drop (i+1)=t:=by rw[<-List.drop_drop,hd];rfl
   have hs:=hb i x hx;rw[O5];cases hw:p i x with
   |true=>rw[hw,bW] at hs;rw[eF hs,show(i:Int)+1=((i+1:Nat):Int) by omega,ih (i+1) hd' hlt,Bool.true_and]
   |false=>rw[hw,dP] at hs;rw[dD hs];rfl
 exact key l 0 rfl (Nat.zero_le _)
noncomputable def fOk(n:Nd):Bool:=(M.ay n.kind n.op n.text n.other (encI n.kids)).getD false
noncomputable def kOk(n:Nd)(j:Int)(d:Int):Bool:=(M.aF n.kind n.op n.text n.other (encI n.kids) j d).getD false
structure Small(n:Nd):Prop where
 text:n.text.length<=1048576
 other:n.other.length<=1048576
def aeY{n:Nd}(hs:Small n)(hk:n.kids.length<=400):M.ay n.kind n.op n.text n.other (encI n.kids)=some (fOk n)∧M.bH n.kind n.op n.text n.other (encI n.kids)=some (fOk n):=by obtain⟨b,h1,h2⟩:=ah1 n.kind n.op n.text n.other (encI n.kids) hs.text hs.other (by rw[dn];exact hk);rw[fOk,h1];exact⟨rfl,h2⟩
def aju{n:Nd}(hs:Small n)(hk:n.kids.length<=400)(hf:fOk n=true)(j:Nat)(hj:j<n.kids.length)(d:Int):
  M.aF n.kind n.op n.text n.other (encI n.kids) (j:Int) d=some (kOk n j d)∧M.cu n.kind n.op n.text n.other (encI n.kids) (j:Int) d=some (kOk n j d):=by
 have hc:=aeU (k:=n.kind) (op:=n.op) (t:=n.text) (o:=n.other) (kids:=encI n.kids) (by rw[(aeY hs hk).1,hf]);obtain⟨b,h1,h2⟩:=au1 n.kind n.op n.text n.other (encI n.kids) (j:Int) d (by omega) (by rw[dn];omega) (by rw[dn];exact hk) hc;rw[kOk,h1];exact⟨rfl,h2⟩
def akD:∀(l:List Int),(∀x,x∈l->1<=x)->(l.length:Int)<=Rt l
 |[],_=>by simp[Rt]
 |x::l,h=>by
  have:=akD l λy hy=>h y (XR _ hy)
  have:=h x ZQ;simp only[vX,Rt];omega
section
variable {l:List Nd} {r:List Int} {o:Bool}
def Val.V4(h:Val l r){i:Nat}{n:Nd}(hn:l[i]? =some n):n.kids.length<=400:=by have hil:=(Je.1 hn).1;have h1:=h.sum hn;have h2:=akD (n.kids.map (sz r)) (λx hx=>by obtain⟨k,hk,rfl⟩:=List.mem_map.1 hx;exact(h.ao6 (h.kids hn k hk).1).1);rw[List.length_map] at h2;have h3:=(h.ao6 (k:=(i:Int)) (by omega)).2;have:=h.le;omega
def Val.abx(h:Val l r):∀n,n∈l->n.kids.length<=400:=λn hn=>by obtain⟨i,hi⟩:=List.mem_iff_getElem?.1 hn;exact h.V4 hi
noncomputable def kp(l:List Nd)(n:Nd)(j:Nat)(k:Int):Bool:=kOk n j (SQ l k.toNat).kind
def aby(h:Val l r)(hsm:∀n,n∈l->Small n){i:Nat}{n:Nd}(hn:l[i]? =some n)(hf:fOk n=true)(v10:au)(v11 v12:Int):
  M.CZ (fU o l) (i:Int) 0=some (bif O5 (kp l n) n.kids 0 then .inr (n.kids.length:Int) else .inl ())∧
  M.Di (fU o l) v10 v11 v12 (encI n.kids) (n.kids.length:Int) n.kind n.op n.text n.other (encI n.kids) 0=some (bif O5 (kp l n) n.kids 0 then .inr (n.kids.length:Int) else .inl ()):=by
 have hkl:=h.V4 hn;have hs:=hsm n (Lu hn);have step:∀(j:Nat) k,n.kids[j]? =some k->∃(q:Nat) (m:Nd),k=(q:Int)∧l[q]? =some m∧(SQ l k.toNat).kind=m.kind:=by
  intro j k hj;have hkr:=h.kids hn k (Lu hj);have hil:=(Je.1 hn).1;obtain⟨q,hq⟩:∃q:Nat,k=q:=⟨k.toNat,by omega⟩
  obtain⟨m,hm⟩:∃m,l[q]? =some m:=⟨l[q]'(by omega),by simp⟩
  refine⟨q,m,hq,hm, ?_⟩;rw[hq,O9,SQ,hm]
 constructor
 ·rw[M.CZ];refine O6 n.kids (kp l n) (λj k hj=> ?_) ?_
  ·obtain⟨q,m,hq,hm,he⟩:=step j k hj;have hjl:=(Je.1 hj).1;have hok:=(aju hs hkl hf j hjl m.kind).1;rw[kp,he];subst hq;simp only[lJ,M.Jy,M.yT,dF,mJ,hn,hm,Jf,ah,NP,Oo,Oq,Ot,MN,dn,jS,hj,LQ,hok];rw[zdt (by omega),bW,aG (by omega) (by omega)];cases kOk n j m.kind<;>rfl
  ·simp only[lJ,M.Jy,M.yT,dF,mJ,hn,Jf,ah,MN,dn];rw[uh (by omega),dP]
 ·rw[M.Di];refine O6 n.kids (kp l n) (λj k hj=> ?_) ?_
  ·obtain⟨q,m,hq,hm,he⟩:=step j k hj;have hjl:=(Je.1 hj).1;have hok:=(aju hs hkl hf j hjl m.kind).2;rw[kp,he];subst hq;simp only[M.JB,M.zf,dF,mJ,hm,Jf,ah,NP,jS,hj,LQ,hok];rw[zdt (by omega),bW,aG (by omega) (by omega)];cases kOk n j m.kind<;>rfl
  ·simp only[M.JB,M.zf];rw[uh (by omega),dP]
noncomputable def np(l:List Nd)(_:Nat)(n:Nd):Bool:=fOk n && O5 (kp l n) n.kids 0
def YG(h:Val l r)(hsm:∀n,n∈l->Small n):
  M.C9 (fU o l) 0=some (bif O5 (np l) l 0 then .inr (l.length:Int) else .inl ())∧
  M.Dj (fU o l) (fU o l) (l.length:Int) 0=some (bif O5 (np l) l 0 then .inr (l.length:Int) else .inl ()):=by
 have hle:=h.le;constructor
 ·rw[M.C9];refine O6 l (np l) (λi n hi=> ?_) ?_
  ·have hil:=(Je.1 hi).1;have hf:=(aeY (hsm n (Lu hi)) (h.V4 hi)).1;simp only[lJ,M.Jz,M.yU,iL,dF,mJ,hi,Jf,ah,NP,Oo,Oq,Ot,MN,hf,np];rw[zdt (by omega),bW,aG (by omega) (by omega)];cases hff:fOk n with
   |false=>rfl
   |true=>have:=(aby (o:=o) h hsm hi hff [] 0 0).1;rw[Bool.not_true,dP,this,ah];cases O5 (kp l n) n.kids 0<;>rfl
  ·simp only[lJ,M.Jz,M.yU,iL];rw[uh (by omega),dP]
 ·rw[M.Dj];refine O6 l (np l) (λi n hi=> ?_) ?_
  ·have hil:=(Je.1 hi).1;have hf:=(aeY (hsm n (Lu hi)) (h.V4 hi)).2;simp only[lJ,M.JC,M.zh,dF,mJ,hi,Jf,ah,NP,Oo,Oq,Ot,MN,hf,np,dn];rw[zdt (by omega),bW,aG (by omega) (by omega)];cases hff:fOk n with
   |false=>rfl
   |true=>have:=(aby (o:=o) h hsm hi hff (fU o l) (l.length:Int) (i:Int)).2;rw[Bool.not_true,dP,this,ah];cases O5 (kp l n) n.kids 0<;>rfl
  ·simp only[lJ,M.JC,M.zh];rw[uh (by omega),dP]
end
noncomputable def P8(l:List Nd):Bool:=CW l &&(decide (depth l<=40) && O5 (np l) l 0)
section
variable (l:List Nd) (o:Bool) (hl:l.length<=1048576) (hk:∀n,n∈l->n.kids.length<=1048576) (hsm:∀n,n∈l->Small n)
include hl hk hsm
theorem abz:M.zN (fU o l)=some (P8 l):=by
 simp only[M.zN,M.J5,Qn l o hl hk,Ze l o hl hk,ah,P8];cases hs:CW l with
 |false=>rfl
 |true=>
  obtain⟨r,h⟩:=aeW hs;rw[Bool.not_true,dP,(YG (o:=o) h hsm).1,ah,Bool.true_and]
  by_cases hd:depth l<=40
  ·rw[uh (show¬depth l>40 by omega),dP,zdt hd,Bool.true_and];cases O5 (np l) l 0<;>rfl
  ·rw[zdt (show depth l>40 by omega),bW,uh hd];rfl
theorem abA:M.zU (fU o l)=some (P8 l):=by
 simp only[M.zU,M.Ku,Zd l o hl hk,ah,P8,iL];cases hs:CW l with
 |false=>rfl
 |true=>
  obtain⟨r,h⟩:=aeW hs;have h1:=h.pos;have h2:=h.le;obtain⟨n,hn⟩:∃n,l[l.length - 1]? =some n:=⟨l[l.length - 1]'(by omega),by simp⟩
  have ht:=adN (o:=o) h h.abx l.length (l.length - 1) n (by omega) hn;have hd:=aia h h.abx l.length (l.length - 1) n n.kind n.op n.text n.other (by omega) (by omega) hn;rw[Bool.not_true,dP,(YG (o:=o) h hsm).2,ah,Bool.true_and];simp only[M.rU,M.EU,iL];rw[aG (by omega) (by omega),show(l.length:Int) - 1=((l.length - 1:Nat):Int) by omega,M.QX ht,ah,ah];simp only;rw[M.UK hd,ah,depth,if_pos hs];cases O5 (np l) l 0<;>simp[nX,letE]
end
@[simp] theorem awp(l:List Int):EO (encI l)=true:=by
 induction l with
 |nil=>rfl
 |cons x l ih=>simp only[encI,JI] at ih⊢;simp[EO,jk,D.pure,ih]
@[simp] theorem awq(l:List Int):[[D.sl true 1 (encI l)]].all jk=true:=by simp[jk,D.pure]
noncomputable def mk(k:Int):aC:=(M.ES k).getD []
def au2(w:Bool):∀t:Tn,t.row w=[.int .i64 t.kind,.int .i64 t.op,.str t.text,.str t.other,.sl w 5 (mD w t.kids)]
 | .mk k o x y ks=>rfl
def aeZ(w:Bool)(a b:List Tn):mD w (a++b)=mD w a++mD w b:=by simp[Sr]
def ny(w:Bool)(a:List Tn):(mD w a).length=a.length:=by simp[Sr]
def kY{α:Type}{l:List α}{j:Nat}{t:α}(h:l[j]? =some t):l.take (j+1)=l.take j++[t]:=by rw[List.take_add_one,h];rfl
def aib{α:Type}{l:List α}{j:Nat}{t:α}(h:l[j]? =some t):l=l.take j++t::l.drop (j+1):=by obtain⟨hj,rfl⟩:=Je.1 h;rw[<-List.drop_eq_getElem_cons hj,List.take_append_drop]
def Gn{ks:List Tn}{j:Nat}{t:Tn}(h:ks[j]? =some t):sizes (ks.take j)+t.size<=sizes ks:=by have:=congrArg sizes (aib h);rw[kK,sizes] at this;omega
section
variable {l:List Nd} {b:Nat} {k op:Int} {x y:aC} {ks:List Tn}
def Lies.P9(h:Lies l b (.mk k op x y ks)){j:Nat}{t:Tn}(hj:ks[j]? =some t):Lies l (b+sizes (ks.take j)) t:=by have e:=aib hj;rw[e] at h;exact h.kid
def Qa{j:Nat}{t:Tn}(hj:ks[j]? =some t):(ends ks b)[j]? =some ((b+sizes (ks.take j)+sizes t.kids:Nat):Int):=by have hlt:=(Je.1 hj).1;have hs:=t.Ju;rw[am8 hlt,kY hj,kK,sizes,sizes];congr 1;omega
def Lies.root'{t:Tn}(h:Lies l b t):l[b+sizes t.kids]? =some ⟨t.kind,t.op,t.text,t.other,ends t.kids b⟩:=by cases t;exact h.root
def adO{j:Nat}{t:Tn}(hj:ks[j]? =some t):ends (ks.take (j+1)) b=ends (ks.take j) b++[((b+sizes (ks.take j)+t.size:Nat):Int) - 1]:=by rw[kY hj,NQ,ends,ends];congr 2<;>omega
def abB{j:Nat}{t:Tn}(hj:ks[j]? =some t):jC (ks.take (j+1)) b=jC (ks.take j) b++t.flat (b+sizes (ks.take j)):=by rw[kY hj,Hu,jC,jC,List.append_nil]
def ajv{w:Bool}{j:Nat}{t:Tn}(hj:ks[j]? =some t):mD w (ks.take (j+1))=mD w (ks.take j)++[t.row w]:=by rw[kY hj,aeZ];rfl
def ends_range:∀(ks:List Tn) (b:Nat),∀e,e∈ends ks b->(b:Int)<=e∧e<b+sizes ks
 |[],b,e,h=>by simp[ends] at h
 |t::ts,b,e,h=>by
  have hp:=t.size_pos;rw[ends] at h;have hs:(sizes (t::ts):Int)=t.size+sizes ts:=by rw[sizes];omega
  rcases List.mem_cons.1 h with rfl|h
  ·omega
  ·have:=ends_range ts _ e h;omega
end
mutual
def XA:∀(t:Tn) (b:Nat),∀n,n∈t.flat b->n.kids.length<=t.size∧∀e,e∈n.kids->(0:Int)<=e∧e<b+t.size
 | .mk k o x y ks,b,n,h=>by
  rw[Tn.flat] at h;rw[Tn.size];rcases List.mem_append.1 h with h|h
  ·have:=abC ks b n h;exact⟨by omega,λe he=>by have:=this.2 e he;omega⟩
  ·simp only[List.mem_singleton] at h;subst h;refine⟨by simp only[iQ];have:=jT ks;omega,λe he=> ?_⟩;have:=ends_range ks b e he;omega
def abC:∀(ks:List Tn) (b:Nat),∀n,n∈jC ks b->n.kids.length<=sizes ks∧∀e,e∈n.kids->(0:Int)<=e∧e<b+sizes ks
 |[],b,n,h=>by simp[jC] at h
 |t::ts,b,n,h=>by
  rw[jC] at h;rw[sizes];rcases List.mem_append.1 h with h|h
  ·have:=XA t b n h;exact⟨by omega,λe he=>by have:=this.2 e he;omega⟩
  ·have:=abC ts _ n h;exact⟨by omega,λe he=>by have:=this.2 e he;omega⟩
end
structure Ps where
 level:Int
 kV:Bool
 qh:Bool
 qj:Bool
 kE:Bool
 deriving DecidableEq,Inhabited
def Ps.top:Ps:=⟨1,false,false,false,false⟩
def Ps.zero:Ps:=⟨0,false,false,false,false⟩
def vT(op:Int):Int:=bif op==44 then 3 else bif op==45 then 4 else bif op==67||op==46 then 6 else
 bif op==63||(op==48||(op==47||(op==50||(op==62||op==49)))) then 7 else bif op==99 then 8 else bif op==55||op==56 then 9 else
 bif op==57||(op==58||op==59) then 10 else bif op==60 then 12 else 0
def lvl(k op:Int):Int:=bif k==15 then 1 else bif k==14 then 2 else bif k==13 then 5 else bif k==12 then vT op else bif k==11 then 11 else
 bif k==9||k==10 then 13 else bif k==6 then 14 else bif k==1||(k==2||(k==3||(k==4||(k==5||(k==7||k==8))))) then 15 else 0
def kZ(p:Ps):Bool:=(decide (1<=p.level) && decide (p.level<=15)) &&(!p.kV||p.level==14)
def fits(k op:Int)(p:Ps):Bool:=bif !(kZ p)||lvl k op==0 then false else bif p.qh && k==13 then false else bif p.qj &&(k==12 && op==62) then false else
 bif p.kE &&(k==11||(k==9||k==4)) then false else(p.kV && k==9)||decide (p.level<=lvl k op)
def sides(op:Int):Int×Int:=bif vT op==3 then(3,4) else bif vT op==4 then(4,5) else bif vT op==6 then(7,7) else bif vT op==7 then(8,8) else
 bif vT op==8 then(8,9) else bif vT op==9 then(9,10) else bif vT op==10 then(10,11) else(13,11)
def Qb(k op:Int)(j:Nat):Int:=bif k==15 then(bif Nat.beq j 0 then 14 else 1) else bif k==14 then(bif Nat.beq j 0 then 3 else 2) else bif k==13 then 5 else bif k==11 then 11 else
 bif k==12 then(bif Nat.beq j 0 then(sides op).1 else(sides op).2) else 14
def dZ(k op:Int)(n j:Nat)(p:Ps):Ps:=bif !(kZ p)||(!(Nat.blt j n)||lvl k op==0) then .zero else bif lvl k op==15||(k==13 && Nat.blt 1 n) then .top else
 ⟨Qb k op j,k==6,p.qh,p.qj,bif k==11||(k==9||(k==10||k==6)) then false else(Nat.beq j 0 && p.kE)||(Nat.beq j 1 &&(k==12 && op==99))⟩
def nC(k:Int)(j:Nat):Bool:=Nat.beq j 0 &&(k==9||(k==10||k==15))
def tok(k:Int):Tk:=⟨k,spell k,0⟩
def BD:Bool->List (List Tk)->List Tk
 |_,[]=>[]
 |b,x::l=>(bif b then x else tok 36::x)++BD false l
def xZ{α:Type}(L:List (List α))(j:Nat):List α:=(L[j]?).getD []
def CP(k op:Int)(n:Nat)(x:aC)(L:List (List Tk)):List Tk:=
 bif k==1 then[⟨6,x,0⟩] else bif k==2 then[⟨3,x,0⟩] else bif k==3 then[⟨4,x,0⟩] else bif k==4 then[⟨5,x,0⟩] else
 bif k==5 then⟨6,x,0⟩::tok 34::(BD true L++[tok 35]) else bif k==7 then⟨7,x,0⟩::tok 32::(BD true L++[tok 33]) else bif k==8 then⟨8,x,0⟩::tok 32::(BD true L++[tok 33]) else
 bif k==9||k==11 then tok op::xZ L 0 else bif k==6 then tok 68::xZ L 0 else bif k==10 then xZ L 0++[tok op] else
 bif k==13 then(bif Nat.blt 1 n then tok 32::(BD true L++[tok 33]) else xZ L 0)++[tok 24,⟨6,x,0⟩] else
 bif k==14 then xZ L 0++(tok 65::(xZ L 1++(tok 66::xZ L 2))) else xZ L 0++((bif op==99 then[] else[tok op])++xZ L 1)
mutual
def sK:Tn->Ps->List Tk
 | .mk k op x _ ks,p=>CP k op ks.length x (iW k op ks.length p ks 0)
def iW(k op:Int)(n:Nat)(p:Ps):List Tn->Nat->List (List Tk)
 |[],_=>[]
 |t::ts,j=>(bif nC k j||fits t.kind t.op (dZ k op n j p) then sK t (dZ k op n j p) else tok 32::(sK t .top++[tok 33]))::iW k op n p ts (j+1)
end
def TK(t:Tn)(p:Ps):List Tk:=bif fits t.kind t.op p then sK t p else tok 32::(sK t .top++[tok 33])
def GK(s:aC):Tn:=.mk 1 0 s [] []
def NY:Tn:=.mk 2 0 [] [] []
def TL(d:Tn):Tn:=.mk 4 4 [] [] [d]
def aic(d:Tn):Tn:=.mk 5 0 [] [] [d]
def Du(l:List Tn):Tn:=.mk 6 0 [] [] l
def Lj:Bool->List Tn->List Tn
 |_,[]=>[]
 |b,x::l=>(bif b then[x] else[GK [44],NY,x])++Lj false l
def V5(L:List Tn):Tn:=aic (TL (Du (Lj true L)))
def Gp(L:List Tn)(j:Nat):Tn:=(L[j]?).getD (GK [])
def abD(s:aC):List (aC)->Nat->Nat
 |[],m=>m
 |g::l,m=>abD s l (bif Nat.blt m g.length && g.isPrefixOf s then g.length else m)
def lastB(s:aC):Int:=match s.getLast? with|some c=>(c.toNat:Int)|none=> -1
def ajw(s:aC):Int:=match s with|c::_=>(c.toNat:Int)|[]=> -1
def Dv(a b:Tk):Bool:=
 bif a.text==[]||(b.text==[]||(a.kind==2||(a.kind==1||b.kind==1))) then false else
 bif isW (lastB a.text) && isW (ajw b.text) then true else
 bif a.kind==3 &&(isW (ajw b.text)||ajw b.text==46) then true else
 bif a.kind==6 && b.kind==32 then true else
 bif !(decide (30<=a.kind) && decide (a.kind<=68)) then false else Nat.blt a.text.length (abD (a.text++b.text) O1 0)
def Ru(k op:Int)(n:Nat)(x:aC)(gap:Bool)(L:List Tn):Tn:=
 bif k==1||(k==2||(k==3||k==4)) then GK x else bif k==5 then Du [GK (x++[91]),V5 L,GK [93]] else
 bif k==7||k==8 then Du [GK (x++[40]),V5 L,GK [41]] else bif k==9 then Du [GK (spell op),Gp L 0] else bif k==10 then Du [Gp L 0,GK (spell op)] else
 bif k==6 then Du [GK [36],Gp L 0] else bif k==11 then Du [GK (bif gap then spell op++[32] else spell op),Gp L 0] else
 bif k==14 then Du [Gp L 0,GK [32,63,32],Gp L 1,GK [32,58,32],Gp L 2] else
 bif k==13 then(bif Nat.blt 1 n then Du [GK [40],V5 L,GK ([41,32,105,110,32]++x)] else Du [Gp L 0,GK ([32,105,110,32]++x)]) else
 bif k==12 && op==99 then Du [Gp L 0,GK [32],Gp L 1] else
 bif k==12 &&(op==45||op==44) then aic (TL (Du [Gp L 0,GK (32::spell op),NY,Gp L 1])) else
 Du [Gp L 0,GK ((32::spell op)++[32]),Gp L 1]
def adP(op:Int)(L:List (List Tk)):Bool:=match L with
 |(b::_)::_=>Dv (tok op) b
 |_=>false
mutual
def nD:Tn->Ps->Tn
 | .mk k op x _ ks,p=>Ru k op ks.length x (adP op (iW k op ks.length p ks 0)) (pz k op ks.length p ks 0)
def pz(k op:Int)(n:Nat)(p:Ps):List Tn->Nat->List Tn
 |[],_=>[]
 |t::ts,j=>(bif nC k j||fits t.kind t.op (dZ k op n j p) then nD t (dZ k op n j p) else Du [GK [40],nD t .top,GK [41]])::pz k op n p ts (j+1)
end
def Ez(t:Tn)(p:Ps):Tn:=bif fits t.kind t.op p then nD t p else Du [GK [40],nD t .top,GK [41]]
def YH(p:Ps)(L:List Tn):Tn:=V5 (L.map λt=>Ez t p)
structure Cnt(k op:Int)(y:aC)(n:Nat):Prop where
 one:k=6∨k=9∨k=10∨k=11∨k=20∨k=32∨k=40∨k=41->n=1
 two:k=12∨k=15∨k=29∨k=30->n=2
 some_:k=5∨k=13∨k=44->1<=n
 three:k=14->n=3
 four:k=31->n=4
 cnd:k=28->n=2∨n=3
 prn:k=21->(op=0∨op=1)∧(y≠[]->1<=n)
 wrd:k=23∨k=24->n<=1
 non:k=1∨k=2∨k=3∨k=4∨k=16∨k=22∨k=25∨k=26∨k=34->n=0
 rule:k=42->(op=1∧n=1)∨(op=2∧n=1)∨(op=3∧n=2)
 range:k=43->(op=1∧n=2)∨(op=3∧n=3)
 few:k≠33->k≠45->n<=7
 bin:k=12->vT op≠0∧op≠61
 asg:k=15->op=54∨(38<=op∧op<=43)
 stp:k=9∨k=10->op=51∨op=52
 una:k=11->op=55∨op=56∨op=61
def cls(k op:Int)(n j:Nat):Nat:=
 if k=9∨k=10∨(k=15∧j=0) then 6 else if k=28∨k=29 then(if j=0 then 0 else 1) else if k=30 then(if j=0 then 1 else 0) else
 if k=31 then(if j<3 then 3 else 1) else if k=32∨k=40∨k=41 then 1 else if k=33 then 2 else if k=42 then(if op=2∨(op=3∧j+1=n) then 1 else 0) else
 if k=43 then(if j=2 then 1 else 0) else if k=44 then(if j+1=n then 1 else 4) else if k=45 then 5 else 0
def iC(c:Nat)(d:Int):Prop:=match c with
 |0=>1<=d∧d<=15
 |1=>d=33
 |2=>20<=d∧d<=34
 |3=>d=16∨(1<=d∧d<=15)
 |4=>d=1
 |5=>(40<=d∧d<=44)∨d=34
 |_=>d=1∨d=5∨d=6
def XB(k:Int):Prop:=(1<=k∧k<=16)∨(20<=k∧k<=34)∨(40<=k∧k<=45)
mutual
def GU:Tn->Prop
 | .mk k op x y ks=>XB k∧Cnt k op y ks.length∧oks k op ks.length ks 0
def oks(k op:Int)(n:Nat):List Tn->Nat->Prop
 |[],_=>True
 |t::ts,j=>iC (cls k op n j) t.kind∧(GU t)∧oks k op n ts (j+1)
end
def akE{k op:Int}{n:Nat}:∀{ks:List Tn} {j i:Nat} {t:Tn},oks k op n ks j->ks[i]? =some t->iC (cls k op n (j+i)) t.kind∧(GU t)
 |[],_,i,_,_,h=>by simp at h
 |u::ts,j,0,t,h,e=>by rw[oks] at h;cases e;exact⟨h.1,h.2.1⟩
 |u::ts,j,i+1,t,h,e=>by rw[oks] at h;rw[List.getElem?_cons_succ] at e;have:=akE h.2.2 e;rw[show j+1+i=j+(i+1) by omega] at this;exact this
def abE{k op:Int}{x y:aC}{ks:List Tn}(h:(GU (Tn.mk k op x y ks))){i:Nat}{t:Tn}(e:ks[i]? =some t):iC (cls k op ks.length i) t.kind∧(GU t):=by
 rw[GU] at h;have:=akE h.2.2 e
 rwa [Nat.zero_add] at this
def Qc{k op:Int}{x y:aC}{ks:List Tn}(h:(GU (Tn.mk k op x y ks))):Cnt k op y ks.length:=by rw[GU] at h;exact h.2.1
def TM(t:Tn):Prop:=1<=t.kind∧t.kind<=15
def V6{k op:Int}{x y:aC}{ks:List Tn}(h:(GU (Tn.mk k op x y ks)))(he:1<=k∧k<=15){i:Nat}{t:Tn}(e:ks[i]? =some t):(TM t)∧(GU t):=by
 obtain⟨h1,h2⟩:=abE h e;refine⟨?_,h2⟩;unfold TM;have:cls k op ks.length i=6∨cls k op ks.length i=0:=by
  unfold cls;split
  ·exact .inl rfl
  ·repeat(rw[if_neg (by omega)])
   exact .inr rfl
 rcases this with h|h<;>rw[h] at h1<;>simp only[iC] at h1<;>omega
def EK{a b lo hi:Int}(c:Bool)(ha:lo<=a∧a<=hi)(hb:lo<=b∧b<=hi):lo<=(bif c then a else b)∧(bif c then a else b)<=hi:=by cases c<;>assumption
def abG(op:Int):0<=vT op∧vT op<=12:=by unfold vT;exact EK _ ⟨by decide,by decide⟩ (EK _ ⟨by decide,by decide⟩ (EK _ ⟨by decide,by decide⟩ (EK _ ⟨by decide,by decide⟩ (EK _ ⟨by decide,by decide⟩ (EK _ ⟨by decide,by decide⟩ (EK _ ⟨by decide,by decide⟩ (EK _ ⟨by decide,by decide⟩ ⟨by decide,by decide⟩)))))))
def NZ{k op:Int}{y:aC}{n:Nat}(he:1<=k∧k<=15)(hc:Cnt k op y n):1<=lvl k op∧lvl k op<=15:=by
 obtain⟨h1,h2⟩:=he;have hk:k=1∨k=2∨k=3∨k=4∨k=5∨k=6∨k=7∨k=8∨k=9∨k=10∨k=11∨k=13∨k=14∨k=15∨k=12:=by omega
 rcases hk with rfl|rfl|rfl|rfl|rfl|rfl|rfl|rfl|rfl|rfl|rfl|rfl|rfl|rfl|rfl
 case inr.inr.inr.inr.inr.inr.inr.inr.inr.inr.inr.inr.inr.inr=>have hb:=(hc.bin rfl).1;have:=abG op;change 1<=vT op∧vT op<=15;omega
 all_goals simp[lvl]
def Qd(k n:Int)(x:aC)(c:Nat):Bool:=
 bif(!(k==4) && !(n==0))||(!(k==1) && !(x==[])) then false else
 bif k==1 then !(hasB 10 x) && Nat.beq c 0 else bif k==2||k==3 then Nat.beq c 0 else bif k==4 then(decide (0<=n) && decide (n<=40)) && Nat.beq c 1 else
 bif k==5 then Nat.beq c 1 else k==6
mutual
def dOk:Tn->Bool
 | .mk k n x _ ks=>aie ks && Qd k n x ks.length
def aie:List Tn->Bool
 |[]=>true
 |t::ts=>(dOk t) && aie ts
end
mutual
def yD:Tn->Option (aC)
 | .mk k _ x _ ks=>bif k==1 then some x else bif k==2 then some [32] else bif k==3 then none else vW ks
def vW:List Tn->Option (aC)
 |[]=>some []
 |t::ts=>match(yD t) with
  |none=>none
  |some a=>match vW ts with
   |none=>none
   |some b=>some (a++b)
end
mutual
def bh:Tn->Nat×Bool
 | .mk k _ x _ ks=>bif k==2||k==3 then(0,true) else((bif k==1 then x.length else 0)+(Ns ks).1,(Ns ks).2)
def Ns:List Tn->Nat×Bool
 |[]=>(0,false)
 |t::ts=>bif(bh t).2 then(bh t) else((bh t).1+(Ns ts).1,(Ns ts).2)
end
abbrev Pc:=Tn×Int×Bool
def abH(w col:Int)(t:Tn)(st:List Pc):Bool:=match(yD t) with
 |some s=>decide ((s.length:Int)+(Ns (st.map (·.1))).1<=w - col)
 |none=>false
def brk(out:aC)(i:Int):aC:=out++(10::List.replicate i.toNat 32)
def lay(w:Int):Nat->List Pc->aC->Int->aC
 |0,_,out,_=>out
 |_+1,[],out,_=>out
 |n+1,(.mk k m x y ks,i,f)::st,out,col=>
  bif k==1 then lay w n st (out++x) (col+x.length) else
  bif k==2 && f then lay w n st (out++[32]) (col+1) else
  bif k==2||k==3 then lay w n st (brk out i) i else
  bif k==4 then lay w n (ks.map (λt=>(t,i+m,f))++st) out col else
  bif k==5 then lay w n (ks.map (λt=>(t,i,f||abH w col (.mk k m x y ks) st))++st) out col else
  lay w n (ks.map (λt=>(t,i,f))++st) out col
def render(t:Tn)(w:Int):Option (aC):=bif(Nat.ble t.size 4000 &&(dOk t)) &&(decide (0<=w) && decide (w<=10000)) then some (lay w t.size [(t,0,false)] [] 0) else none
end Go.Proofs.YtbpldgeajbfgnaaGreatDoor
