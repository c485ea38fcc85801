import Derived.Test.YtbpldgeajbfgnaaGreatDoorZFields
import Derived.Test.YtbpldgeajbfgnaaGreatDoorVm4
namespace Go.Proofs.YtbpldgeajbfgnaaGreatDoor
set_option linter.unusedVariables false
set_option linter.unusedSimpArgs false
set_option linter.unusedSectionVars false
open Go Go.Vm
structure Cons(k op:Int)(n:Nat):Prop where
 two:k=29∨k=30→n=2
 four:k=31→n=4
 rule:k=42→(op=1∧n=1)∨(op=2∧n=1)∨(op=3∧n=2)
 range:k=43→(op=1∧n=2)∨(op=3∧n=3)
theorem aTq(op:Int)(t o:aF)(kids:ak)(h:M.ay 29 op t o kids=some true):kids.length=2:=by
 simp only[M.ay,M.aC,M.aQ,M.aH,M.aW,M.aU,M.aS,M.aI,aX,aN,Int.reduceBEq,Int.reduceLE,Int.reduceLT,Int.reduceSub,Int.reduceAdd,aY,ah] at h
 revert h
 cases op==0<;>cases t==[]<;>cases o==[]<;>simp<;>omega
theorem aTr(op:Int)(t o:aF)(kids:ak)(h:M.ay 30 op t o kids=some true):kids.length=2:=by
 simp only[M.ay,M.aC,M.aQ,M.aH,M.aW,M.aU,M.aS,M.aI,aX,aN,Int.reduceBEq,Int.reduceLE,Int.reduceLT,Int.reduceSub,Int.reduceAdd,aY,ah] at h
 revert h
 cases op==0<;>cases t==[]<;>cases o==[]<;>simp<;>omega
theorem aTs(op:Int)(t o:aF)(kids:ak)(h:M.ay 31 op t o kids=some true):kids.length=4:=by
 simp only[M.ay,M.aC,M.aQ,M.aH,M.aW,M.aU,M.aS,M.aI,aX,aN,Int.reduceBEq,Int.reduceLE,Int.reduceLT,Int.reduceSub,Int.reduceAdd,aY,ah] at h
 revert h
 cases op==0<;>cases t==[]<;>cases o==[]<;>simp<;>omega
theorem aTt(op:Int)(t o:aF)(kids:ak)(h:M.ay 42 op t o kids=some true):(op=1∧kids.length=1)∨(op=2∧kids.length=1)∨(op=3∧kids.length=2):=by
 by_cases h1:op=1
 ·subst h1
  simp only[M.ay,M.aC,M.aQ,M.aH,M.aW,M.aU,M.aS,M.aI,aX,aN,show IntKind.i64.wrap (1+IntKind.i64.wrap (Int.tdiv 1 3))=1 from rfl,show IntKind.i64.wrap (1+IntKind.i64.wrap (Int.tdiv 2 3))=1 from rfl,show IntKind.i64.wrap (1+IntKind.i64.wrap (Int.tdiv 3 3))=2 from rfl,show IntKind.i64.wrap (2+IntKind.i64.wrap (Int.tdiv 1 3))=2 from rfl,show IntKind.i64.wrap (2+IntKind.i64.wrap (Int.tdiv 3 3))=3 from rfl,Int.reduceBEq,Int.reduceLE,Int.reduceLT,Int.reduceSub,Int.reduceAdd,aY,ah] at h
  revert h
  cases t==[]<;>cases o==[]<;>simp<;>omega
 have e1:(op==1)=false:=by simpa using h1
 by_cases h2:op=2
 ·subst h2
  simp only[M.ay,M.aC,M.aQ,M.aH,M.aW,M.aU,M.aS,M.aI,aX,aN,show IntKind.i64.wrap (1+IntKind.i64.wrap (Int.tdiv 1 3))=1 from rfl,show IntKind.i64.wrap (1+IntKind.i64.wrap (Int.tdiv 2 3))=1 from rfl,show IntKind.i64.wrap (1+IntKind.i64.wrap (Int.tdiv 3 3))=2 from rfl,show IntKind.i64.wrap (2+IntKind.i64.wrap (Int.tdiv 1 3))=2 from rfl,show IntKind.i64.wrap (2+IntKind.i64.wrap (Int.tdiv 3 3))=3 from rfl,Int.reduceBEq,Int.reduceLE,Int.reduceLT,Int.reduceSub,Int.reduceAdd,aY,ah] at h
  revert h
  cases t==[]<;>cases o==[]<;>simp<;>omega
 have e2:(op==2)=false:=by simpa using h2
 by_cases h3:op=3
 ·subst h3
  simp only[M.ay,M.aC,M.aQ,M.aH,M.aW,M.aU,M.aS,M.aI,aX,aN,show IntKind.i64.wrap (1+IntKind.i64.wrap (Int.tdiv 1 3))=1 from rfl,show IntKind.i64.wrap (1+IntKind.i64.wrap (Int.tdiv 2 3))=1 from rfl,show IntKind.i64.wrap (1+IntKind.i64.wrap (Int.tdiv 3 3))=2 from rfl,show IntKind.i64.wrap (2+IntKind.i64.wrap (Int.tdiv 1 3))=2 from rfl,show IntKind.i64.wrap (2+IntKind.i64.wrap (Int.tdiv 3 3))=3 from rfl,Int.reduceBEq,Int.reduceLE,Int.reduceLT,Int.reduceSub,Int.reduceAdd,aY,ah] at h
  revert h
  cases t==[]<;>cases o==[]<;>simp<;>omega
 have e3:(op==3)=false:=by simpa using h3
 have hf:(decide ((1:Int)≤op) && decide (op≤3))=false:=by
  rw[Bool.and_eq_false_iff,decide_eq_false_iff_not,decide_eq_false_iff_not]
  omega
 simp only[M.ay,M.aC,M.aQ,M.aH,M.aW,M.aU,M.aS,M.aI,aX,aN,e1,e2,e3,hf,Int.reduceBEq,Int.reduceLE,Int.reduceLT,Int.reduceSub,Int.reduceAdd,aY,ah] at h
 cases h
theorem aTu(op:Int)(t o:aF)(kids:ak)(h:M.ay 43 op t o kids=some true):(op=1∧kids.length=2)∨(op=3∧kids.length=3):=by
 by_cases h1:op=1
 ·subst h1
  simp only[M.ay,M.aC,M.aQ,M.aH,M.aW,M.aU,M.aS,M.aI,aX,aN,show IntKind.i64.wrap (1+IntKind.i64.wrap (Int.tdiv 1 3))=1 from rfl,show IntKind.i64.wrap (1+IntKind.i64.wrap (Int.tdiv 2 3))=1 from rfl,show IntKind.i64.wrap (1+IntKind.i64.wrap (Int.tdiv 3 3))=2 from rfl,show IntKind.i64.wrap (2+IntKind.i64.wrap (Int.tdiv 1 3))=2 from rfl,show IntKind.i64.wrap (2+IntKind.i64.wrap (Int.tdiv 3 3))=3 from rfl,Int.reduceBEq,Int.reduceLE,Int.reduceLT,Int.reduceSub,Int.reduceAdd,aY,ah] at h
  revert h
  cases t==[]<;>cases o==[]<;>simp<;>omega
 have e1:(op==1)=false:=by simpa using h1
 by_cases h3:op=3
 ·subst h3
  simp only[M.ay,M.aC,M.aQ,M.aH,M.aW,M.aU,M.aS,M.aI,aX,aN,show IntKind.i64.wrap (1+IntKind.i64.wrap (Int.tdiv 1 3))=1 from rfl,show IntKind.i64.wrap (1+IntKind.i64.wrap (Int.tdiv 2 3))=1 from rfl,show IntKind.i64.wrap (1+IntKind.i64.wrap (Int.tdiv 3 3))=2 from rfl,show IntKind.i64.wrap (2+IntKind.i64.wrap (Int.tdiv 1 3))=2 from rfl,show IntKind.i64.wrap (2+IntKind.i64.wrap (Int.tdiv 3 3))=3 from rfl,Int.reduceBEq,Int.reduceLE,Int.reduceLT,Int.reduceSub,Int.reduceAdd,aY,ah] at h
  revert h
  cases t==[]<;>cases o==[]<;>simp<;>omega
 have e3:(op==3)=false:=by simpa using h3
 have hf:True:=trivial
 simp only[M.ay,M.aC,M.aQ,M.aH,M.aW,M.aU,M.aS,M.aI,aX,aN,e1,e3,hf,Int.reduceBEq,Int.reduceLE,Int.reduceLT,Int.reduceSub,Int.reduceAdd,aY,ah] at h
 cases h
theorem afo{k op:Int}{t o:aF}{kids:ak}(h:M.ay k op t o kids=some true):Cons k op kids.length:=
 ⟨fun e=>(by rcases e with rfl|rfl;exact aTq op t o kids h;exact aTr op t o kids h),fun e=>(by subst e;exact aTs op t o kids h),fun e=>(by subst e;exact aTt op t o kids h),fun e=>(by subst e;exact aTu op t o kids h)⟩
def lF(k:Int):Bool:=decide (1≤k) && decide (k≤15)
def zD(k:Int):Bool:=k==1||(k==5||k==6)
def CW(k:Int):Bool:=decide (20≤k) && decide (k≤34)
def isIt(k:Int):Bool:=decide (40≤k) && decide (k≤44)
theorem bC(k:Int):M.iL k=some (lF k)∧M.bK k=some (lF k):=by
 simp only[M.iL,M.J7,M.bK,M.bW,aX,aN,ah,lF,ge_iff_le]
 constructor<;>first|rfl|trivial
theorem bg(k:Int):M.ug k=some (CW k)∧M.cO k=some (CW k):=by
 simp only[M.ug,M.J8,M.cO,M.bY,aX,aN,ah,CW,ge_iff_le]
 constructor<;>first|rfl|trivial
theorem bD(k:Int):M.dL k 40 44=some (isIt k)∧M.zU k=some (isIt k):=by
 simp only[M.zU,M.Kz,aX,aN,ah,isIt,ge_iff_le]
 constructor<;>first|rfl|trivial
theorem aV(k:Int):M.og k=some (zD k)∧M.ou k=some (zD k):=by
 simp only[M.og,M.Fj,M.ou,M.FP,zD]
 cases k==1<;>cases k==5<;>exact⟨rfl,rfl⟩
theorem aI8(k:Int):zD k=(lF k && zD k):=by
 by_cases h1:k=1
 ·subst h1;rfl
 by_cases h5:k=5
 ·subst h5;rfl
 by_cases h6:k=6
 ·subst h6;rfl
 have e:zD k=false:=by simp[zD,h1,h5,h6]
 rw[e,Bool.and_false]
def wo(k op:Int)(t o:aF)(kids:ak)(j d:Int):Prop:=∃b,M.aG k op t o kids j d=some b∧M.dh k op t o kids j d=some b
theorem aTv(op:Int)(t o:aF)(kids:ak)(j d:Int)(h0:0≤j)(h1:j<kids.length)(hk:kids.length≤400)(hc:Cons 1 op kids.length):wo 1 op t o kids j d:=by
 simp only[wo,M.aG,M.aO,M.dh,M.bV,bC,bg,bD,aV,Int.reduceBEq,Int.reduceLE,Int.reduceLT,Int.reduceSub,Int.reduceAdd,aY,ah]
 generalize (lF d)=a0
 cases a0<;>exact⟨_,rfl,rfl⟩
theorem aTw(op:Int)(t o:aF)(kids:ak)(j d:Int)(h0:0≤j)(h1:j<kids.length)(hk:kids.length≤400)(hc:Cons 2 op kids.length):wo 2 op t o kids j d:=by
 simp only[wo,M.aG,M.aO,M.dh,M.bV,bC,bg,bD,aV,Int.reduceBEq,Int.reduceLE,Int.reduceLT,Int.reduceSub,Int.reduceAdd,aY,ah]
 generalize (lF d)=a0
 cases a0<;>exact⟨_,rfl,rfl⟩
theorem aTx(op:Int)(t o:aF)(kids:ak)(j d:Int)(h0:0≤j)(h1:j<kids.length)(hk:kids.length≤400)(hc:Cons 3 op kids.length):wo 3 op t o kids j d:=by
 simp only[wo,M.aG,M.aO,M.dh,M.bV,bC,bg,bD,aV,Int.reduceBEq,Int.reduceLE,Int.reduceLT,Int.reduceSub,Int.reduceAdd,aY,ah]
 generalize (lF d)=a0
 cases a0<;>exact⟨_,rfl,rfl⟩
theorem aTy(op:Int)(t o:aF)(kids:ak)(j d:Int)(h0:0≤j)(h1:j<kids.length)(hk:kids.length≤400)(hc:Cons 4 op kids.length):wo 4 op t o kids j d:=by
 simp only[wo,M.aG,M.aO,M.dh,M.bV,bC,bg,bD,aV,Int.reduceBEq,Int.reduceLE,Int.reduceLT,Int.reduceSub,Int.reduceAdd,aY,ah]
 generalize (lF d)=a0
 cases a0<;>exact⟨_,rfl,rfl⟩
theorem aTz(op:Int)(t o:aF)(kids:ak)(j d:Int)(h0:0≤j)(h1:j<kids.length)(hk:kids.length≤400)(hc:Cons 5 op kids.length):wo 5 op t o kids j d:=by
 simp only[wo,M.aG,M.aO,M.dh,M.bV,bC,bg,bD,aV,Int.reduceBEq,Int.reduceLE,Int.reduceLT,Int.reduceSub,Int.reduceAdd,aY,ah]
 generalize (lF d)=a0
 cases a0<;>exact⟨_,rfl,rfl⟩
theorem aTA(op:Int)(t o:aF)(kids:ak)(j d:Int)(h0:0≤j)(h1:j<kids.length)(hk:kids.length≤400)(hc:Cons 6 op kids.length):wo 6 op t o kids j d:=by
 simp only[wo,M.aG,M.aO,M.dh,M.bV,bC,bg,bD,aV,Int.reduceBEq,Int.reduceLE,Int.reduceLT,Int.reduceSub,Int.reduceAdd,aY,ah]
 generalize (lF d)=a0
 cases a0<;>exact⟨_,rfl,rfl⟩
theorem aTB(op:Int)(t o:aF)(kids:ak)(j d:Int)(h0:0≤j)(h1:j<kids.length)(hk:kids.length≤400)(hc:Cons 7 op kids.length):wo 7 op t o kids j d:=by
 simp only[wo,M.aG,M.aO,M.dh,M.bV,bC,bg,bD,aV,Int.reduceBEq,Int.reduceLE,Int.reduceLT,Int.reduceSub,Int.reduceAdd,aY,ah]
 generalize (lF d)=a0
 cases a0<;>exact⟨_,rfl,rfl⟩
theorem aTC(op:Int)(t o:aF)(kids:ak)(j d:Int)(h0:0≤j)(h1:j<kids.length)(hk:kids.length≤400)(hc:Cons 8 op kids.length):wo 8 op t o kids j d:=by
 simp only[wo,M.aG,M.aO,M.dh,M.bV,bC,bg,bD,aV,Int.reduceBEq,Int.reduceLE,Int.reduceLT,Int.reduceSub,Int.reduceAdd,aY,ah]
 generalize (lF d)=a0
 cases a0<;>exact⟨_,rfl,rfl⟩
theorem aTD(op:Int)(t o:aF)(kids:ak)(j d:Int)(h0:0≤j)(h1:j<kids.length)(hk:kids.length≤400)(hc:Cons 9 op kids.length):wo 9 op t o kids j d:=by
 simp only[wo,M.aG,M.aO,M.dh,M.bV,bC,bg,bD,aV,Int.reduceBEq,Int.reduceLE,Int.reduceLT,Int.reduceSub,Int.reduceAdd,aY,ah]
 generalize (zD d)=a0
 cases a0<;>exact⟨_,rfl,rfl⟩
theorem aI9(op:Int)(t o:aF)(kids:ak)(j d:Int)(h0:0≤j)(h1:j<kids.length)(hk:kids.length≤400)(hc:Cons 10 op kids.length):wo 10 op t o kids j d:=by
 simp only[wo,M.aG,M.aO,M.dh,M.bV,bC,bg,bD,aV,Int.reduceBEq,Int.reduceLE,Int.reduceLT,Int.reduceSub,Int.reduceAdd,aY,ah]
 generalize (zD d)=a0
 cases a0<;>exact⟨_,rfl,rfl⟩
theorem aJa(op:Int)(t o:aF)(kids:ak)(j d:Int)(h0:0≤j)(h1:j<kids.length)(hk:kids.length≤400)(hc:Cons 11 op kids.length):wo 11 op t o kids j d:=by
 simp only[wo,M.aG,M.aO,M.dh,M.bV,bC,bg,bD,aV,Int.reduceBEq,Int.reduceLE,Int.reduceLT,Int.reduceSub,Int.reduceAdd,aY,ah]
 generalize (lF d)=a0
 cases a0<;>exact⟨_,rfl,rfl⟩
theorem aJb(op:Int)(t o:aF)(kids:ak)(j d:Int)(h0:0≤j)(h1:j<kids.length)(hk:kids.length≤400)(hc:Cons 12 op kids.length):wo 12 op t o kids j d:=by
 simp only[wo,M.aG,M.aO,M.dh,M.bV,bC,bg,bD,aV,Int.reduceBEq,Int.reduceLE,Int.reduceLT,Int.reduceSub,Int.reduceAdd,aY,ah]
 generalize (lF d)=a0
 cases a0<;>exact⟨_,rfl,rfl⟩
theorem aJc(op:Int)(t o:aF)(kids:ak)(j d:Int)(h0:0≤j)(h1:j<kids.length)(hk:kids.length≤400)(hc:Cons 13 op kids.length):wo 13 op t o kids j d:=by
 simp only[wo,M.aG,M.aO,M.dh,M.bV,bC,bg,bD,aV,Int.reduceBEq,Int.reduceLE,Int.reduceLT,Int.reduceSub,Int.reduceAdd,aY,ah]
 generalize (lF d)=a0
 cases a0<;>exact⟨_,rfl,rfl⟩
theorem aJd(op:Int)(t o:aF)(kids:ak)(j d:Int)(h0:0≤j)(h1:j<kids.length)(hk:kids.length≤400)(hc:Cons 14 op kids.length):wo 14 op t o kids j d:=by
 simp only[wo,M.aG,M.aO,M.dh,M.bV,bC,bg,bD,aV,Int.reduceBEq,Int.reduceLE,Int.reduceLT,Int.reduceSub,Int.reduceAdd,aY,ah]
 generalize (lF d)=a0
 cases a0<;>exact⟨_,rfl,rfl⟩
theorem aJe(op:Int)(t o:aF)(kids:ak)(j d:Int)(h0:0≤j)(h1:j<kids.length)(hk:kids.length≤400)(hc:Cons 15 op kids.length):wo 15 op t o kids j d:=by
 by_cases hj:j=0
 ·subst hj
  have hl:=aI8 d
  simp only[wo,M.aG,M.aO,M.dh,M.bV,bC,bg,bD,aV,Int.reduceBEq,Int.reduceLE,Int.reduceLT,Int.reduceSub,Int.reduceAdd,aY,ah]
  revert hl
  cases lF d<;>cases zD d<;>intro hl<;>first|exact⟨_,rfl,rfl⟩|cases hl
 have e0:(j==0)=false:=by simpa using hj
 have e1:decide (0<j)=true:=decide_eq_true (by omega)
 simp only[wo,M.aG,M.aO,M.dh,M.bV,bC,bg,bD,aV,e0,e1,Int.reduceBEq,Int.reduceLE,Int.reduceLT,Int.reduceSub,Int.reduceAdd,aY,ah]
 generalize (lF d)=a0
 cases a0<;>exact⟨_,rfl,rfl⟩
theorem aJf(op:Int)(t o:aF)(kids:ak)(j d:Int)(h0:0≤j)(h1:j<kids.length)(hk:kids.length≤400)(hc:Cons 16 op kids.length):wo 16 op t o kids j d:=by
 simp only[wo,M.aG,M.aO,M.dh,M.bV,bC,bg,bD,aV,Int.reduceBEq,Int.reduceLE,Int.reduceLT,Int.reduceSub,Int.reduceAdd,aY,ah]
 generalize (lF d)=a0
 cases a0<;>exact⟨_,rfl,rfl⟩
theorem aJg(op:Int)(t o:aF)(kids:ak)(j d:Int)(h0:0≤j)(h1:j<kids.length)(hk:kids.length≤400)(hc:Cons 20 op kids.length):wo 20 op t o kids j d:=by
 simp only[wo,M.aG,M.aO,M.dh,M.bV,bC,bg,bD,aV,Int.reduceBEq,Int.reduceLE,Int.reduceLT,Int.reduceSub,Int.reduceAdd,aY,ah]
 generalize (lF d)=a0
 cases a0<;>exact⟨_,rfl,rfl⟩
theorem aJh(op:Int)(t o:aF)(kids:ak)(j d:Int)(h0:0≤j)(h1:j<kids.length)(hk:kids.length≤400)(hc:Cons 21 op kids.length):wo 21 op t o kids j d:=by
 simp only[wo,M.aG,M.aO,M.dh,M.bV,bC,bg,bD,aV,Int.reduceBEq,Int.reduceLE,Int.reduceLT,Int.reduceSub,Int.reduceAdd,aY,ah]
 generalize (lF d)=a0
 cases a0<;>exact⟨_,rfl,rfl⟩
theorem aJi(op:Int)(t o:aF)(kids:ak)(j d:Int)(h0:0≤j)(h1:j<kids.length)(hk:kids.length≤400)(hc:Cons 22 op kids.length):wo 22 op t o kids j d:=by
 simp only[wo,M.aG,M.aO,M.dh,M.bV,bC,bg,bD,aV,Int.reduceBEq,Int.reduceLE,Int.reduceLT,Int.reduceSub,Int.reduceAdd,aY,ah]
 generalize (lF d)=a0
 cases a0<;>exact⟨_,rfl,rfl⟩
theorem aJj(op:Int)(t o:aF)(kids:ak)(j d:Int)(h0:0≤j)(h1:j<kids.length)(hk:kids.length≤400)(hc:Cons 23 op kids.length):wo 23 op t o kids j d:=by
 simp only[wo,M.aG,M.aO,M.dh,M.bV,bC,bg,bD,aV,Int.reduceBEq,Int.reduceLE,Int.reduceLT,Int.reduceSub,Int.reduceAdd,aY,ah]
 generalize (lF d)=a0
 cases a0<;>exact⟨_,rfl,rfl⟩
theorem aJk(op:Int)(t o:aF)(kids:ak)(j d:Int)(h0:0≤j)(h1:j<kids.length)(hk:kids.length≤400)(hc:Cons 24 op kids.length):wo 24 op t o kids j d:=by
 simp only[wo,M.aG,M.aO,M.dh,M.bV,bC,bg,bD,aV,Int.reduceBEq,Int.reduceLE,Int.reduceLT,Int.reduceSub,Int.reduceAdd,aY,ah]
 generalize (lF d)=a0
 cases a0<;>exact⟨_,rfl,rfl⟩
theorem aJl(op:Int)(t o:aF)(kids:ak)(j d:Int)(h0:0≤j)(h1:j<kids.length)(hk:kids.length≤400)(hc:Cons 25 op kids.length):wo 25 op t o kids j d:=by
 simp only[wo,M.aG,M.aO,M.dh,M.bV,bC,bg,bD,aV,Int.reduceBEq,Int.reduceLE,Int.reduceLT,Int.reduceSub,Int.reduceAdd,aY,ah]
 generalize (lF d)=a0
 cases a0<;>exact⟨_,rfl,rfl⟩
theorem aJm(op:Int)(t o:aF)(kids:ak)(j d:Int)(h0:0≤j)(h1:j<kids.length)(hk:kids.length≤400)(hc:Cons 26 op kids.length):wo 26 op t o kids j d:=by
 simp only[wo,M.aG,M.aO,M.dh,M.bV,bC,bg,bD,aV,Int.reduceBEq,Int.reduceLE,Int.reduceLT,Int.reduceSub,Int.reduceAdd,aY,ah]
 generalize (lF d)=a0
 cases a0<;>exact⟨_,rfl,rfl⟩
theorem aJn(op:Int)(t o:aF)(kids:ak)(j d:Int)(h0:0≤j)(h1:j<kids.length)(hk:kids.length≤400)(hc:Cons 27 op kids.length):wo 27 op t o kids j d:=by
 simp only[wo,M.aG,M.aO,M.dh,M.bV,bC,bg,bD,aV,Int.reduceBEq,Int.reduceLE,Int.reduceLT,Int.reduceSub,Int.reduceAdd,aY,ah]
 generalize (lF d)=a0
 cases a0<;>exact⟨_,rfl,rfl⟩
theorem aJo(op:Int)(t o:aF)(kids:ak)(j d:Int)(h0:0≤j)(h1:j<kids.length)(hk:kids.length≤400)(hc:Cons 28 op kids.length):wo 28 op t o kids j d:=by
 by_cases hj:j=0
 ·subst hj
  simp only[wo,M.aG,M.aO,M.dh,M.bV,bC,bg,bD,aV,Int.reduceBEq,Int.reduceLE,Int.reduceLT,Int.reduceSub,Int.reduceAdd,aY,ah]
  generalize (lF d)=a0
  generalize (d==33)=a1
  cases a0<;>cases a1<;>exact⟨_,rfl,rfl⟩
 have e0:(j==0)=false:=by simpa using hj
 have e1:decide (0<j)=true:=decide_eq_true (by omega)
 simp only[wo,M.aG,M.aO,M.dh,M.bV,bC,bg,bD,aV,e0,e1,Int.reduceBEq,Int.reduceLE,Int.reduceLT,Int.reduceSub,Int.reduceAdd,aY,ah]
 generalize (d==33)=a0
 cases a0<;>exact⟨_,rfl,rfl⟩
theorem aJp(op:Int)(t o:aF)(kids:ak)(j d:Int)(h0:0≤j)(h1:j<kids.length)(hk:kids.length≤400)(hc:Cons 29 op kids.length):wo 29 op t o kids j d:=by
 have hl:=hc.two (by omega)
 obtain rfl|rfl:j=0∨j=1:=by omega
 ·simp only[wo,M.aG,M.aO,M.dh,M.bV,bC,bg,bD,aV,Int.reduceBEq,Int.reduceLE,Int.reduceLT,Int.reduceSub,Int.reduceAdd,aY,ah]
  generalize (lF d)=a0
  generalize (d==33)=a1
  cases a0<;>cases a1<;>exact⟨_,rfl,rfl⟩
 ·simp only[wo,M.aG,M.aO,M.dh,M.bV,bC,bg,bD,aV,Int.reduceBEq,Int.reduceLE,Int.reduceLT,Int.reduceSub,Int.reduceAdd,aY,ah]
  generalize (lF d)=a0
  generalize (d==33)=a1
  cases a0<;>cases a1<;>exact⟨_,rfl,rfl⟩
theorem aJq(op:Int)(t o:aF)(kids:ak)(j d:Int)(h0:0≤j)(h1:j<kids.length)(hk:kids.length≤400)(hc:Cons 30 op kids.length):wo 30 op t o kids j d:=by
 have hl:=hc.two (by omega)
 obtain rfl|rfl:j=0∨j=1:=by omega
 ·simp only[wo,M.aG,M.aO,M.dh,M.bV,bC,bg,bD,aV,Int.reduceBEq,Int.reduceLE,Int.reduceLT,Int.reduceSub,Int.reduceAdd,aY,ah]
  generalize (lF d)=a0
  generalize (d==33)=a1
  cases a0<;>cases a1<;>exact⟨_,rfl,rfl⟩
 ·simp only[wo,M.aG,M.aO,M.dh,M.bV,bC,bg,bD,aV,Int.reduceBEq,Int.reduceLE,Int.reduceLT,Int.reduceSub,Int.reduceAdd,aY,ah]
  generalize (lF d)=a0
  generalize (d==33)=a1
  cases a0<;>cases a1<;>exact⟨_,rfl,rfl⟩
theorem aJr(op:Int)(t o:aF)(kids:ak)(j d:Int)(h0:0≤j)(h1:j<kids.length)(hk:kids.length≤400)(hc:Cons 31 op kids.length):wo 31 op t o kids j d:=by
 have hl:=hc.four rfl
 have hw:IntKind.i64.wrap ((kids.length:Int) - 1)=3:=by rw[hl];rfl
 obtain rfl|rfl|rfl|rfl:j=0∨j=1∨j=2∨j=3:=by omega
 ·simp only[wo,M.aG,M.aO,M.dh,M.bV,bC,bg,bD,aV,hw,Int.reduceBEq,Int.reduceLE,Int.reduceLT,Int.reduceSub,Int.reduceAdd,aY,ah]
  generalize (lF d)=a0
  generalize (d==16)=a1
  generalize (d==33)=a2
  cases a0<;>cases a1<;>cases a2<;>exact⟨_,rfl,rfl⟩
 ·simp only[wo,M.aG,M.aO,M.dh,M.bV,bC,bg,bD,aV,hw,Int.reduceBEq,Int.reduceLE,Int.reduceLT,Int.reduceSub,Int.reduceAdd,aY,ah]
  generalize (lF d)=a0
  generalize (d==16)=a1
  generalize (d==33)=a2
  cases a0<;>cases a1<;>cases a2<;>exact⟨_,rfl,rfl⟩
 ·simp only[wo,M.aG,M.aO,M.dh,M.bV,bC,bg,bD,aV,hw,Int.reduceBEq,Int.reduceLE,Int.reduceLT,Int.reduceSub,Int.reduceAdd,aY,ah]
  generalize (lF d)=a0
  generalize (d==16)=a1
  generalize (d==33)=a2
  cases a0<;>cases a1<;>cases a2<;>exact⟨_,rfl,rfl⟩
 ·simp only[wo,M.aG,M.aO,M.dh,M.bV,bC,bg,bD,aV,hw,Int.reduceBEq,Int.reduceLE,Int.reduceLT,Int.reduceSub,Int.reduceAdd,aY,ah]
  generalize (lF d)=a0
  generalize (d==16)=a1
  generalize (d==33)=a2
  cases a0<;>cases a1<;>cases a2<;>exact⟨_,rfl,rfl⟩
theorem aJs(op:Int)(t o:aF)(kids:ak)(j d:Int)(h0:0≤j)(h1:j<kids.length)(hk:kids.length≤400)(hc:Cons 32 op kids.length):wo 32 op t o kids j d:=by
 simp only[wo,M.aG,M.aO,M.dh,M.bV,bC,bg,bD,aV,Int.reduceBEq,Int.reduceLE,Int.reduceLT,Int.reduceSub,Int.reduceAdd,aY,ah]
 generalize (d==33)=a0
 cases a0<;>exact⟨_,rfl,rfl⟩
theorem aJt(op:Int)(t o:aF)(kids:ak)(j d:Int)(h0:0≤j)(h1:j<kids.length)(hk:kids.length≤400)(hc:Cons 33 op kids.length):wo 33 op t o kids j d:=by
 simp only[wo,M.aG,M.aO,M.dh,M.bV,bC,bg,bD,aV,Int.reduceBEq,Int.reduceLE,Int.reduceLT,Int.reduceSub,Int.reduceAdd,aY,ah]
 generalize (CW d)=a0
 cases a0<;>exact⟨_,rfl,rfl⟩
theorem aJu(op:Int)(t o:aF)(kids:ak)(j d:Int)(h0:0≤j)(h1:j<kids.length)(hk:kids.length≤400)(hc:Cons 34 op kids.length):wo 34 op t o kids j d:=by
 simp only[wo,M.aG,M.aO,M.dh,M.bV,bC,bg,bD,aV,Int.reduceBEq,Int.reduceLE,Int.reduceLT,Int.reduceSub,Int.reduceAdd,aY,ah]
 generalize (lF d)=a0
 cases a0<;>exact⟨_,rfl,rfl⟩
theorem aJv(op:Int)(t o:aF)(kids:ak)(j d:Int)(h0:0≤j)(h1:j<kids.length)(hk:kids.length≤400)(hc:Cons 40 op kids.length):wo 40 op t o kids j d:=by
 simp only[wo,M.aG,M.aO,M.dh,M.bV,bC,bg,bD,aV,Int.reduceBEq,Int.reduceLE,Int.reduceLT,Int.reduceSub,Int.reduceAdd,aY,ah]
 generalize (d==33)=a0
 cases a0<;>exact⟨_,rfl,rfl⟩
theorem aJw(op:Int)(t o:aF)(kids:ak)(j d:Int)(h0:0≤j)(h1:j<kids.length)(hk:kids.length≤400)(hc:Cons 41 op kids.length):wo 41 op t o kids j d:=by
 simp only[wo,M.aG,M.aO,M.dh,M.bV,bC,bg,bD,aV,Int.reduceBEq,Int.reduceLE,Int.reduceLT,Int.reduceSub,Int.reduceAdd,aY,ah]
 generalize (d==33)=a0
 cases a0<;>exact⟨_,rfl,rfl⟩
theorem aJx(op:Int)(t o:aF)(kids:ak)(j d:Int)(h0:0≤j)(h1:j<kids.length)(hk:kids.length≤400)(hc:Cons 42 op kids.length):wo 42 op t o kids j d:=by
 rcases hc.rule rfl with⟨rfl,hl⟩|⟨rfl,hl⟩|⟨rfl,hl⟩
 ·have hw:IntKind.i64.wrap ((kids.length:Int) - 1)=0:=by rw[hl];rfl
  obtain rfl:j=0:=by omega
  simp only[wo,M.aG,M.aO,M.dh,M.bV,bC,bg,bD,aV,hw,Int.reduceBEq,Int.reduceLE,Int.reduceLT,Int.reduceSub,Int.reduceAdd,aY,ah]
  generalize (lF d)=a0
  generalize (d==33)=a1
  cases a0<;>cases a1<;>exact⟨_,rfl,rfl⟩
 ·have hw:IntKind.i64.wrap ((kids.length:Int) - 1)=0:=by rw[hl];rfl
  obtain rfl:j=0:=by omega
  simp only[wo,M.aG,M.aO,M.dh,M.bV,bC,bg,bD,aV,hw,Int.reduceBEq,Int.reduceLE,Int.reduceLT,Int.reduceSub,Int.reduceAdd,aY,ah]
  generalize (lF d)=a0
  generalize (d==33)=a1
  cases a0<;>cases a1<;>exact⟨_,rfl,rfl⟩
 ·have hw:IntKind.i64.wrap ((kids.length:Int) - 1)=1:=by rw[hl];rfl
  obtain rfl|rfl:j=0∨j=1:=by omega
  ·simp only[wo,M.aG,M.aO,M.dh,M.bV,bC,bg,bD,aV,hw,Int.reduceBEq,Int.reduceLE,Int.reduceLT,Int.reduceSub,Int.reduceAdd,aY,ah]
   generalize (lF d)=a0
   generalize (d==33)=a1
   cases a0<;>cases a1<;>exact⟨_,rfl,rfl⟩
  ·simp only[wo,M.aG,M.aO,M.dh,M.bV,bC,bg,bD,aV,hw,Int.reduceBEq,Int.reduceLE,Int.reduceLT,Int.reduceSub,Int.reduceAdd,aY,ah]
   generalize (lF d)=a0
   generalize (d==33)=a1
   cases a0<;>cases a1<;>exact⟨_,rfl,rfl⟩
theorem aJy(op:Int)(t o:aF)(kids:ak)(j d:Int)(h0:0≤j)(h1:j<kids.length)(hk:kids.length≤400)(hc:Cons 43 op kids.length):wo 43 op t o kids j d:=by
 rcases hc.range rfl with⟨rfl,hl⟩|⟨rfl,hl⟩
 ·have hw:IntKind.i64.wrap ((kids.length:Int) - 1)=1:=by rw[hl];rfl
  obtain rfl|rfl:j=0∨j=1:=by omega
  ·simp only[wo,M.aG,M.aO,M.dh,M.bV,bC,bg,bD,aV,hw,Int.reduceBEq,Int.reduceLE,Int.reduceLT,Int.reduceSub,Int.reduceAdd,aY,ah]
   generalize (lF d)=a0
   generalize (d==33)=a1
   cases a0<;>cases a1<;>exact⟨_,rfl,rfl⟩
  ·simp only[wo,M.aG,M.aO,M.dh,M.bV,bC,bg,bD,aV,hw,Int.reduceBEq,Int.reduceLE,Int.reduceLT,Int.reduceSub,Int.reduceAdd,aY,ah]
   generalize (lF d)=a0
   generalize (d==33)=a1
   cases a0<;>cases a1<;>exact⟨_,rfl,rfl⟩
 ·have hw:IntKind.i64.wrap ((kids.length:Int) - 1)=2:=by rw[hl];rfl
  obtain rfl|rfl|rfl:j=0∨j=1∨j=2:=by omega
  ·simp only[wo,M.aG,M.aO,M.dh,M.bV,bC,bg,bD,aV,hw,Int.reduceBEq,Int.reduceLE,Int.reduceLT,Int.reduceSub,Int.reduceAdd,aY,ah]
   generalize (lF d)=a0
   generalize (d==33)=a1
   cases a0<;>cases a1<;>exact⟨_,rfl,rfl⟩
  ·simp only[wo,M.aG,M.aO,M.dh,M.bV,bC,bg,bD,aV,hw,Int.reduceBEq,Int.reduceLE,Int.reduceLT,Int.reduceSub,Int.reduceAdd,aY,ah]
   generalize (lF d)=a0
   generalize (d==33)=a1
   cases a0<;>cases a1<;>exact⟨_,rfl,rfl⟩
  ·simp only[wo,M.aG,M.aO,M.dh,M.bV,bC,bg,bD,aV,hw,Int.reduceBEq,Int.reduceLE,Int.reduceLT,Int.reduceSub,Int.reduceAdd,aY,ah]
   generalize (lF d)=a0
   generalize (d==33)=a1
   cases a0<;>cases a1<;>exact⟨_,rfl,rfl⟩
theorem aJz(op:Int)(t o:aF)(kids:ak)(j d:Int)(h0:0≤j)(h1:j<kids.length)(hk:kids.length≤400)(hc:Cons 44 op kids.length):wo 44 op t o kids j d:=by
 simp only[wo,M.aG,M.aO,M.dh,M.bV,bC,bg,bD,aV,Int.reduceBEq,Int.reduceLE,Int.reduceLT,Int.reduceSub,Int.reduceAdd,aY,ah]
 generalize (j==IntKind.i64.wrap ((kids.length:Int) - 1))=a0
 generalize (d==33)=a1
 generalize (d==1)=a2
 cases a0<;>cases a1<;>cases a2<;>exact⟨_,rfl,rfl⟩
theorem aJA(op:Int)(t o:aF)(kids:ak)(j d:Int)(h0:0≤j)(h1:j<kids.length)(hk:kids.length≤400)(hc:Cons 45 op kids.length):wo 45 op t o kids j d:=by
 simp only[wo,M.aG,M.aO,M.dh,M.bV,bC,bg,bD,aV,Int.reduceBEq,Int.reduceLE,Int.reduceLT,Int.reduceSub,Int.reduceAdd,aY,ah]
 generalize (isIt d)=a0
 generalize (d==34)=a1
 cases a0<;>cases a1<;>exact⟨_,rfl,rfl⟩
theorem ayo(k:Int)(op:Int)(t o:aF)(kids:ak)(j d:Int)(hj0:0≤j)(hj1:j<kids.length)(hk:kids.length≤400)(hc:Cons k op kids.length):wo k op t o kids j d:=by
 by_cases h1:k=1
 ·subst h1;exact aTv op t o kids j d hj0 hj1 hk hc
 by_cases h2:k=2
 ·subst h2;exact aTw op t o kids j d hj0 hj1 hk hc
 by_cases h3:k=3
 ·subst h3;exact aTx op t o kids j d hj0 hj1 hk hc
 by_cases h4:k=4
 ·subst h4;exact aTy op t o kids j d hj0 hj1 hk hc
 by_cases h5:k=5
 ·subst h5;exact aTz op t o kids j d hj0 hj1 hk hc
 by_cases h6:k=6
 ·subst h6;exact aTA op t o kids j d hj0 hj1 hk hc
 by_cases h7:k=7
 ·subst h7;exact aTB op t o kids j d hj0 hj1 hk hc
 by_cases h8:k=8
 ·subst h8;exact aTC op t o kids j d hj0 hj1 hk hc
 by_cases h9:k=9
 ·subst h9;exact aTD op t o kids j d hj0 hj1 hk hc
 by_cases h10:k=10
 ·subst h10;exact aI9 op t o kids j d hj0 hj1 hk hc
 by_cases h11:k=11
 ·subst h11;exact aJa op t o kids j d hj0 hj1 hk hc
 by_cases h12:k=12
 ·subst h12;exact aJb op t o kids j d hj0 hj1 hk hc
 by_cases h13:k=13
 ·subst h13;exact aJc op t o kids j d hj0 hj1 hk hc
 by_cases h14:k=14
 ·subst h14;exact aJd op t o kids j d hj0 hj1 hk hc
 by_cases h15:k=15
 ·subst h15;exact aJe op t o kids j d hj0 hj1 hk hc
 by_cases h16:k=16
 ·subst h16;exact aJf op t o kids j d hj0 hj1 hk hc
 by_cases h20:k=20
 ·subst h20;exact aJg op t o kids j d hj0 hj1 hk hc
 by_cases h21:k=21
 ·subst h21;exact aJh op t o kids j d hj0 hj1 hk hc
 by_cases h22:k=22
 ·subst h22;exact aJi op t o kids j d hj0 hj1 hk hc
 by_cases h23:k=23
 ·subst h23;exact aJj op t o kids j d hj0 hj1 hk hc
 by_cases h24:k=24
 ·subst h24;exact aJk op t o kids j d hj0 hj1 hk hc
 by_cases h25:k=25
 ·subst h25;exact aJl op t o kids j d hj0 hj1 hk hc
 by_cases h26:k=26
 ·subst h26;exact aJm op t o kids j d hj0 hj1 hk hc
 by_cases h27:k=27
 ·subst h27;exact aJn op t o kids j d hj0 hj1 hk hc
 by_cases h28:k=28
 ·subst h28;exact aJo op t o kids j d hj0 hj1 hk hc
 by_cases h29:k=29
 ·subst h29;exact aJp op t o kids j d hj0 hj1 hk hc
 by_cases h30:k=30
 ·subst h30;exact aJq op t o kids j d hj0 hj1 hk hc
 by_cases h31:k=31
 ·subst h31;exact aJr op t o kids j d hj0 hj1 hk hc
 by_cases h32:k=32
 ·subst h32;exact aJs op t o kids j d hj0 hj1 hk hc
 by_cases h33:k=33
 ·subst h33;exact aJt op t o kids j d hj0 hj1 hk hc
 by_cases h34:k=34
 ·subst h34;exact aJu op t o kids j d hj0 hj1 hk hc
 by_cases h40:k=40
 ·subst h40;exact aJv op t o kids j d hj0 hj1 hk hc
 by_cases h41:k=41
 ·subst h41;exact aJw op t o kids j d hj0 hj1 hk hc
 by_cases h42:k=42
 ·subst h42;exact aJx op t o kids j d hj0 hj1 hk hc
 by_cases h43:k=43
 ·subst h43;exact aJy op t o kids j d hj0 hj1 hk hc
 by_cases h44:k=44
 ·subst h44;exact aJz op t o kids j d hj0 hj1 hk hc
 by_cases h45:k=45
 ·subst h45;exact aJA op t o kids j d hj0 hj1 hk hc
 have e1:(k==1)=false:=by simpa using h1
 have e2:(k==2)=false:=by simpa using h2
 have e3:(k==3)=false:=by simpa using h3
 have e4:(k==4)=false:=by simpa using h4
 have e5:(k==5)=false:=by simpa using h5
 have e6:(k==6)=false:=by simpa using h6
 have e7:(k==7)=false:=by simpa using h7
 have e8:(k==8)=false:=by simpa using h8
 have e9:(k==9)=false:=by simpa using h9
 have e10:(k==10)=false:=by simpa using h10
 have e11:(k==11)=false:=by simpa using h11
 have e12:(k==12)=false:=by simpa using h12
 have e13:(k==13)=false:=by simpa using h13
 have e14:(k==14)=false:=by simpa using h14
 have e15:(k==15)=false:=by simpa using h15
 have e16:(k==16)=false:=by simpa using h16
 have e20:(k==20)=false:=by simpa using h20
 have e21:(k==21)=false:=by simpa using h21
 have e22:(k==22)=false:=by simpa using h22
 have e23:(k==23)=false:=by simpa using h23
 have e24:(k==24)=false:=by simpa using h24
 have e25:(k==25)=false:=by simpa using h25
 have e26:(k==26)=false:=by simpa using h26
 have e27:(k==27)=false:=by simpa using h27
 have e28:(k==28)=false:=by simpa using h28
 have e29:(k==29)=false:=by simpa using h29
 have e30:(k==30)=false:=by simpa using h30
 have e31:(k==31)=false:=by simpa using h31
 have e32:(k==32)=false:=by simpa using h32
 have e33:(k==33)=false:=by simpa using h33
 have e34:(k==34)=false:=by simpa using h34
 have e40:(k==40)=false:=by simpa using h40
 have e41:(k==41)=false:=by simpa using h41
 have e42:(k==42)=false:=by simpa using h42
 have e43:(k==43)=false:=by simpa using h43
 have e44:(k==44)=false:=by simpa using h44
 have e45:(k==45)=false:=by simpa using h45
 simp only[wo,M.aG,M.aO,M.dh,M.bV,bC,bg,bD,aV,e1,e2,e3,e4,e5,e6,e7,e8,e9,e10,e11,e12,e13,e14,e15,e16,e20,e21,e22,e23,e24,e25,e26,e27,e28,e29,e30,e31,e32,e33,e34,e40,e41,e42,e43,e44,e45,cond_false,ah]
 exact⟨_,rfl,rfl⟩
end Go.Proofs.YtbpldgeajbfgnaaGreatDoor
namespace Go.Proofs.YtbpldgeajbfgnaaGreatDoor
set_option linter.unusedVariables false
set_option linter.unusedSimpArgs false
open Go Go.Vm
def wN(n:Nd):Nat:=n.text.length+n.other.length+n.kids.length
def wNs:List Nd→Nat
 |[]=>0
 |n::l=>wN n+wNs l
theorem aoR(k:List Int)(L:Int)(h0:0≤L)(h1:L≤1048576)(hk:k.length≤maxLen):M.zH (encI k) L=some (if(k.length:Int)≤L then L - k.length else -1):=by
 unfold maxLen at hk
 simp only[M.zH,M.JU,dw]
 rw[aP (by omega) (by omega)]
 by_cases h:(k.length:Int)≤L
 ·rw[decide_eq_false (by omega),if_pos h];rfl
 ·rw[decide_eq_true (by omega),if_neg h];rfl
theorem aoS(n:Nd)(o:Bool)(L:Int)(h0:0≤L)(h1:L≤1048576)(ht:n.text.length≤maxLen)(ho:n.other.length≤maxLen)(hk:n.kids.length≤maxLen):
  M.zI n.kind n.op n.text n.other (encI n.kids) L=some (if(wN n:Int)≤L then L - wN n else -1):=by
 have ht':=ht
 have ho':=ho
 have hk':=hk
 unfold maxLen at ht' ho' hk'
 have hwn:wN n=n.text.length+n.other.length+n.kids.length:=rfl
 simp only[M.zI,M.JV]
 rw[aP (n:=L - n.text.length) (by omega) (by omega)]
 by_cases c1:(n.text.length:Int)≤L
 ·rw[decide_eq_false (by omega),cond_false,aP (by omega) (by omega)]
  by_cases c2:(n.other.length:Int)≤L - n.text.length
  ·rw[decide_eq_false (by omega),cond_false,aoR _ _ (by omega) (by omega) hk,ah]
   by_cases c3:(n.kids.length:Int)≤L - n.text.length - n.other.length
   ·rw[if_pos c3,decide_eq_false (by omega),cond_false,if_pos (by omega)]
    congr 1
    omega
   ·rw[if_neg c3,decide_eq_true (by omega),cond_true,if_neg (by omega)]
  ·rw[decide_eq_true (by omega),cond_true,if_neg (by omega)]
 ·rw[decide_eq_true (by omega),cond_true,if_neg (by omega)]
theorem asy(l:List Nd)(len:Nat):∀w:Int,0≤w→abm (fun(w:Int) (n:Nd)=>(if(wN n:Int)≤w then .inl (w - wN n) else .inr (.inl ()):Int⊕(Unit⊕(Int×Int)))) (fun w=> .inr (w,(len:Int))) l w=
  if(wNs l:Int)≤w then .inr (w - wNs l,(len:Int)) else .inl ():=by
 induction l with
 |nil=>intro w h;simp[abm,wNs,h]
 |cons n l ih=>
  intro w h
  have hw:wNs (n::l)=wN n+wNs l:=rfl
  simp only[abm]
  by_cases c:(wN n:Int)≤w
  ·rw[if_pos c]
   simp only
   rw[ih (w - wN n) (by omega)]
   by_cases c2:(wNs l:Int)≤w - wN n
   ·rw[if_pos c2,if_pos (by omega)]
    congr 2
    omega
   ·rw[if_neg c2,if_neg (by omega)]
  ·rw[if_neg c,if_neg (by omega)]
theorem amr(l:List Nd)(o:Bool)(L:Int)(h0:0≤L)(h1:L≤1048576)(hl:l.length≤maxLen)(hf:∀n,n∈l→Fit n):
  M.wC (dP o l) L=some (if(l.length+wNs l:Int)≤L then L - l.length - wNs l else -1):=by
 unfold maxLen at hl
 simp only[M.wC,M.Hy,iq]
 rw[aP (by omega) (by omega)]
 by_cases c:(l.length:Int)≤L
 ·rw[decide_eq_false (by omega),cond_false]
  have hloop:=amf (M.BM (dP o l)) l (fun i (w:Int)=>(w,(i:Int)))
   (fun(w:Int) (n:Nd)=>(if(wN n:Int)≤w then .inl (w - wN n) else .inr (.inl ()):Int⊕(Unit⊕(Int×Int)))) (fun w=> .inr (w,(l.length:Int))) (fun _ w=>0≤w∧w≤1048576)
   (by
    intro i n w hi hw
    have hlt:=(List.getElem?_eq_some_iff.1 hi).1
    have hfn:=hf n (List.mem_of_getElem? hi)
    simp only[M.BM,M.wS,iq,fG,mV,hi,Option.map_some,ah,EY,GX,GY,GZ,EL]
    rw[decide_eq_true (by omega),cond_true,aoS n o w hw.1 hw.2 hfn.text hfn.other hfn.kids,ah]
    by_cases c2:(wN n:Int)≤w
    ·rw[if_pos c2,decide_eq_false (by omega),cond_false,if_pos c2,aP (by omega) (by omega)]
     simp
    ·rw[if_neg c2,decide_eq_true (by omega),cond_true,if_neg c2])
   (by
    intro i n w w' hi hw he
    by_cases c2:(wN n:Int)≤w
    ·simp only[c2,if_true,Sum.inl.injEq] at he
     omega
    ·simp[c2] at he)
   (by
    intro w hw
    simp only[M.BM,M.wS,iq]
    rw[decide_eq_false (by omega),cond_false])
   (L - l.length) (by omega)
  have h0':((0:Nat):Int)=0:=rfl
  simp only[h0'] at hloop
  rw[M.EZ,hloop,ah,asy l l.length _ (by omega)]
  by_cases c2:(wNs l:Int)≤L - l.length
  ·rw[if_pos c2,if_pos (by omega)]
   rfl
  ·rw[if_neg c2,if_neg (by omega)]
   rfl
 ·rw[decide_eq_true (by omega),cond_true,if_neg (by omega)]
theorem anB{l:List Nd}{n:Nd}(h:n∈l):wN n≤wNs l:=by
 induction l with
 |nil=>simp at h
 |cons m l ih=>
  have hw:wNs (m::l)=wN m+wNs l:=rfl
  rcases List.mem_cons.1 h with rfl|h
  ·omega
  ·have:=ih h;omega
theorem Ox{α:Type}(a:List α)(b:List α)(x y:α):(a++x::b).set a.length y=a++y::b:=by
 induction a with
 |nil=>rfl
 |cons z a ih=>simp[ih]
def filled{α β:Type}(f:α→β)(z:β)(l:List α)(i:Nat):List β:=(l.take i).map f++List.replicate (l.length - i) z
theorem Y0{α β:Type}(f:α→β)(z:β)(l:List α):filled f z l 0=List.replicate l.length z:=by simp[filled]
theorem ace{α β:Type}(f:α→β)(z:β)(l:List α):filled f z l l.length=l.map f:=by simp[filled]
theorem acf{α β:Type}(f:α→β)(z:β)(l:List α){i:Nat}(h:i<l.length):(filled f z l i)[i]? =some z:=by
 unfold filled
 rw[List.getElem?_append_right (by simp;omega)]
 simp[List.getElem?_replicate]
 omega
theorem acg{α β:Type}(f:α→β)(z:β)(l:List α){i:Nat}{x:α}(h:l[i]? =some x):(filled f z l i).set i (f x)=filled f z l (i+1):=by
 have hlt:=(List.getElem?_eq_some_iff.1 h).1
 unfold filled
 have hn:l.length - i=(l.length - (i+1))+1:=by omega
 rw[hn,List.replicate_succ]
 have hl:((l.take i).map f).length=i:=by simp;omega
 have:=Ox ((l.take i).map f) (List.replicate (l.length - (i+1)) z) z (f x)
 rw[hl] at this
 rw[this,List.take_add_one,h]
 simp
theorem aoT(k:List Int)(hk:k.length≤1048576):M.zJ (encI k)=some (encI k):=by
 simp only[M.zJ,M.JW,dw]
 rw[decide_eq_true (by omega),decide_eq_true (by omega),decide_eq_true (by omega),decide_eq_true (by omega)]
 simp only[Bool.and_true,cond_true,Int.toNat_natCast]
 have hloop:=jC (b:=M.DW (encI k)) (t:=((k.length:Int),encI k)) (fun i=>((i:Int),filled (fun x=>[D.int .i64 x]) [D.int .i64 0] k i)) k.length
  (by
   intro i hi
   obtain⟨x,hx⟩:∃x,k[i]? =some x:=⟨k[i],by simp[hi]⟩
   simp only[M.DW,M.yN,dw,fG,rD,hx,Option.map_some,ah,Ll,Int.toNat_natCast,acf _ _ k hi]
   rw[decide_eq_true (by omega),cond_true,aP (by omega) (by omega)]
   have hs:splice [D.int IntKind.i64 0] 0 [D.int IntKind.i64 x]=[D.int IntKind.i64 x]:=rfl
   rw[hs,acg (fun x=>[D.int .i64 x]) _ k hx]
   simp)
  (by
   simp only[M.DW,M.yN,dw]
   rw[decide_eq_false (by omega),cond_false,ace]
   rfl) 0 (Nat.zero_le _)
 rw[M.Hz]
 simp only[Y0] at hloop
 have h0':((0:Nat):Int)=0:=rfl
 rw[h0'] at hloop
 rw[hloop,ah]
 simp
theorem aoU(n:Nd)(hk:n.kids.length≤1048576):M.zK n.kind n.op n.text n.other (encI n.kids)=some (n.kind,n.op,n.text,n.other,encI n.kids):=by
 simp only[M.zK,M.JX]
 rw[aoT _ hk,ah]
 simp
theorem ams(l:List Nd)(o:Bool)(hl:l.length≤1048576)(hk:∀n,n∈l→n.kids.length≤1048576):M.oJ (dP o l)=some (dP true l):=by
 simp only[M.oJ,M.HY,iq]
 rw[decide_eq_true (by omega),decide_eq_true (by omega),decide_eq_true (by omega),decide_eq_true (by omega)]
 simp only[Bool.and_true,cond_true,Int.toNat_natCast]
 have hloop:=jC (b:=M.BN (dP o l)) (t:=((l.length:Int),dP true l)) (fun i=>((i:Int),filled (KP true) [D.int IntKind.i64 0,D.int IntKind.i64 0,D.str [],D.str [],D.sl true 1 []] l i)) l.length
  (by
   intro i hi
   obtain⟨x,hx⟩:∃x,l[i]? =some x:=⟨l[i],by simp[hi]⟩
   have hkx:=hk x (List.mem_of_getElem? hx)
   simp only[M.BN,M.wU,iq,fG,mV,hx,Option.map_some,ah,EY,GX,GY,GZ,EL,aoU x hkx,Int.toNat_natCast,acf _ _ l hi,GU,cond_true]
   rw[decide_eq_true (by omega),cond_true,aP (by omega) (by omega)]
   have hs:splice [D.int IntKind.i64 0,D.int IntKind.i64 0,D.str [],D.str [],D.sl true 1 []] 0 [D.int IntKind.i64 x.kind,D.int IntKind.i64 x.op,D.str x.text,D.str x.other,D.sl true 1 (encI x.kids)]=KP true x:=rfl
   rw[hs,acg (KP true) _ l hx]
   simp)
  (by
   simp only[M.BN,M.wU,iq]
   rw[decide_eq_false (by omega),cond_false,ace]
   rfl) 0 (Nat.zero_le _)
 rw[M.E5]
 simp only[Y0] at hloop
 have h0':((0:Nat):Int)=0:=rfl
 rw[h0'] at hloop
 rw[hloop,ah]
theorem Y1(k:List Int)(hk:k.length≤maxLen):M.uz (encI k) (encI k)=some true:=by
 unfold maxLen at hk
 simp only[M.uz,M.KF,bne_self_eq_false,cond_false]
 have hloop:=jC (b:=M.Ep (encI k) (encI k)) (t:=.inr ((k.length:Int))) (fun i=>(i:Int)) k.length
  (by
   intro i hi
   obtain⟨x,hx⟩:∃x,k[i]? =some x:=⟨k[i],by simp[hi]⟩
   simp only[M.Ep,M.zx,dw,fG,rD,hx,Option.map_some,ah,Ll,bne_self_eq_false,cond_false]
   rw[decide_eq_true (by omega),cond_true,aP (by omega) (by omega)]
   simp)
  (by
   simp only[M.Ep,M.zx,dw]
   rw[decide_eq_false (by omega),cond_false]) 0 (Nat.zero_le _)
 have h0':((0:Nat):Int)=0:=rfl
 rw[h0'] at hloop
 rw[M.IW,hloop,ah]
 rfl
theorem alg(n:Nd)(hk:n.kids.length≤maxLen):M.zX n.kind n.op n.text n.other (encI n.kids) n.kind n.op n.text n.other (encI n.kids)=some true:=by
 simp only[M.zX,M.KG,bne_self_eq_false,cond_false,beq_self_eq_true,Bool.not_true]
 rw[Y1 _ hk]
 rfl
theorem afp(l:List Nd)(o o':Bool)(hl:l.length≤maxLen)(hk:∀n,n∈l→n.kids.length≤maxLen):M.wR (dP o l) (dP o' l)=some true:=by
 unfold maxLen at hl
 simp only[M.wR,M.IY,iq,bne_self_eq_false,cond_false]
 have hloop:=jC (b:=M.CG (dP o l) (dP o' l)) (t:=.inr ((l.length:Int))) (fun i=>(i:Int)) l.length
  (by
   intro i hi
   obtain⟨x,hx⟩:∃x,l[i]? =some x:=⟨l[i],by simp[hi]⟩
   simp only[M.CG,M.xK,iq,fG,mV,hx,Option.map_some,ah,EY,GX,GY,GZ,EL,alg x (hk x (List.mem_of_getElem? hx)),Bool.not_true,cond_false]
   rw[decide_eq_true (by omega),cond_true,aP (by omega) (by omega)]
   simp)
  (by
   simp only[M.CG,M.xK,iq]
   rw[decide_eq_false (by omega),cond_false]) 0 (Nat.zero_le _)
 have h0':((0:Nat):Int)=0:=rfl
 rw[h0'] at hloop
 rw[M.F6,hloop,ah]
 rfl
theorem afq(x lo hi:Int):M.dL x lo hi=some (decide (lo≤x) && decide (x≤hi)):=by
 simp only[M.dL,M.wV]
 by_cases h:lo≤x
 ·rw[decide_eq_true (show x≥lo from h)];rfl
 ·rw[decide_eq_false (show¬x≥lo from h)];rfl
theorem alh:∀k:List Int,afd (encI k)=some k
 |[]=>rfl
 |x::k=>by
  have:encI (x::k)=[D.int .i64 x]::encI k:=rfl
  rw[this]
  simp only[afd,alh k,Option.map_some]
def nk(n:Nd):Nk:=⟨n.kind,n.op,⟨⟨n.text⟩⟩,⟨⟨n.other⟩⟩,n.kids⟩
theorem aee(o:Bool):∀l:List Nd,(∀n,n∈l→n.kids.length≤1048576)→Q9 (dP o l)=some (l.map nk)
 |[],_=>rfl
 |n::l,h=>by
  have:dP o (n::l)=KP o n::dP o l:=rfl
  rw[this,Q9]
  have hk:amm (KP o n)=some (nk n):=by
   simp only[KP,amm,alh,ah]
   rw[if_pos (h n List.mem_cons_self)]
   rfl
  rw[hk,ah,aee o l (fun m hm=>h m (List.mem_cons_of_mem _ hm))]
  rfl
theorem aJB(l:List Nd):(l.map nk).map (·.kids)=ks l:=by simp[ks,nk]
theorem Z9(l:List Nd)(o:Bool)(hl:l.length≤1048576)(hk:∀n,n∈l→n.kids.length≤1048576):M.wO (dP o l)=some (Dh l):=by
 simp only[M.wO,M.Iz,M.jI,aee o l hk,ah,aJB,List.length_map]
 rw[if_pos hl,Dh]
 cases nO (ks l) with
 |none=>rfl
 |some st=>rfl
theorem Xh(l:List Nd)(o:Bool){i:Nat}{n:Nd}{st:List Int}(hi:l[i]? =some n)(hl:l.length≤1048576)(hkl:n.kids.length≤1048576)(hst:V3 st)(hs:st.length=i):
  ∀(j:Nat) (a:Int),j≤n.kids.length→0≤a→a≤i→M.qA (dP o l) (i:Int) (encI st) (a,(j:Int) - 1)=some (match gI st (n.kids.take j).reverse (a - 1) with
   |none=> .inl ()
   |some r=> .inr (r+1, -1))
 |0,a,hj,h0,h1=>by
  rw[M.qA]
  apply iW
  simp only[M.Ad,M.uT]
  rw[decide_eq_false (by omega),cond_false,List.take_zero,List.reverse_nil,gI]
  simp
 |j+1,a,hj,h0,h1=>by
  have hlt:i<l.length:=(List.getElem?_eq_some_iff.1 hi).1
  obtain⟨k,hk⟩:∃k,n.kids[j]? =some k:=⟨n.kids[j]'(by omega),by simp⟩
  have ht:(n.kids.take (j+1)).reverse=k::(n.kids.take j).reverse:=by
   rw[List.take_add_one,hk,Option.toList_some,List.reverse_append]
   rfl
  rw[ht,gI]
  have e1:(((j+1:Nat):Int) - 1)=(j:Int):=by omega
  rw[e1]
  have hstep:M.Ad (dP o l) (i:Int) (encI st) (a,(j:Int))=if a - 1<0∨k≠a - 1 then some (.inr (.inl ())) else some (.inl (st[k.toNat]?.getD 0,(j:Int) - 1)):=by
   simp only[M.Ad,M.uT,fG,mV,hi,Option.map_some,ah,EL,rD,hk,Ll]
   rw[decide_eq_true (by omega),cond_true,aP (n:=a - 1) (by omega) (by omega)]
   by_cases h2:k=a - 1
   ·have:(k !=a - 1)=false:=by simp[h2]
    rw[this,cond_false]
    by_cases h3:a=0
    ·have:(a==0)=true:=by simp[h3]
     rw[this,cond_true,if_pos (.inl (by omega))]
    ·have:(a==0)=false:=by simp[h3]
     rw[this,cond_false,if_neg (by omega)]
     obtain⟨d,hd⟩:∃d:Nat,a - 1=(d:Int):=⟨(a - 1).toNat,by omega⟩
     have hdl:d<st.length:=by omega
     rw[h2,hd]
     simp only[agl,fG,rD,Int.toNat_natCast]
     rw[List.getElem?_eq_getElem hdl]
     simp only[Option.map_some,ah,Ll,Option.getD_some]
     rw[aP (by omega) (by omega)]
   ·have:(k !=a - 1)=true:=by simp[h2]
    rw[this,cond_true,if_pos (.inr h2)]
  by_cases hc:a - 1<0∨k≠a - 1
  ·rw[if_pos hc]
   rw[if_pos hc] at hstep
   exact iW hstep
  ·rw[if_neg hc]
   rw[if_neg hc] at hstep
   rw[M.qA,jU hstep]
   have hz:=O4 hst k.toNat
   have:=Xh l o hi hl hkl hst hs j (st[k.toNat]?.getD 0) (by omega) hz.1 (by omega)
   rw[M.qA] at this
   exact this
theorem Ug(l:List Nd)(o:Bool)(hl:l.length≤1048576)(hk:∀n,n∈l→n.kids.length≤1048576):∀(rest:List Nd) (i:Nat) (st:List Int),l.drop i=rest→st.length=i→i≤l.length→V3 st→
  M.qB (dP o l) ((i:Int),encI st)=some (match jy st (ks rest) with
   |none=> .inl ()
   |some r=> .inr ((l.length:Int),encI r))
 |[],i,st,hd,hs,hi,hst=>by
  have:l.length≤i:=List.drop_eq_nil_iff.1 hd
  rw[M.qB]
  apply iW
  simp only[M.Ae,M.uU,iq]
  rw[decide_eq_false (by omega),cond_false]
  have:i=l.length:=by omega
  subst this
  rfl
 |n::rest,i,st,hd,hs,hi,hst=>by
  have hn:l[i]? =some n:=by
   have:(l.drop i)[0]? =some n:=by rw[hd];rfl
   simpa using this
  have hlt:i<l.length:=(List.getElem?_eq_some_iff.1 hn).1
  have hd':l.drop (i+1)=rest:=by rw[←List.drop_drop,hd];rfl
  have hkn:=hk n (List.mem_of_getElem? hn)
  have hin:=Xh l o hn hl hkn hst hs n.kids.length (i:Int) (Nat.le_refl _) (by omega) (by omega)
  rw[List.take_length] at hin
  have hks:ks (n::rest)=n.kids::ks rest:=rfl
  rw[hks,jy,hs]
  have hstep:M.Ae (dP o l) ((i:Int),encI st)=some (match gI st n.kids.reverse ((i:Int) - 1) with
    |none=> .inr (.inl ())
    |some a=> .inl (((i+1:Nat):Int),encI (st++[a+1]))):=by
   simp only[M.Ae,M.uU,iq,fG,mV,hn,Option.map_some,ah,EL,dw]
   rw[decide_eq_true (by omega),cond_true,aP (n:=(n.kids.length:Int) - 1) (by omega) (by omega),hin]
   cases hw:gI st n.kids.reverse ((i:Int) - 1) with
   |none=>rfl
   |some a=>
    simp only[ah,xZ,letE,List.length_singleton]
    rw[eY (by omega),cond_true,eY (by omega),cond_true,aP (by omega) (by omega)]
    simp[encI]
  cases hw:gI st n.kids.reverse ((i:Int) - 1) with
  |none=>
   rw[hw] at hstep
   exact iW hstep
  |some a=>
   rw[hw] at hstep
   rw[M.qB,jU hstep]
   have hr:=Gu hst _ _ _ (by omega) (by omega) hw
   have:=Ug l o hl hk rest (i+1) (st++[a+1]) hd' (by simp[hs]) hlt (SY hst hr.1 hr.2)
   rw[M.qB] at this
   exact this
theorem Ql(l:List Nd)(o:Bool)(hl:l.length≤1048576)(hk:∀n,n∈l→n.kids.length≤1048576):M.qK (dP o l)=some (Dh l):=by
 simp only[M.qK,M.H6,afq,ah,iq]
 by_cases h1:1≤l.length∧l.length≤400
 ·have hb:(decide ((1:Int)≤(l.length:Int)) && decide ((l.length:Int)≤400))=true:=by simp;omega
  rw[hb,Bool.not_true,cond_false]
  have h:=Ug l o hl hk l 0 [] rfl rfl (Nat.zero_le _) Q8
  have e0:((0:Nat):Int)=0:=rfl
  rw[e0] at h
  simp only[M.x9,M.E8]
  rw[show([]:ak)=encI [] from rfl,h,Dh,nO,if_pos (by rw[MC];exact h1)]
  cases hs:jy [] (ks l) with
  |none=>rfl
  |some r=>
   have hrl:r.length=l.length:=by
    have:=P5 _ _ _ hs
    rw[MC] at this
    simpa using this
   simp only[ah,xZ,letE,GU,cond_true]
   rw[aP (by omega) (by omega),show(l.length:Int) - 1=((l.length - 1:Nat):Int) by omega]
   simp only[agl,fG,rD,Int.toNat_natCast]
   rw[List.getElem?_eq_getElem (by omega)]
   simp only[Option.map_some,ah,Ll,Option.getD_some]
 ·have hb:(decide ((1:Int)≤(l.length:Int)) && decide ((l.length:Int)≤400))=false:=by
   cases hq:(decide ((1:Int)≤(l.length:Int)) && decide ((l.length:Int)≤400)) with
   |false=>rfl
   |true=>simp at hq;omega
  rw[hb,Bool.not_false,cond_true,Dh,nO,if_neg (by rw[MC];exact h1)]
theorem aef{st:List Int}(h:V3 st):∀(l:List Int) (a r:Int),a<st.length→gI st l a=some r→∀k,k∈l→0≤k∧k<st.length
 |[],a,r,h1,e,k,hk=>absurd hk List.not_mem_nil
 |x::l,a,r,h1,e,k,hk=>by
  rw[gI] at e
  split at e
  ·cases e
  ·rename_i hc
   have hz:=O4 h x.toNat
   rcases List.mem_cons.1 hk with rfl|hk
   ·omega
   ·exact aef h l _ r (by omega) e k hk
theorem Y2:∀(l:List (List Int)) (st r:List Int),V3 st→jy st l=some r→∀(i:Nat) n,l[i]? =some n→∀k,k∈n→0≤k∧k<st.length+i
 |[],st,r,h0,h,i,n,hn=>by simp at hn
 |m::l,st,r,h0,h,i,n,hn=>by
  rw[jy] at h
  split at h
  ·cases h
  ·rename_i a ha
   have hr:=Gu h0 _ _ _ (by omega) (by omega) ha
   cases i with
   |zero=>
    simp only[List.getElem?_cons_zero,Option.some.injEq] at hn
    subst hn
    intro k hk
    have:=aef h0 _ _ _ (by omega) ha k (List.mem_reverse.2 hk)
    omega
   |succ i=>
    simp only[List.getElem?_cons_succ] at hn
    intro k hk
    have:=Y2 l _ r (SY h0 hr.1 hr.2) h i n hn k hk
    simp at this
    omega
theorem aoV{l:List Nd}(h:Dh l=true):1≤l.length∧l.length≤400:=by
 unfold Dh at h
 cases hs:nO (ks l) with
 |none=>rw[hs] at h;cases h
 |some r=>
  unfold nO at hs
  split at hs
  ·rename_i hq
   rw[MC] at hq
   exact hq
  ·cases hs
theorem Uh:∀(l:List (List Int)) (st r:List Int),jy st l=some r→∃t,r=st++t
 |[],st,r,h=>by
  rw[jy] at h
  cases h
  exact⟨[],by simp⟩
 |n::l,st,r,h=>by
  rw[jy] at h
  split at h
  ·cases h
  ·obtain⟨t,ht⟩:=Uh l _ r h
   exact⟨_,by rw[ht,List.append_assoc]⟩
theorem ali{st t:List Int}(h:V3 st):∀(ks:List Int) (a:Int),a<st.length→gI (st++t) ks a=gI st ks a
 |[],a,_=>rfl
 |k::ks,a,ha=>by
  rw[gI,gI]
  split
  ·rfl
  ·rename_i hc
   have hk:k.toNat<st.length:=by omega
   have e:(st++t)[k.toNat]? =st[k.toNat]? :=List.getElem?_append_left hk
   rw[e]
   have hz:=O4 h k.toNat
   exact ali h ks _ (by omega)
theorem aeg:∀(l:List (List Int)) (st r:List Int),V3 st→jy st l=some r→∀(i:Nat) n,l[i]? =some n→∃a,gI r n.reverse ((st.length:Int)+i - 1)=some a∧r[st.length+i]? =some (a+1)
 |[],st,r,h0,h,i,n,hn=>by simp at hn
 |m::l,st,r,h0,h,i,n,hn=>by
  rw[jy] at h
  split at h
  ·cases h
  ·rename_i a ha
   have hr:=Gu h0 _ _ _ (by omega) (by omega) ha
   obtain⟨t,ht⟩:=Uh l _ r h
   cases i with
   |zero=>
    simp only[List.getElem?_cons_zero,Option.some.injEq] at hn
    subst hn
    refine⟨a, ?_, ?_⟩
    ·rw[ht,List.append_assoc,ali h0 _ _ (by simp;omega)]
     simpa using ha
    ·rw[ht]
     simp
   |succ i=>
    simp only[List.getElem?_cons_succ] at hn
    obtain⟨b,h1,h2⟩:=aeg l _ r (SY h0 hr.1 hr.2) h i n hn
    refine⟨b, ?_, ?_⟩
    ·rw[←h1]
     congr 1
     simp
     omega
    ·rw[←h2]
     congr 1
     simp
     omega
def RV:List Int→Int
 |[]=>0
 |x::l=>x+RV l
theorem Y3:∀(a b:List Int),RV (a++b)=RV a+RV b
 |[],b=>by simp[RV]
 |x::a,b=>by
  rw[List.cons_append,RV,RV,Y3 a b]
  omega
theorem Xi:∀l:List Int,RV l.reverse=RV l
 |[]=>rfl
 |x::l=>by
  rw[List.reverse_cons,Y3,Xi l]
  simp[RV]
  omega
def sz(r:List Int)(k:Int):Int:=k - (r[k.toNat]?.getD 0)+1
theorem alj(r:List Int):∀(ks:List Int) (a b:Int),gI r ks a=some b→RV (ks.map (sz r))=a - b
 |[],a,b,h=>by
  rw[gI] at h
  cases h
  simp[RV]
 |k::ks,a,b,h=>by
  rw[gI] at h
  split at h
  ·cases h
  ·rename_i hc
   have:=alj r ks _ b h
   rw[List.map_cons,RV,this,sz]
   omega
structure Val(l:List Nd)(r:List Int):Prop where
 st:jy [] (ks l)=some r
 pos:1≤l.length
 le:l.length≤400
theorem afr{l:List Nd}(h:Dh l=true):∃r,Val l r:=by
 have hl:=aoV h
 unfold Dh at h
 cases hs:nO (ks l) with
 |none=>rw[hs] at h;cases h
 |some r=>
  unfold nO at hs
  split at hs
  ·exact⟨r,hs,hl.1,hl.2⟩
  ·cases hs
section
variable {l:List Nd} {r:List Int}
theorem Val.len(h:Val l r):r.length=l.length:=by
 have:=P5 _ _ _ h.st
 rw[MC] at this
 simpa using this
theorem Val.ok(h:Val l r):V3 r:=XP _ _ _ Q8 h.st
theorem Val.kids(h:Val l r){i:Nat}{n:Nd}(hn:l[i]? =some n):∀k,k∈n.kids→0≤k∧k<i:=by
 have:=Y2 _ _ _ Q8 h.st i n.kids (by simp[ks,hn])
 simpa using this
theorem Val.sum(h:Val l r){i:Nat}{n:Nd}(hn:l[i]? =some n):RV (n.kids.map (sz r))+1=sz r i:=by
 obtain⟨a,h1,h2⟩:=aeg _ _ _ Q8 h.st i n.kids (by simp[ks,hn])
 have:=alj r _ _ _ h1
 rw[List.map_reverse,Xi] at this
 simp at h2
 rw[this,sz,Int.toNat_natCast,h2]
 simp
 omega
theorem Val.asz(h:Val l r){k:Int}(h0:0≤k):1≤sz r k∧sz r k≤k+1:=by
 have:=O4 h.ok k.toNat
 rw[sz]
 omega
end
def ach(l:List Nd)(i:Nat):List Int:=match l[i]? with|some n=>n.kids|none=>[]
theorem JH{l:List Nd}{i:Nat}{n:Nd}(h:l[i]? =some n):ach l i=n.kids:=by rw[ach,h]
def mx:Int→List Int→Int
 |a,[]=>a
 |a,x::l=>mx (bif decide (a<x) then x else a) l
theorem aci(B:Int):∀(l:List Int) (a:Int),a≤B→(∀x,x∈l→x≤B)→a≤mx a l∧mx a l≤B
 |[],a,h,_=>⟨Int.le_refl _,h⟩
 |x::l,a,h,hl=>by
  have hx:=hl x List.mem_cons_self
  rw[mx]
  by_cases c:a<x
  ·rw[decide_eq_true c,cond_true]
   have:=aci B l x hx fun y hy=>hl y (List.mem_cons_of_mem _ hy)
   omega
  ·rw[decide_eq_false c,cond_false]
   exact aci B l a h fun y hy=>hl y (List.mem_cons_of_mem _ hy)
theorem afs:∀(l:List Int) (a x:Int),mx a (l++[x])=(bif decide (mx a l<x) then x else mx a l)
 |[],a,x=>rfl
 |y::l,a,x=>by rw[List.cons_append,mx,mx,afs l]
theorem asA:∀(l:List Int) (a:Int),mx (1+a) (l.map fun d=>1+d)=1+mx a l
 |[],a=>rfl
 |x::l,a=>by
  rw[List.map_cons,mx,mx,←asA l]
  by_cases c:a<x
  ·rw[decide_eq_true c,cond_true,decide_eq_true (by omega),cond_true]
  ·rw[decide_eq_false c,cond_false,decide_eq_false (by omega),cond_false]
def dep(l:List Nd):Nat→Nat→Int
 |0,_=>0
 |f+1,i=>mx 0 ((ach l i).map fun k=>dep l f k.toNat)+1
theorem Yb(l:List Nd):∀f i,0≤dep l f i∧dep l f i≤f
 |0,i=>by simp[dep]
 |f+1,i=>by
  have:=aci (f:Int) ((ach l i).map fun k=>dep l f k.toNat) 0 (by omega) (fun x hx=>by
   obtain⟨k,_,rfl⟩:=List.mem_map.1 hx
   exact(Yb l f k.toNat).2)
  rw[dep]
  omega
section
variable {l:List Nd} {r:List Int} {o:Bool}
theorem alk(h:Val l r):∀(f f' i:Nat),i<f→i<f'→i<l.length→dep l f i=dep l f' i
 |0,_,i,h1,_,_=>absurd h1 (Nat.not_lt_zero _)
 |f+1,0,i,_,h2,_=>absurd h2 (Nat.not_lt_zero _)
 |f+1,f'+1,i,h1,h2,h3=>by
  obtain⟨n,hn⟩:∃n,l[i]? =some n:=⟨l[i],by simp⟩
  rw[dep,dep,JH hn]
  congr 2
  refine List.map_congr_left fun k hk=> ?_
  have hkr:=h.kids hn k hk
  exact alk h f f' k.toNat (by omega) (by omega) (by omega)
def acj(l:List Nd)(i:Nat):List Int:=(List.range i).map fun j=>dep l (j+1) j
theorem asB(l:List Nd)(i:Nat):(acj l i).length=i:=by simp[acj]
theorem alm(l:List Nd){i j:Nat}(h:j<i):(acj l i)[j]? =some (dep l (j+1) j):=by
 simp[acj,List.getElem?_range h]
theorem aoW(l:List Nd)(i:Nat):acj l (i+1)=acj l i++[dep l (i+1) i]:=by simp[acj,List.range_succ]
theorem aln(h:Val l r){i:Nat}{n:Nd}(hn:l[i]? =some n)(hk:n.kids.length≤1048576):M.AX (dP o l) (i:Int) (encI (acj l i)) (1,0)=some (dep l (i+1) i,(n.kids.length:Int)):=by
 have hil:=(List.getElem?_eq_some_iff.1 hn).1
 have hle:=h.le
 have hdk:∀k,k∈n.kids→dep l i k.toNat=dep l (k.toNat+1) k.toNat:=fun k hkm=>by
  have:=h.kids hn k hkm
  exact alk h _ _ _ (by omega) (by omega) (by omega)
 have hval:∀(j:Nat),(1:Int)+mx 0 ((n.kids.take j).map fun k=>dep l i k.toNat)=mx 1 ((n.kids.take j).map fun k=>1+dep l i k.toNat):=fun j=>by
  have:=asA ((n.kids.take j).map fun k=>dep l i k.toNat) 0
  rw[List.map_map] at this
  exact this.symm
 have hloop:=jC (b:=M.BO (dP o l) (i:Int) (encI (acj l i))) (t:=(dep l (i+1) i,(n.kids.length:Int))) (fun j=>(mx 1 ((n.kids.take j).map fun k=>1+dep l i k.toNat),(j:Int))) n.kids.length
  (by
   intro j hj
   obtain⟨k,hkj⟩:∃k,n.kids[j]? =some k:=⟨n.kids[j],by simp⟩
   have hkm:=List.mem_of_getElem? hkj
   have hkr:=h.kids hn k hkm
   obtain⟨q,hq⟩:∃q:Nat,k=q:=⟨k.toNat,by omega⟩
   have hd:=hdk k hkm
   have hr:=Yb l (q+1) q
   subst hq
   rw[Int.toNat_natCast] at hd
   simp only[M.BO,M.wW,fG,mV,hn,Option.map_some,ah,EL,dw,rD,hkj,Ll,Int.toNat_natCast,alm l (show q<i by omega)]
   rw[decide_eq_true (by omega),cond_true,aP (n:=(j:Int)+1) (by omega) (by omega),aP (n:=1+dep l (q+1) q) (by omega) (by omega),List.take_add_one,hkj,Option.toList_some,List.map_append,List.map_cons,List.map_nil,afs,Int.toNat_natCast,hd]
   rfl)
  (by
   simp only[M.BO,M.wW,fG,mV,hn,Option.map_some,ah,EL,dw]
   rw[decide_eq_false (by omega),cond_false,←hval,List.take_length,dep,JH hn,Int.add_comm]) 0 (Nat.zero_le _)
 rw[M.AX]
 exact hloop
def depth(l:List Nd):Int:=if Dh l then dep l l.length (l.length - 1) else 0
theorem aac(l:List Nd)(o:Bool)(hl:l.length≤1048576)(hk:∀n,n∈l→n.kids.length≤1048576):M.wE (dP o l)=some (depth l):=by
 simp only[M.wE,M.H7,Ql l o hl hk,ah,iq,depth]
 cases hs:Dh l with
 |false=>rfl
 |true=>
  obtain⟨r,h⟩:=afr hs
  have h1:=h.pos
  have h2:=h.le
  have hloop:=jC (b:=M.BP (dP o l)) (t:=((l.length:Int),encI (acj l l.length))) (fun i=>((i:Int),encI (acj l i))) l.length
   (by
    intro i hi
    obtain⟨n,hn⟩:∃n,l[i]? =some n:=⟨l[i],by simp⟩
    have hin:=aln (o:=o) h hn (hk n (List.mem_of_getElem? hn))
    simp only[M.BP,M.wX,iq,hin,ah,dw,asB,List.length_singleton]
    rw[decide_eq_true (by omega),cond_true,eY (by omega),cond_true,eY (by omega),cond_true,aP (by omega) (by omega),aoW]
    simp[encI])
   (by
    simp only[M.BP,M.wX,iq]
    rw[decide_eq_false (by omega),cond_false]) 0 (Nat.zero_le _)
  have JI:M.Fa (dP o l) (0,[])=_:=hloop
  rw[Bool.not_true,cond_false,JI,ah,aP (by omega) (by omega),show(l.length:Int) - 1=((l.length - 1:Nat):Int) by omega,if_pos rfl]
  simp only[fG,Int.toNat_natCast,rD,alm l (show l.length - 1<l.length by omega),Option.map_some,ah,Ll]
  rw[show l.length - 1+1=l.length by omega]
def TB(l:List Nd)(i:Nat):Nd:=match l[i]? with|some n=>n|none=>⟨0,0,[],[],[]⟩
def acn(n:Nd)(rows:ak):Row:=[.int .i64 n.kind,.int .i64 n.op,.str n.text,.str n.other,.sl true 5 rows]
def CQ(l:List Nd):Nat→Nat→ak
 |0,_=>[]
 |f+1,i=>(ach l i).map fun k=>acn (TB l k.toNat) (CQ l f k.toNat)
theorem aeh(h:Val l r)(hk:∀n,n∈l→n.kids.length≤400):∀(f i:Nat) (n:Nd),i<f→l[i]? =some n→M.jq f (dP o l) (i:Int)=some (n.kind,n.op,n.text,n.other,CQ l f i)
 |0,i,n,hf,_=>absurd hf (Nat.not_lt_zero _)
 |f+1,i,n,hf,hn=>by
  have hkn:=hk n (List.mem_of_getElem? hn)
  have hil:=(List.getElem?_eq_some_iff.1 hn).1
  have hkl:=h.kids hn
  simp only[M.jq,M.BD,fG,mV,hn,Option.map_some,ah,EY,GX,GY,GZ,EL,dw]
  have hrec:∀(j:Nat) k,n.kids[j]? =some k→M.jq f (dP o l) k=some ((TB l k.toNat).kind,(TB l k.toNat).op,(TB l k.toNat).text,(TB l k.toNat).other,CQ l f k.toNat):=by
   intro j k hj
   have hkr:=hkl k (List.mem_of_getElem? hj)
   obtain⟨q,hq⟩:∃q:Nat,k=q:=⟨k.toNat,by omega⟩
   subst hq
   obtain⟨m,hm⟩:∃m,l[q]? =some m:=⟨l[q]'(by omega),by simp⟩
   have:=aeh h hk f q m (by omega) hm
   rw[this,Int.toNat_natCast,TB,hm]
  have hloop:=jC (b:=M.kL (M.jq f))
   (t:=if n.kids=[] then .inl (dP o l,encI n.kids,(n.kids.length:Int),0,0,0,[],[],n.kind,n.op,n.text,n.other) else .inr (dP o l,encI n.kids,(n.kids.length:Int),(n.kids.length:Int),0,0,[],[],n.kind,n.op,n.text,n.other,CQ l (f+1) i))
   (fun j=>if j=0 then .inl (dP o l,encI n.kids,(n.kids.length:Int),0,0,0,[],[],n.kind,n.op,n.text,n.other) else .inr (dP o l,encI n.kids,(n.kids.length:Int),(j:Int),0,0,[],[],n.kind,n.op,n.text,n.other,(n.kids.take j).map fun k=>acn (TB l k.toNat) (CQ l f k.toNat))) n.kids.length
   (by
    intro j hj
    obtain⟨k,hkj⟩:∃k,n.kids[j]? =some k:=⟨n.kids[j],by simp⟩
    have hr:=hrec j k hkj
    have htk:(n.kids.take (j+1)).map (fun k=>acn (TB l k.toNat) (CQ l f k.toNat))=(n.kids.take j).map (fun k=>acn (TB l k.toNat) (CQ l f k.toNat))++[acn (TB l k.toNat) (CQ l f k.toNat)]:=by
     rw[List.take_add_one,hkj,Option.toList_some,List.map_append]
     rfl
    rw[if_neg (show¬j+1=0 by omega),htk]
    by_cases h0:j=0
    ·subst h0
     rw[if_pos rfl]
     have aTE:idx (encI n.kids) 0=some [D.int .i64 k]:=by
      have:=fG (encI n.kids) 0
      rw[qH] at this
      rw[this,rD,hkj]
      rfl
     simp only[M.kL,M.kK,aTE,ah,Ll,hr]
     rw[decide_eq_true (by omega),cond_true]
     rfl
    ·rw[if_neg h0]
     simp only[M.kL,M.kK,fG,rD,hkj,Option.map_some,ah,Ll,hr,List.length_map,List.length_take,List.length_singleton]
     rw[decide_eq_true (by omega),cond_true,eY (by omega),cond_true,eY (by omega),cond_true,aP (by omega) (by omega)]
     rfl)
   (by
    by_cases h0:n.kids.length=0
    ·have he:n.kids=[]:=List.length_eq_zero_iff.1 h0
     rw[if_pos h0,if_pos he]
     simp only[M.kL,M.kK]
     rw[decide_eq_false (by omega),cond_false]
    ·have he:¬n.kids=[]:=fun e=>h0 (by rw[e];rfl)
     rw[if_neg h0,if_neg he,List.take_length]
     simp only[M.kL,M.kK]
     rw[decide_eq_false (by omega),cond_false,CQ,JH hn]) 0 (Nat.zero_le _)
  rw[if_pos rfl] at hloop
  rw[M.Du,hloop,ah]
  by_cases he:n.kids=[]
  ·rw[if_pos he,CQ,JH hn,he]
   rfl
  ·rw[if_neg he]
   rfl
theorem Vf:∀rows:ak,aA rows=rows.map qZ
 |[]=>rfl
 |x::rows=>by rw[aA,Vf rows,List.map_cons]
theorem alo(h:Val l r)(hk:∀n,n∈l→n.kids.length≤400):∀(f i:Nat) (n:Nd) (a b:Int) (c d:aF),i<f→f≤1000→l[i]? =some n→M.jA f a b c d (aA (CQ l f i))=some (dep l f i)
 |0,i,n,a,b,c,d,hf,_,_=>absurd hf (Nat.not_lt_zero _)
 |f+1,i,n,a,b,c,d,hf,hf2,hn=>by
  have hkn:=hk n (List.mem_of_getElem? hn)
  have hil:=(List.getElem?_eq_some_iff.1 hn).1
  have hkl:=h.kids hn
  have hdr:=Yb l (f+1) i
  have hlen:(aA (CQ l (f+1) i)).length=n.kids.length:=by rw[Vf,CQ,JH hn];simp
  simp only[M.jA,M.xH,hlen]
  have hloop:=jC (b:=M.xG (M.jA f) (aA (CQ l (f+1) i)) (n.kids.length:Int)) (t:=(mx 0 (n.kids.map fun k=>dep l f k.toNat),(n.kids.length:Int)))
   (fun j=>(mx 0 ((n.kids.take j).map fun k=>dep l f k.toNat),(j:Int))) n.kids.length
   (by
    intro j hj
    obtain⟨k,hkj⟩:∃k,n.kids[j]? =some k:=⟨n.kids[j],by simp⟩
    have hkr:=hkl k (List.mem_of_getElem? hkj)
    obtain⟨q,hq⟩:∃q:Nat,k=q:=⟨k.toNat,by omega⟩
    subst hq
    obtain⟨m,hm⟩:∃m,l[q]? =some m:=⟨l[q]'(by omega),by simp⟩
    have hrow:(aA (CQ l (f+1) i))[j]? =some (qZ (acn m (CQ l f q))):=by
     rw[Vf,CQ,JH hn,List.getElem?_map,List.getElem?_map,hkj]
     simp only[Option.map_some,Int.toNat_natCast,TB,hm]
    have hrec:=alo h hk f q m m.kind m.op m.text m.other (by omega) (by omega) hm
    have k0:dn .i64 (qZ (acn m (CQ l f q))) 0=some m.kind:=rfl
    have k1:dn .i64 (qZ (acn m (CQ l f q))) 1=some m.op:=rfl
    have k2:cStr (qZ (acn m (CQ l f q))) 2=some m.text:=rfl
    have k3:cStr (qZ (acn m (CQ l f q))) 3=some m.other:=rfl
    have k4:BK 5 (qZ (acn m (CQ l f q))) 4=some (aA (CQ l f q)):=rfl
    simp only[M.xG,M.rP,fG,hrow,ah,k0,k1,k2,k3,k4,hrec]
    rw[decide_eq_true (by omega),cond_true,aP (by omega) (by omega),List.take_add_one,hkj,Option.toList_some,List.map_append,List.map_cons,List.map_nil,afs,Int.toNat_natCast]
    rfl)
   (by
    simp only[M.xG,M.rP]
    rw[decide_eq_false (by omega),cond_false,List.take_length]) 0 (Nat.zero_le _)
  have JI:M.Ap (M.jA f) (aA (CQ l (f+1) i)) (n.kids.length:Int) (0,0)=_:=hloop
  rw[JI,ah]
  rw[dep,JH hn] at hdr⊢
  rw[aP (by omega) (by omega)]
end
def QC{α:Type}(p:Nat→α→Bool):List α→Nat→Bool
 |[],_=>true
 |x::l,i=>p i x && QC p l (i+1)
theorem Xj{α:Type}(l:List α)(p:Nat→α→Bool){b:Int→Option (Int⊕(Unit⊕Int))}
  (hb:∀(i:Nat) x,l[i]? =some x→b (i:Int)=some (bif p i x then .inl ((i:Int)+1) else .inr (.inl ()))) (he:b (l.length:Int)=some (.inr (.inr (l.length:Int)))):
  iR b 0=some (bif QC p l 0 then .inr (l.length:Int) else .inl ()):=by
 have key:∀(t:List α) (i:Nat),l.drop i=t→i≤l.length→iR b (i:Int)=some (bif QC p t i then .inr (l.length:Int) else .inl ()):=by
  intro t
  induction t with
  |nil=>
   intro i hd hi
   have:i=l.length:=by
    have:=congrArg List.length hd
    simp at this
    omega
   subst this
   exact iW he
  |cons x t ih=>
   intro i hd hi
   have hx:l[i]? =some x:=by
    have:(l.drop i)[0]? =some x:=by rw[hd];rfl
    simpa using this
   have hlt:i<l.length:=(List.getElem?_eq_some_iff.1 hx).1
   have hd':l.drop (i+1)=t:=by
    rw[←List.drop_drop,hd]
    rfl
   have hs:=hb i x hx
   rw[QC]
   cases hw:p i x with
   |true=>
    rw[hw,cond_true] at hs
    rw[jU hs,show(i:Int)+1=((i+1:Nat):Int) by omega,ih (i+1) hd' hlt,Bool.true_and]
   |false=>
    rw[hw,cond_false] at hs
    rw[iW hs]
    rfl
 exact key l 0 rfl (Nat.zero_le _)
noncomputable def fOk(n:Nd):Bool:=(M.ay n.kind n.op n.text n.other (encI n.kids)).getD false
noncomputable def kOk(n:Nd)(j:Int)(d:Int):Bool:=(M.aG n.kind n.op n.text n.other (encI n.kids) j d).getD false
structure Small(n:Nd):Prop where
 text:n.text.length≤1048576
 other:n.other.length≤1048576
theorem aft{n:Nd}(hs:Small n)(hk:n.kids.length≤400):M.ay n.kind n.op n.text n.other (encI n.kids)=some (fOk n)∧M.bM n.kind n.op n.text n.other (encI n.kids)=some (fOk n):=by
 obtain⟨b,h1,h2⟩:=alf n.kind n.op n.text n.other (encI n.kids) hs.text hs.other (by rw[dw];exact hk)
 rw[fOk,h1]
 exact⟨rfl,h2⟩
theorem amu{n:Nd}(hs:Small n)(hk:n.kids.length≤400)(hf:fOk n=true)(j:Nat)(hj:j<n.kids.length)(d:Int):
  M.aG n.kind n.op n.text n.other (encI n.kids) (j:Int) d=some (kOk n j d)∧M.dh n.kind n.op n.text n.other (encI n.kids) (j:Int) d=some (kOk n j d):=by
 have hc:=afo (k:=n.kind) (op:=n.op) (t:=n.text) (o:=n.other) (kids:=encI n.kids) (by rw[(aft hs hk).1,hf])
 obtain⟨b,h1,h2⟩:=ayo n.kind n.op n.text n.other (encI n.kids) (j:Int) d (by omega) (by rw[dw];omega) (by rw[dw];exact hk) hc
 rw[kOk,h1]
 exact⟨rfl,h2⟩
theorem anC:∀(l:List Int),(∀x,x∈l→1≤x)→(l.length:Int)≤RV l
 |[],_=>by simp[RV]
 |x::l,h=>by
  have:=anC l fun y hy=>h y (List.mem_cons_of_mem _ hy)
  have:=h x List.mem_cons_self
  simp only[List.length_cons,RV]
  omega
section
variable {l:List Nd} {r:List Int} {o:Bool}
theorem Val.Xk(h:Val l r){i:Nat}{n:Nd}(hn:l[i]? =some n):n.kids.length≤400:=by
 have hil:=(List.getElem?_eq_some_iff.1 hn).1
 have h1:=h.sum hn
 have h2:=anC (n.kids.map (sz r)) (fun x hx=>by
  obtain⟨k,hk,rfl⟩:=List.mem_map.1 hx
  exact(h.asz (h.kids hn k hk).1).1)
 rw[List.length_map] at h2
 have h3:=(h.asz (k:=(i:Int)) (by omega)).2
 have:=h.le
 omega
theorem Val.aco(h:Val l r):∀n,n∈l→n.kids.length≤400:=fun n hn=>by
 obtain⟨i,hi⟩:=List.mem_iff_getElem?.1 hn
 exact h.Xk hi
noncomputable def kp(l:List Nd)(n:Nd)(j:Nat)(k:Int):Bool:=kOk n j (TB l k.toNat).kind
theorem acp(h:Val l r)(hsm:∀n,n∈l→Small n){i:Nat}{n:Nd}(hn:l[i]? =some n)(hf:fOk n=true)(v10:ak)(v11 v12:Int):
  M.Dl (dP o l) (i:Int) 0=some (bif QC (kp l n) n.kids 0 then .inr (n.kids.length:Int) else .inl ())∧
  M.Dv (dP o l) v10 v11 v12 (encI n.kids) (n.kids.length:Int) n.kind n.op n.text n.other (encI n.kids) 0=some (bif QC (kp l n) n.kids 0 then .inr (n.kids.length:Int) else .inl ()):=by
 have hkl:=h.Xk hn
 have hs:=hsm n (List.mem_of_getElem? hn)
 have step:∀(j:Nat) k,n.kids[j]? =some k→∃(q:Nat) (m:Nd),k=(q:Int)∧l[q]? =some m∧(TB l k.toNat).kind=m.kind:=by
  intro j k hj
  have hkr:=h.kids hn k (List.mem_of_getElem? hj)
  have hil:=(List.getElem?_eq_some_iff.1 hn).1
  obtain⟨q,hq⟩:∃q:Nat,k=q:=⟨k.toNat,by omega⟩
  obtain⟨m,hm⟩:∃m,l[q]? =some m:=⟨l[q]'(by omega),by simp⟩
  refine⟨q,m,hq,hm, ?_⟩
  rw[hq,Int.toNat_natCast,TB,hm]
 constructor
 ·rw[M.Dl]
  refine Xj n.kids (kp l n) (fun j k hj=> ?_) ?_
  ·obtain⟨q,m,hq,hm,he⟩:=step j k hj
   have hjl:=(List.getElem?_eq_some_iff.1 hj).1
   have hok:=(amu hs hkl hf j hjl m.kind).1
   rw[kp,he]
   subst hq
   simp only[M.JB,M.yP,fG,mV,hn,hm,Option.map_some,ah,EY,GX,GY,GZ,EL,dw,rD,hj,Ll,hok]
   rw[decide_eq_true (by omega),cond_true,aP (by omega) (by omega)]
   cases kOk n j m.kind<;>rfl
  ·simp only[M.JB,M.yP,fG,mV,hn,Option.map_some,ah,EL,dw]
   rw[decide_eq_false (by omega),cond_false]
 ·rw[M.Dv]
  refine Xj n.kids (kp l n) (fun j k hj=> ?_) ?_
  ·obtain⟨q,m,hq,hm,he⟩:=step j k hj
   have hjl:=(List.getElem?_eq_some_iff.1 hj).1
   have hok:=(amu hs hkl hf j hjl m.kind).2
   rw[kp,he]
   subst hq
   simp only[M.JF,M.zi,fG,mV,hm,Option.map_some,ah,EY,rD,hj,Ll,hok]
   rw[decide_eq_true (by omega),cond_true,aP (by omega) (by omega)]
   cases kOk n j m.kind<;>rfl
  ·simp only[M.JF,M.zi]
   rw[decide_eq_false (by omega),cond_false]
noncomputable def np(l:List Nd)(_:Nat)(n:Nd):Bool:=fOk n && QC (kp l n) n.kids 0
theorem Y4(h:Val l r)(hsm:∀n,n∈l→Small n):
  M.Dn (dP o l) 0=some (bif QC (np l) l 0 then .inr (l.length:Int) else .inl ())∧
  M.Dw (dP o l) (dP o l) (l.length:Int) 0=some (bif QC (np l) l 0 then .inr (l.length:Int) else .inl ()):=by
 have hle:=h.le
 constructor
 ·rw[M.Dn]
  refine Xj l (np l) (fun i n hi=> ?_) ?_
  ·have hil:=(List.getElem?_eq_some_iff.1 hi).1
   have hf:=(aft (hsm n (List.mem_of_getElem? hi)) (h.Xk hi)).1
   simp only[M.JC,M.yQ,iq,fG,mV,hi,Option.map_some,ah,EY,GX,GY,GZ,EL,hf,np]
   rw[decide_eq_true (by omega),cond_true,aP (by omega) (by omega)]
   cases hff:fOk n with
   |false=>rfl
   |true=>
    have:=(acp (o:=o) h hsm hi hff [] 0 0).1
    rw[Bool.not_true,cond_false,this,ah]
    cases QC (kp l n) n.kids 0<;>rfl
  ·simp only[M.JC,M.yQ,iq]
   rw[decide_eq_false (by omega),cond_false]
 ·rw[M.Dw]
  refine Xj l (np l) (fun i n hi=> ?_) ?_
  ·have hil:=(List.getElem?_eq_some_iff.1 hi).1
   have hf:=(aft (hsm n (List.mem_of_getElem? hi)) (h.Xk hi)).2
   simp only[M.JG,M.zk,fG,mV,hi,Option.map_some,ah,EY,GX,GY,GZ,EL,hf,np,dw]
   rw[decide_eq_true (by omega),cond_true,aP (by omega) (by omega)]
   cases hff:fOk n with
   |false=>rfl
   |true=>
    have:=(acp (o:=o) h hsm hi hff (dP o l) (l.length:Int) (i:Int)).2
    rw[Bool.not_true,cond_false,this,ah]
    cases QC (kp l n) n.kids 0<;>rfl
  ·simp only[M.JG,M.zk]
   rw[decide_eq_false (by omega),cond_false]
end
noncomputable def Qc(l:List Nd):Bool:=Dh l &&(decide (depth l≤40) && QC (np l) l 0)
section
variable (l:List Nd) (o:Bool) (hl:l.length≤1048576) (hk:∀n,n∈l→n.kids.length≤1048576) (hsm:∀n,n∈l→Small n)
include hl hk hsm
theorem acr:M.zO (dP o l)=some (Qc l):=by
 simp only[M.zO,M.J9,Ql l o hl hk,aac l o hl hk,ah,Qc]
 cases hs:Dh l with
 |false=>rfl
 |true=>
  obtain⟨r,h⟩:=afr hs
  rw[Bool.not_true,cond_false,(Y4 (o:=o) h hsm).1,ah,Bool.true_and]
  by_cases hd:depth l≤40
  ·rw[decide_eq_false (show¬depth l>40 by omega),cond_false,decide_eq_true hd,Bool.true_and]
   cases QC (np l) l 0<;>rfl
  ·rw[decide_eq_true (show depth l>40 by omega),cond_true,decide_eq_false hd]
   rfl
theorem acs:M.zV (dP o l)=some (Qc l):=by
 simp only[M.zV,M.KA,Z9 l o hl hk,ah,Qc,iq]
 cases hs:Dh l with
 |false=>rfl
 |true=>
  obtain⟨r,h⟩:=afr hs
  have h1:=h.pos
  have h2:=h.le
  obtain⟨n,hn⟩:∃n,l[l.length - 1]? =some n:=⟨l[l.length - 1]'(by omega),by simp⟩
  have ht:=aeh (o:=o) h h.aco l.length (l.length - 1) n (by omega) hn
  have hd:=alo h h.aco l.length (l.length - 1) n n.kind n.op n.text n.other (by omega) (by omega) hn
  rw[Bool.not_true,cond_false,(Y4 (o:=o) h hsm).2,ah,Bool.true_and]
  simp only[M.rJ,M.EX,iq]
  rw[aP (by omega) (by omega),show(l.length:Int) - 1=((l.length - 1:Nat):Int) by omega,M.Ri ht,ah,ah]
  simp only
  rw[M.U9 hd,ah,depth,if_pos hs]
  cases QC (np l) l 0<;>simp[xZ,letE]
end
def yD(k:Int):Nat→List Int
 |0=>[]
 |n+1=>k::yD (k+1) n
theorem Ey(k:Int)(n:Nat):(yD k n).length=n:=by
 induction n generalizing k with
 |zero=>rfl
 |succ n ih=>simp[yD,ih]
theorem aoX(k:Int)(n i:Nat)(h:i<n):(yD k n)[i]? =some (k+i):=by
 induction n generalizing k i with
 |zero=>omega
 |succ n ih=>
  cases i with
  |zero=>simp[yD]
  |succ i=>
   simp only[yD,List.getElem?_cons_succ]
   rw[ih (k+1) i (by omega)]
   congr 1
   omega
def markT(k:Int)(l:List Int)(i:Nat):List Int:=yD k i++l.drop i
theorem aoY{k:Int}{l:List Int}{i:Nat}(h:i<l.length):(markT k l i)[i]? =l[i]? :=by
 unfold markT
 rw[List.getElem?_append_right (by simp[Ey])]
 simp[Ey]
theorem amv(k:Int)(n:Nat):yD k (n+1)=yD k n++[k+n]:=by
 induction n generalizing k with
 |zero=>simp[yD]
 |succ n ih=>
  rw[yD,ih (k+1),yD]
  simp
  omega
theorem aoZ{k:Int}{l:List Int}{i:Nat}(h:i<l.length):(markT k l i).set i (k+i)=markT k l (i+1):=by
 unfold markT
 obtain⟨x,hx⟩:∃x,l[i]? =some x:=⟨l[i],by simp[h]⟩
 have hd:l.drop i=x::l.drop (i+1):=by
  rw[List.drop_eq_getElem_cons h]
  rw[List.getElem?_eq_getElem h] at hx
  rw[Option.some.inj hx]
 rw[hd]
 have:=Ox (yD k i) (l.drop (i+1)) x (k+i)
 rw[Ey] at this
 rw[this,amv]
 simp
theorem Xl(k:Int)(l:List Int){i:Nat}(h:i≤l.length):(markT k l i).length=l.length:=by
 simp[markT,Ey]
 omega
theorem Y5(k:Int)(l:List Int)(h0:0≤k)(h1:k≤1000000000)(hl:l.length≤1000000000):M.oD k (encI l)=some (k+l.length,encI (yD k l.length)):=by
 simp only[M.oD,M.F8]
 have hloop:=jC (b:=M.AA) (t:=(k+l.length,(l.length:Int),encI (yD k l.length))) (fun i=>(k+i,(i:Int),encI (markT k l i))) l.length
  (by
   intro i hi
   obtain⟨x,hx⟩:∃x,l[i]? =some x:=⟨l[i],by simp[hi]⟩
   simp only[M.AA,M.vK,dw,Xl k l (Nat.le_of_lt hi),fG,rD,aoY hi,hx,Option.map_some,ah,Int.toNat_natCast]
   rw[decide_eq_true (by omega),cond_true,aP (by omega) (by omega),aP (by omega) (by omega)]
   have hs:splice [D.int IntKind.i64 x] 0 [D.int IntKind.i64 (k+i)]=[D.int IntKind.i64 (k+i)]:=rfl
   rw[hs,ap7,aoZ hi]
   congr 3
   omega)
  (by
   simp only[M.AA,M.vK,dw,Xl k l (Nat.le_refl _)]
   rw[decide_eq_false (by omega),cond_false]
   simp[markT]) 0 (Nat.zero_le _)
 simp only[qH,Int.add_zero,markT,yD,List.drop_zero,List.nil_append] at hloop
 rw[M.Et,hloop,ah]
theorem alp(k:Int)(n:Nat)(h0:0≤k)(h1:k≤1000000000)(hl:n≤1000000000):M.uD (encI (yD k n)) k=some (k+n):=by
 simp only[M.uD,M.F9]
 have hloop:=jC (b:=M.AL (encI (yD k n))) (t:=.inr (k+n,(n:Int))) (fun i=>(k+i,(i:Int))) n
  (by
   intro i hi
   simp only[M.AL,M.vM,dw,Ey,fG,rD,aoX k n i hi,Option.map_some,ah,Ll,bne_self_eq_false,cond_false]
   rw[decide_eq_true (by omega),cond_true,aP (by omega) (by omega),aP (by omega) (by omega)]
   congr 3
   omega)
  (by
   simp only[M.AL,M.vM,dw,Ey]
   rw[decide_eq_false (by omega),cond_false]) 0 (Nat.zero_le _)
 simp only[qH,Int.add_zero] at hloop
 rw[M.Ew,hloop,ah]
 rfl
@[simp] theorem aei(l:List Int):AQ (encI l)=true:=by
 induction l with
 |nil=>rfl
 |cons x l ih=>
  simp only[encI,List.map_cons] at ih⊢
  simp[AQ,dM,D.pure,ih]
@[simp] theorem azE(l:List Int):[[D.sl true 1 (encI l)]].all dM=true:=by
 simp[dM,D.pure]
theorem Ui:∀(m:Nat) (k:Int) (s:aF),0≤k→k.toNat≤m→s.length+k.toNat≤4000000000000000000→∃k' s',M.uI (k,s)=some (k',s')∧s'.length≤4000000000000000000
 |m,k,s,h0,h1,hs=>by
  by_cases hk:0<k
  ·cases m with
   |zero=>omega
   |succ m=>
    have hd:k.tdiv 10=k / 10:=Int.tdiv_eq_ediv_of_nonneg h0
    obtain⟨y,hy⟩:∃y,y=UInt8.ofNat (IntKind.u8.wrap (IntKind.i64.wrap (48+k.tmod 10))).toNat:=⟨_,rfl⟩
    have hstep:M.Az (k,s)=some (.inl (k / 10,[y]++s)):=by
     simp only[M.Az,M.vJ]
     rw[←hy,decide_eq_true (show k>0 from hk),cond_true]
     have:([y].length+s.length).ble 9223372036854775807=true:=by
      apply Nat.ble_eq_true_of_le
      simp
      omega
     rw[this,cond_true,hd,aP (by omega) (by omega)]
    obtain⟨k',s',h2,h3⟩:=Ui m (k / 10) ([y]++s) (by omega) (by omega) (by simp;omega)
    refine⟨k',s', ?_,h3⟩
    rw[M.uI,jU hstep]
    exact h2
  ·refine⟨k,s, ?_,by omega⟩
   rw[M.uI]
   apply iW
   simp only[M.Az,M.vJ]
   rw[decide_eq_false (show¬k>0 from hk),cond_false]
noncomputable def mk(k:Int):aF:=(M.jV k).getD []
theorem Oe(k:Int)(h:k≤4000000000000000000):M.jV k=some (mk k):=by
 have:∃s,M.jV k=some s:=by
  simp only[M.jV,M.F7]
  by_cases hk:k≤0
  ·rw[decide_eq_true hk];exact⟨_,rfl⟩
  ·rw[decide_eq_false hk,cond_false]
   obtain⟨k',s',h2,h3⟩:=Ui k.toNat k [] (by omega) (Nat.le_refl _) (by simp;omega)
   rw[h2,ah]
   have:(1+s'.length).ble 9223372036854775807=true:=by
    apply Nat.ble_eq_true_of_le
    omega
   rw[this]
   exact⟨_,rfl⟩
 obtain⟨s,hs⟩:=this
 rw[mk,hs]
 rfl
theorem asC{α:Type}(a:List α)(x:α)(b:List α){i:Nat}(h:a.length=i):idx (a++x::b) (i:Int)=some x:=by
 rw[fG,List.getElem?_append_right (by omega)]
 simp[h]
theorem asD{α:Type}(a:List α)(x:α)(b:List α){i:Nat}(h:a.length=i):(a++x::b)[i]? =some x:=by
 rw[List.getElem?_append_right (by omega)]
 simp[h]
theorem at_set{α:Type}(a:List α)(x y:α)(b:List α){i:Nat}(h:a.length=i):(a++x::b).set i y=a++y::b:=by
 subst h
 exact Ox a b x y
theorem afu(o:Bool)(a b:List Nd):dP o (a++b)=dP o a++dP o b:=by simp[dP]
theorem ayp(w:Bool):∀t:Tn,t.row w=[.int .i64 t.kind,.int .i64 t.op,.str t.text,.str t.other,.sl w 5 (gW w t.kids)]
 | .mk k o x y ks=>rfl
theorem afv(w:Bool)(a b:List Tn):gW w (a++b)=gW w a++gW w b:=by simp[OZ]
theorem jm(w:Bool)(a:List Tn):(gW w a).length=a.length:=by simp[OZ]
theorem lG{α:Type}{l:List α}{j:Nat}{t:α}(h:l[j]? =some t):l.take (j+1)=l.take j++[t]:=by
 rw[List.take_add_one,h];rfl
theorem alq{α:Type}{l:List α}{j:Nat}{t:α}(h:l[j]? =some t):l=l.take j++t::l.drop (j+1):=by
 obtain⟨hj,rfl⟩:=List.getElem?_eq_some_iff.1 h
 rw[←List.drop_eq_getElem_cons hj,List.take_append_drop]
theorem NJ{ks:List Tn}{j:Nat}{t:Tn}(h:ks[j]? =some t):sizes (ks.take j)+t.size≤sizes ks:=by
 have:=congrArg sizes (alq h)
 rw[oI,sizes] at this
 omega
section
variable {l:List Nd} {b:Nat} {k op:Int} {x y:aF} {ks:List Tn}
theorem Lies.Vg(h:Lies l b (.mk k op x y ks)){j:Nat}{t:Tn}(hj:ks[j]? =some t):Lies l (b+sizes (ks.take j)) t:=by
 have e:=alq hj
 rw[e] at h
 exact h.kid
theorem afw{j:Nat}{t:Tn}(hj:ks[j]? =some t):(ends ks b)[j]? =some ((b+sizes (ks.take j)+sizes t.kids:Nat):Int):=by
 have hlt:=(List.getElem?_eq_some_iff.1 hj).1
 have hs:=t.SX
 rw[ap8 hlt,lG hj,oI,sizes,sizes]
 congr 1
 omega
theorem Lies.root'{t:Tn}(h:Lies l b t):l[b+sizes t.kids]? =some ⟨t.kind,t.op,t.text,t.other,ends t.kids b⟩:=by
 cases t;exact h.root
theorem aej{j:Nat}{t:Tn}(hj:ks[j]? =some t):ends (ks.take (j+1)) b=ends (ks.take j) b++[((b+sizes (ks.take j)+t.size:Nat):Int) - 1]:=by
 rw[lG hj,Q5,ends,ends]
 congr 2<;>omega
theorem acu{j:Nat}{t:Tn}(hj:ks[j]? =some t):kZ (ks.take (j+1)) b=kZ (ks.take j) b++t.flat (b+sizes (ks.take j)):=by
 rw[lG hj,Hw,kZ,kZ,List.append_nil]
theorem amw{w:Bool}{j:Nat}{t:Tn}(hj:ks[j]? =some t):gW w (ks.take (j+1))=gW w (ks.take j)++[t.row w]:=by
 rw[lG hj,afv];rfl
theorem ends_range:∀(ks:List Tn) (b:Nat),∀e,e∈ends ks b→(b:Int)≤e∧e<b+sizes ks
 |[],b,e,h=>by simp[ends] at h
 |t::ts,b,e,h=>by
  have hp:=t.size_pos
  rw[ends] at h
  have hs:(sizes (t::ts):Int)=t.size+sizes ts:=by rw[sizes];omega
  rcases List.mem_cons.1 h with rfl|h
  ·omega
  ·have:=ends_range ts _ e h
   omega
end
mutual
theorem aek:∀(t:Tn) (b:Nat),∀n,n∈t.flat b→n.kids.length≤t.size∧∀e,e∈n.kids→(0:Int)≤e∧e<b+t.size
 | .mk k o x y ks,b,n,h=>by
  rw[Tn.flat] at h
  rw[Tn.size]
  rcases List.mem_append.1 h with h|h
  ·have:=acv ks b n h
   exact⟨by omega,fun e he=>by have:=this.2 e he;omega⟩
  ·simp only[List.mem_singleton] at h
   subst h
   refine⟨by simp only[gZ];have:=lQ ks;omega,fun e he=> ?_⟩
   have:=ends_range ks b e he
   omega
theorem acv:∀(ks:List Tn) (b:Nat),∀n,n∈kZ ks b→n.kids.length≤sizes ks∧∀e,e∈n.kids→(0:Int)≤e∧e<b+sizes ks
 |[],b,n,h=>by simp[kZ] at h
 |t::ts,b,n,h=>by
  rw[kZ] at h
  rw[sizes]
  rcases List.mem_append.1 h with h|h
  ·have:=aek t b n h
   exact⟨by omega,fun e he=>by have:=this.2 e he;omega⟩
  ·have:=acv ts _ n h
   exact⟨by omega,fun e he=>by have:=this.2 e he;omega⟩
end
structure Ps where
 level:Int
 kW:Bool
 o7:Bool
 o8:Bool
 jX:Bool
 deriving DecidableEq,Inhabited
def Ps.top:Ps:=⟨1,false,false,false,false⟩
def Ps.zero:Ps:=⟨0,false,false,false,false⟩
def vS(op:Int):Int:=bif op==44 then 3 else bif op==45 then 4 else bif op==67||op==46 then 6 else
 bif op==63||(op==48||(op==47||(op==50||(op==62||op==49)))) then 7 else bif op==99 then 8 else bif op==55||op==56 then 9 else
 bif op==57||(op==58||op==59) then 10 else bif op==60 then 12 else 0
def lvl(k op:Int):Int:=bif k==15 then 1 else bif k==14 then 2 else bif k==13 then 5 else bif k==12 then vS op else bif k==11 then 11 else
 bif k==9||k==10 then 13 else bif k==6 then 14 else bif k==1||(k==2||(k==3||(k==4||(k==5||(k==7||k==8))))) then 15 else 0
def lu(p:Ps):Bool:=(decide (1≤p.level) && decide (p.level≤15)) &&(!p.kW||p.level==14)
def fits(k op:Int)(p:Ps):Bool:=bif !(lu p)||lvl k op==0 then false else bif p.o7 && k==13 then false else bif p.o8 &&(k==12 && op==62) then false else
 bif p.jX &&(k==11||(k==9||k==4)) then false else(p.kW && k==9)||decide (p.level≤lvl k op)
def sides(op:Int):Int×Int:=bif vS op==3 then(3,4) else bif vS op==4 then(4,5) else bif vS op==6 then(7,7) else bif vS op==7 then(8,8) else
 bif vS op==8 then(8,9) else bif vS op==9 then(9,10) else bif vS op==10 then(10,11) else(13,11)
def Qd(k op:Int)(j:Nat):Int:=bif k==15 then(bif Nat.beq j 0 then 14 else 1) else bif k==14 then(bif Nat.beq j 0 then 3 else 2) else bif k==13 then 5 else bif k==11 then 11 else
 bif k==12 then(bif Nat.beq j 0 then(sides op).1 else(sides op).2) else 14
def dZ(k op:Int)(n j:Nat)(p:Ps):Ps:=bif !(lu p)||(!(Nat.blt j n)||lvl k op==0) then .zero else bif lvl k op==15||(k==13 && Nat.blt 1 n) then .top else
 ⟨Qd k op j,k==6,p.o7,p.o8,bif k==11||(k==9||(k==10||k==6)) then false else(Nat.beq j 0 && p.jX)||(Nat.beq j 1 &&(k==12 && op==99))⟩
def nI(k:Int)(j:Nat):Bool:=Nat.beq j 0 &&(k==9||(k==10||k==15))
def tok(k:Int):Tk:=⟨k,spell k,0⟩
def BH:Bool→List (List Tk)→List Tk
 |_,[]=>[]
 |b,x::l=>(bif b then x else tok 36::x)++BH false l
def xQ{α:Type}(L:List (List α))(j:Nat):List α:=(L[j]?).getD []
def CX(k op:Int)(n:Nat)(x:aF)(L:List (List Tk)):List Tk:=
 bif k==1 then[⟨6,x,0⟩] else bif k==2 then[⟨3,x,0⟩] else bif k==3 then[⟨4,x,0⟩] else bif k==4 then[⟨5,x,0⟩] else
 bif k==5 then⟨6,x,0⟩::tok 34::(BH true L++[tok 35]) else bif k==7 then⟨7,x,0⟩::tok 32::(BH true L++[tok 33]) else bif k==8 then⟨8,x,0⟩::tok 32::(BH true L++[tok 33]) else
 bif k==9||k==11 then tok op::xQ L 0 else bif k==6 then tok 68::xQ L 0 else bif k==10 then xQ L 0++[tok op] else
 bif k==13 then(bif Nat.blt 1 n then tok 32::(BH true L++[tok 33]) else xQ L 0)++[tok 24,⟨6,x,0⟩] else
 bif k==14 then xQ L 0++(tok 65::(xQ L 1++(tok 66::xQ L 2))) else xQ L 0++((bif op==99 then[] else[tok op])++xQ L 1)
mutual
def sF:Tn→Ps→List Tk
 | .mk k op x _ ks,p=>CX k op ks.length x (jg k op ks.length p ks 0)
def jg(k op:Int)(n:Nat)(p:Ps):List Tn→Nat→List (List Tk)
 |[],_=>[]
 |t::ts,j=>(bif nI k j||fits t.kind t.op (dZ k op n j p) then sF t (dZ k op n j p) else tok 32::(sF t .top++[tok 33]))::jg k op n p ts (j+1)
end
def Uj(t:Tn)(p:Ps):List Tk:=bif fits t.kind t.op p then sF t p else tok 32::(sF t .top++[tok 33])
def lI(s:aF):Tn:=.mk 1 0 s [] []
def Qm:Tn:=.mk 2 0 [] [] []
def Pj:Tn:=.mk 3 0 [] [] []
def Uk(d:Tn):Tn:=.mk 4 4 [] [] [d]
def ao0(d:Tn):Tn:=.mk 5 0 [] [] [d]
def ql(l:List Tn):Tn:=.mk 6 0 [] [] l
def NK:Bool→List Tn→List Tn
 |_,[]=>[]
 |b,x::l=>(bif b then[x] else[lI [44],Qm,x])++NK false l
def acw(L:List Tn):Tn:=ao0 (Uk (ql (NK true L)))
def vT(L:List Tn)(j:Nat):Tn:=(L[j]?).getD (lI [])
def acy(s:aF):List (aF)→Nat→Nat
 |[],m=>m
 |g::l,m=>acy s l (bif Nat.blt m g.length && g.isPrefixOf s then g.length else m)
def lastB(s:aF):Int:=match s.getLast? with|some c=>(c.toNat:Int)|none=> -1
def amx(s:aF):Int:=match s with|c::_=>(c.toNat:Int)|[]=> -1
def Dz(a b:Tk):Bool:=
 bif a.text==[]||(b.text==[]||(a.kind==2||(a.kind==1||b.kind==1))) then false else
 bif isW (lastB a.text) && isW (amx b.text) then true else
 bif a.kind==3 &&(isW (amx b.text)||amx b.text==46) then true else
 bif a.kind==6 && b.kind==32 then true else
 bif !(decide (30≤a.kind) && decide (a.kind≤68)) then false else Nat.blt a.text.length (acy (a.text++b.text) Pg 0)
def Vh(k op:Int)(n:Nat)(x:aF)(gap:Bool)(L:List Tn):Tn:=
 bif k==1||(k==2||(k==3||k==4)) then lI x else bif k==5 then ql [lI (x++[91]),acw L,lI [93]] else
 bif k==7||k==8 then ql [lI (x++[40]),acw L,lI [41]] else bif k==9 then ql [lI (spell op),vT L 0] else bif k==10 then ql [vT L 0,lI (spell op)] else
 bif k==6 then ql [lI [36],vT L 0] else bif k==11 then ql [lI (bif gap then spell op++[32] else spell op),vT L 0] else
 bif k==14 then ql [vT L 0,lI [32,63,32],vT L 1,lI [32,58,32],vT L 2] else
 bif k==13 then(bif Nat.blt 1 n then ql [lI [40],acw L,lI ([41,32,105,110,32]++x)] else ql [vT L 0,lI ([32,105,110,32]++x)]) else
 bif k==12 && op==99 then ql [vT L 0,lI [32],vT L 1] else
 bif k==12 &&(op==45||op==44) then ao0 (Uk (ql [vT L 0,lI (32::spell op),Qm,vT L 1])) else
 ql [vT L 0,lI ((32::spell op)++[32]),vT L 1]
def ael(op:Int)(L:List (List Tk)):Bool:=match L with
 |(b::_)::_=>Dz (tok op) b
 |_=>false
mutual
def qh:Tn→Ps→Tn
 | .mk k op x _ ks,p=>Vh k op ks.length x (ael op (jg k op ks.length p ks 0)) (qI k op ks.length p ks 0)
def qI(k op:Int)(n:Nat)(p:Ps):List Tn→Nat→List Tn
 |[],_=>[]
 |t::ts,j=>(bif nI k j||fits t.kind t.op (dZ k op n j p) then qh t (dZ k op n j p) else ql [lI [40],qh t .top,lI [41]])::qI k op n p ts (j+1)
end
def zB(t:Tn)(p:Ps):Tn:=bif fits t.kind t.op p then qh t p else ql [lI [40],qh t .top,lI [41]]
def Lr(t:Tn):Tn:=zB t .top
def NM(t:Tn):Tn:=bif t.kind==16 then lI [] else ql [lI [32],Lr t]
def BI:List Tn→List Tn
 |[]=>[]
 |d::l=>Pj::d::BI l
def amy(L:List Tn):Tn:=ql [lI [123],Uk (ql (BI L)),Pj,lI [125]]
def G9(L:List Tn)(j:Nat):Tn:=(L[j]?).getD (.mk 0 0 [] [] [])
def KT(p:Ps)(L:List Tn):Tn:=acw (L.map fun t=>zB t p)
def amA(op:Int)(y:aF)(ks:List Tn):Tn:=
 let args:=bif y==[] then ks else ks.take (ks.length - 1)
 ql ([lI (bif op==0 then[112,114,105,110,116] else[112,114,105,110,116,102])]++
  ((bif Nat.blt 0 args.length then[lI [32],KT ⟨1,false,false,true,false⟩ args] else[])++
   (bif y==[] then[] else[lI (([32]++y)++[32]),(zB (G9 ks (ks.length - 1))) ⟨9,false,false,false,false⟩])))
def acz(w:aF)(ks:List Tn):Tn:=match ks with
 |[]=>lI w
 |t::_=>ql [lI w,NM t]
def adr(k op:Int)(x y:aF)(ks L:List Tn):Tn:=
 bif k==20 then Lr (G9 ks 0) else bif k==21 then amA op y ks else bif k==22 then lI [110,101,120,116] else bif k==25 then lI [98,114,101,97,107] else bif k==26 then lI [99,111,110,116,105,110,117,101] else
 bif k==23 then acz [101,120,105,116] ks else bif k==24 then acz [114,101,116,117,114,110] ks else
 bif k==27 then(match ks with
  |[]=>lI ([100,101,108,101,116,101,32]++x)
  |_::_=>ql [lI (([100,101,108,101,116,101,32]++x)++[91]),KT .top ks,lI [93]]) else
 bif k==28 then(let d:=ql [lI [105,102,32,40],Lr (G9 ks 0),lI [41,32],vT L 1];bif Nat.blt 2 ks.length then ql [d,lI [32,101,108,115,101,32],vT L 2] else d) else
 bif k==29 then ql [lI [119,104,105,108,101,32,40],Lr (G9 ks 0),lI [41,32],vT L 1] else
 bif k==30 then ql [lI [100,111,32],vT L 0,lI [32,119,104,105,108,101,32,40],Lr (G9 ks 1),lI [41]] else
 bif k==31 then ql [lI [102,111,114,32,40],(bif(G9 ks 0).kind==16 then lI [] else(zB (G9 ks 0)) ⟨1,false,true,false,false⟩),lI [59],NM (G9 ks 1),lI [59],NM (G9 ks 2),lI [41,32],vT L 3] else
 bif k==32 then ql [lI (((([102,111,114,32,40]++x)++[32,105,110,32])++y)++[41,32]),vT L 0] else
 bif k==33 then amy L else lI x
mutual
def jG:Tn→Tn
 | .mk k op x y ks=>adr k op x y ks (ng ks)
def ng:List Tn→List Tn
 |[]=>[]
 |t::ts=>(jG t)::ng ts
end
structure Cnt(k op:Int)(y:aF)(n:Nat):Prop where
 one:k=6∨k=9∨k=10∨k=11∨k=20∨k=32∨k=40∨k=41→n=1
 two:k=12∨k=15∨k=29∨k=30→n=2
 some_:k=5∨k=13∨k=44→1≤n
 three:k=14→n=3
 four:k=31→n=4
 cnd:k=28→n=2∨n=3
 prn:k=21→(op=0∨op=1)∧(y≠[]→1≤n)
 wrd:k=23∨k=24→n≤1
 non:k=1∨k=2∨k=3∨k=4∨k=16∨k=22∨k=25∨k=26∨k=34→n=0
 rule:k=42→(op=1∧n=1)∨(op=2∧n=1)∨(op=3∧n=2)
 range:k=43→(op=1∧n=2)∨(op=3∧n=3)
 few:k≠33→k≠45→n≤7
 bin:k=12→vS op≠0∧op≠61
 asg:k=15→op=54∨(38≤op∧op≤43)
 stp:k=9∨k=10→op=51∨op=52
 una:k=11→op=55∨op=56∨op=61
def cls(k op:Int)(n j:Nat):Nat:=
 if k=9∨k=10∨(k=15∧j=0) then 6 else if k=28∨k=29 then(if j=0 then 0 else 1) else if k=30 then(if j=0 then 1 else 0) else
 if k=31 then(if j<3 then 3 else 1) else if k=32∨k=40∨k=41 then 1 else if k=33 then 2 else if k=42 then(if op=2∨(op=3∧j+1=n) then 1 else 0) else
 if k=43 then(if j=2 then 1 else 0) else if k=44 then(if j+1=n then 1 else 4) else if k=45 then 5 else 0
def iJ(c:Nat)(d:Int):Prop:=match c with
 |0=>1≤d∧d≤15
 |1=>d=33
 |2=>20≤d∧d≤34
 |3=>d=16∨(1≤d∧d≤15)
 |4=>d=1
 |5=>(40≤d∧d≤44)∨d=34
 |_=>d=1∨d=5∨d=6
def Yc(k:Int):Prop:=(1≤k∧k≤16)∨(20≤k∧k≤34)∨(40≤k∧k≤45)
mutual
def ED:Tn→Prop
 | .mk k op x y ks=>Yc k∧Cnt k op y ks.length∧oks k op ks.length ks 0
def oks(k op:Int)(n:Nat):List Tn→Nat→Prop
 |[],_=>True
 |t::ts,j=>iJ (cls k op n j) t.kind∧(ED t)∧oks k op n ts (j+1)
end
theorem anD{k op:Int}{n:Nat}:∀{ks:List Tn} {j i:Nat} {t:Tn},oks k op n ks j→ks[i]? =some t→iJ (cls k op n (j+i)) t.kind∧(ED t)
 |[],_,i,_,_,h=>by simp at h
 |u::ts,j,0,t,h,e=>by
  rw[oks] at h
  cases e
  exact⟨h.1,h.2.1⟩
 |u::ts,j,i+1,t,h,e=>by
  rw[oks] at h
  rw[List.getElem?_cons_succ] at e
  have:=anD h.2.2 e
  rw[show j+1+i=j+(i+1) by omega] at this
  exact this
theorem Ls{k op:Int}{x y:aF}{ks:List Tn}(h:(ED (Tn.mk k op x y ks))){i:Nat}{t:Tn}(e:ks[i]? =some t):iJ (cls k op ks.length i) t.kind∧(ED t):=by
 rw[ED] at h
 have:=anD h.2.2 e
 rwa [Nat.zero_add] at this
theorem Lu{k op:Int}{x y:aF}{ks:List Tn}(h:(ED (Tn.mk k op x y ks))):Cnt k op y ks.length:=by rw[ED] at h;exact h.2.1
def RX(t:Tn):Prop:=1≤t.kind∧t.kind≤15
theorem Xm{k op:Int}{x y:aF}{ks:List Tn}(h:(ED (Tn.mk k op x y ks)))(he:1≤k∧k≤15){i:Nat}{t:Tn}(e:ks[i]? =some t):(RX t)∧(ED t):=by
 obtain⟨h1,h2⟩:=Ls h e
 refine⟨?_,h2⟩
 unfold RX
 have:cls k op ks.length i=6∨cls k op ks.length i=0:=by
  unfold cls
  split
  ·exact .inl rfl
  ·repeat(rw[if_neg (by omega)])
   exact .inr rfl
 rcases this with h|h<;>rw[h] at h1<;>simp only[iJ] at h1<;>omega
theorem EP{a b lo hi:Int}(c:Bool)(ha:lo≤a∧a≤hi)(hb:lo≤b∧b≤hi):lo≤(bif c then a else b)∧(bif c then a else b)≤hi:=by cases c<;>assumption
theorem acA(op:Int):0≤vS op∧vS op≤12:=by
 unfold vS
 exact EP _ ⟨by decide,by decide⟩ (EP _ ⟨by decide,by decide⟩ (EP _ ⟨by decide,by decide⟩ (EP _ ⟨by decide,by decide⟩ (EP _ ⟨by decide,by decide⟩ (EP _ ⟨by decide,by decide⟩ (EP _ ⟨by decide,by decide⟩ (EP _ ⟨by decide,by decide⟩ ⟨by decide,by decide⟩)))))))
theorem Og{k op:Int}{y:aF}{n:Nat}(he:1≤k∧k≤15)(hc:Cnt k op y n):1≤lvl k op∧lvl k op≤15:=by
 obtain⟨h1,h2⟩:=he
 have hk:k=1∨k=2∨k=3∨k=4∨k=5∨k=6∨k=7∨k=8∨k=9∨k=10∨k=11∨k=13∨k=14∨k=15∨k=12:=by omega
 rcases hk with rfl|rfl|rfl|rfl|rfl|rfl|rfl|rfl|rfl|rfl|rfl|rfl|rfl|rfl|rfl
 case inr.inr.inr.inr.inr.inr.inr.inr.inr.inr.inr.inr.inr.inr=>
  have hb:=(hc.bin rfl).1
  have:=acA op
  change 1≤vS op∧vS op≤15
  omega
 all_goals simp[lvl]
theorem iD(s:aF):(lI s).size=1:=by simp[lI,Tn.size,sizes]
theorem RY:Qm.size=1:=by simp[Qm,Tn.size,sizes]
theorem acB:Pj.size=1:=by simp[Pj,Tn.size,sizes]
theorem Pm(d:Tn):(Uk d).size=d.size+1:=by simp[Uk,Tn.size,sizes]
theorem anE(d:Tn):(ao0 d).size=d.size+1:=by simp[ao0,Tn.size,sizes]
theorem qX(l:List Tn):(ql l).size=sizes l+1:=by simp[ql,Tn.size]
theorem Yd:∀(L:List Tn) (b:Bool),sizes (NK b L)≤sizes L+2 * L.length
 |[],b=>by rw[NK];simp[sizes]
 |x::l,b=>by
  have:=Yd l false
  cases b<;>simp only[NK,cond_true,cond_false,oI,sizes,iD,RY,List.length_cons]<;>omega
theorem acC(L:List Tn):(acw L).size≤sizes L+2 * L.length+3:=by
 have:=Yd L true
 rw[acw,anE,Pm,qX]
 omega
theorem aem:∀(L:List Tn) (j:Nat),(vT L j).size≤sizes L+1
 |[],j=>by simp[vT,sizes,iD]
 |x::l,0=>by simp only[vT,List.getElem?_cons_zero,Option.getD_some,sizes];omega
 |x::l,j+1=>by
  have:=aem l j
  simp only[vT,List.getElem?_cons_succ,sizes] at this⊢
  omega
theorem amB:∀(L:List Tn),(vT L 0).size+((vT L 1).size+(vT L 2).size)≤sizes L+3
 |[]=>by simp[vT,sizes,iD]
 |[x]=>by simp[vT,sizes,iD]
 |[x,y]=>by simp[vT,sizes,iD];omega
 |x::y::z::l=>by simp[vT,sizes];omega
theorem xR{a b:Tn}{N:Nat}(c:Bool)(ha:a.size≤N)(hb:b.size≤N):(bif c then a else b).size≤N:=by cases c<;>assumption
theorem ao1(k op:Int)(n:Nat)(x:aF)(g:Bool)(L:List Tn):(Vh k op n x g L).size≤sizes L+2 * L.length+9:=by
 have h1:=acC L
 have h2:=aem L 0
 have h3:=amB L
 unfold Vh
 refine xR _ ?_ (xR _ ?_ (xR _ ?_ (xR _ ?_ (xR _ ?_ (xR _ ?_ (xR _ ?_ (xR _ ?_ (xR _ (xR _ ?_ ?_) (xR _ ?_ (xR _ ?_ ?_))))))))))
 all_goals(simp only[iD,qX,anE,Pm,RY,sizes]<;>omega)
theorem Xn(k op:Int)(n:Nat)(p:Ps):∀(ts:List Tn) (j:Nat),(qI k op n p ts j).length=ts.length
 |[],j=>by simp[qI]
 |t::ts,j=>by rw[qI,List.length_cons,Xn k op n p ts (j+1),List.length_cons]
def I7(k op:Int)(n:Nat)(p:Ps)(j:Nat)(u:Tn):Tn:=bif nI k j||fits u.kind u.op (dZ k op n j p) then qh u (dZ k op n j p) else ql [lI [40],qh u .top,lI [41]]
theorem acD(a:Tn):(ql [lI [40],a,lI [41]]).size=a.size+3:=by simp only[qX,iD,sizes];omega
theorem aen{k op:Int}{n:Nat}{p:Ps}{j:Nat}{u:Tn}(h:∀q,(qh u q).size+6≤16 * u.size):(I7 k op n p j u).size+3≤16 * u.size:=by
 unfold I7
 cases(nI k j||fits u.kind u.op (dZ k op n j p)) with
 |true=>have:=h (dZ k op n j p);rw[cond_true];omega
 |false=>have:=h .top;rw[cond_false,acD];omega
theorem acE{k op:Int}{n:Nat}{p:Ps}:∀{ts:List Tn} {j:Nat},(∀u,u∈ts→∀q,(qh u q).size+6≤16 * u.size)→sizes (qI k op n p ts j)+3 * ts.length≤16 * sizes ts
 |[],j,_=>by rw[qI];simp[sizes]
 |t::ts,j,h=>by
  have h1:=aen (k:=k) (op:=op) (n:=n) (p:=p) (j:=j) (h t List.mem_cons_self)
  have h2:=acE (k:=k) (op:=op) (n:=n) (p:=p) (ts:=ts) (j:=j+1) fun u hu=>h u (List.mem_cons_of_mem _ hu)
  unfold I7 at h1
  rw[qI,sizes,sizes,List.length_cons]
  omega
theorem Gx(t:Tn):∀q,(qh t q).size+6≤16 * t.size:=by
 refine Tn.ind (P:=fun t=>∀q,(qh t q).size+6≤16 * t.size) ?_ t
 intro k op x y ks ih q
 have h1:=ao1 k op ks.length x (ael op (jg k op ks.length q ks 0)) (qI k op ks.length q ks 0)
 have h2:=acE (k:=k) (op:=op) (n:=ks.length) (p:=q) (ts:=ks) (j:=0) ih
 rw[Xn] at h1
 rw[qh,Tn.size]
 omega
theorem lU(t:Tn)(q:Ps):(zB t q).size+3≤16 * t.size:=by
 have h1:=Gx t q
 have h2:=Gx t .top
 unfold zB
 cases fits t.kind t.op q with
 |true=>rw[cond_true];omega
 |false=>rw[cond_false,acD];omega
theorem Ye:∀(L:List Tn) (j:Nat),(G9 L j).size≤sizes L+1
 |[],j=>by simp[G9,sizes,Tn.size]
 |x::l,0=>by simp[G9,sizes];omega
 |x::l,j+1=>by
  have:=Ye l j
  simp only[G9,List.getElem?_cons_succ,sizes] at this⊢
  omega
theorem MF(t:Tn):(NM t).size≤16 * t.size:=by
 have h:=lU t .top
 have hp:=t.size_pos
 unfold NM Lr
 refine xR _ ?_ ?_
 ·rw[iD];omega
 ·rw[qX]
  simp only[sizes,iD]
  omega
theorem Gy(p:Ps)(L:List Tn):(KT p L).size≤16 * sizes L+3:=by
 have h:∀L:List Tn,sizes (L.map fun t=>zB t p)+3 * L.length≤16 * sizes L:=by
  intro L
  induction L with
  |nil=>simp[sizes]
  |cons t l ih=>
   have:=lU t p
   simp only[List.map_cons,sizes,List.length_cons]
   omega
 have h1:=acC (L.map fun t=>zB t p)
 have h2:=h L
 rw[List.length_map] at h1
 unfold KT
 omega
theorem RZ:∀L:List Tn,sizes (BI L)=sizes L+L.length
 |[]=>rfl
 |d::l=>by
  have:=RZ l
  simp only[BI,sizes,acB,List.length_cons]
  omega
theorem ao2(L:List Tn):(amy L).size=sizes L+L.length+6:=by
 have:=RZ L
 simp only[amy,qX,Pm,sizes,iD,acB]
 omega
theorem take_size:∀(ks:List Tn) (n:Nat),sizes (ks.take n)≤sizes ks
 |[],n=>by simp[sizes]
 |t::ts,0=>by simp[sizes]
 |t::ts,n+1=>by
  have:=take_size ts n
  simp only[List.take_succ_cons,sizes]
  omega
end Go.Proofs.YtbpldgeajbfgnaaGreatDoor
