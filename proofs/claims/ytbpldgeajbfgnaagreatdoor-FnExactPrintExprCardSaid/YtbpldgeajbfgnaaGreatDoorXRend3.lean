import Derived.Test.YtbpldgeajbfgnaaGreatDoorXLay
set_option linter.defProp false
namespace Go.Proofs.YtbpldgeajbfgnaaGreatDoor
set_option linter.unusedVariables false
set_option linter.unusedSimpArgs false
open Go Go.Vm
open Go.IntKind (i64)
def gJ{op:Int}(h:abn op=true):vT op≠0∧op≠61:=by
 have hc:op=60∨op=57∨op=58∨op=59∨op=55∨op=56∨op=99∨op=63∨op=48∨op=47∨op=50∨op=62∨op=49∨op=67∨op=46∨op=45∨op=44:=by simp only[abn,Bool.or_eq_true,beq_iff_eq] at h;omega
 rcases hc with rfl|rfl|rfl|rfl|rfl|rfl|rfl|rfl|rfl|rfl|rfl|rfl|rfl|rfl|rfl|rfl|rfl<;>decide
def iT{op:Int}(h:abo op=true):op=54∨(38<=op∧op<=43):=by simp only[abo,Bool.or_eq_true,AL,beq_iff_eq,decide_eq_true_eq] at h;omega
def aIc(op:Int)(t o:aC)(kids:au)(h:M.ay 1 op t o kids=some true):Cnt 1 op o kids.length:=by
 simp only[M.ay,M.aB,M.aN,M.aH,M.aS,M.aP,M.aO,M.aI,aT,aJ,dH,bf,Int.reduceBEq,Int.reduceLE,Int.reduceLT,Int.reduceSub,Int.reduceAdd,aU,ah] at h;revert h;cases hn0:M.gW t with
 |none=>cases op==0<;>simp
 |some b0=>_
 all_goals try simp only[Int.reduceBEq,Int.reduceLE,Int.reduceLT,Int.reduceSub,Int.reduceAdd,aU,ah]
 all_goals(cases ho0:(op==0)<;>cases ht:(t==[])<;>cases hy:(o==[])<;>cases b0<;>simp_all<;>intros<;>constructor<;>intros<;>first|omega|exact gJ ‹_›|exact iT ‹_›|(rw[aG (n:=op+1) (by omega) (by omega)] at *;omega)|(simp_all<;>omega))
def aId(op:Int)(t o:aC)(kids:au)(h:M.ay 2 op t o kids=some true):Cnt 2 op o kids.length:=by
 simp only[M.ay,M.aB,M.aN,M.aH,M.aS,M.aP,M.aO,M.aI,aT,aJ,dH,bf,Int.reduceBEq,Int.reduceLE,Int.reduceLT,Int.reduceSub,Int.reduceAdd,aU,ah] at h;revert h;cases hn0:M.kL 3 t 0 with
 |none=>cases op==0<;>simp
 |some b0=>_
 all_goals try simp only[Int.reduceBEq,Int.reduceLE,Int.reduceLT,Int.reduceSub,Int.reduceAdd,aU,ah]
 all_goals(cases ho0:(op==0)<;>cases ht:(t==[])<;>cases hy:(o==[])<;>cases b0<;>simp_all<;>intros<;>constructor<;>intros<;>first|omega|exact gJ ‹_›|exact iT ‹_›|(rw[aG (n:=op+1) (by omega) (by omega)] at *;omega)|(simp_all<;>omega))
def aIe(op:Int)(t o:aC)(kids:au)(h:M.ay 3 op t o kids=some true):Cnt 3 op o kids.length:=by
 simp only[M.ay,M.aB,M.aN,M.aH,M.aS,M.aP,M.aO,M.aI,aT,aJ,dH,bf,Int.reduceBEq,Int.reduceLE,Int.reduceLT,Int.reduceSub,Int.reduceAdd,aU,ah] at h;revert h;cases hn0:M.kL 4 t 0 with
 |none=>cases op==0<;>simp
 |some b0=>_
 all_goals try simp only[Int.reduceBEq,Int.reduceLE,Int.reduceLT,Int.reduceSub,Int.reduceAdd,aU,ah]
 all_goals(cases ho0:(op==0)<;>cases ht:(t==[])<;>cases hy:(o==[])<;>cases b0<;>simp_all<;>intros<;>constructor<;>intros<;>first|omega|exact gJ ‹_›|exact iT ‹_›|(rw[aG (n:=op+1) (by omega) (by omega)] at *;omega)|(simp_all<;>omega))
def aIf(op:Int)(t o:aC)(kids:au)(h:M.ay 4 op t o kids=some true):Cnt 4 op o kids.length:=by
 simp only[M.ay,M.aB,M.aN,M.aH,M.aS,M.aP,M.aO,M.aI,aT,aJ,dH,bf,Int.reduceBEq,Int.reduceLE,Int.reduceLT,Int.reduceSub,Int.reduceAdd,aU,ah] at h;revert h;cases hn0:M.kL 5 t 0 with
 |none=>cases op==0<;>simp
 |some b0=>_
 all_goals try simp only[Int.reduceBEq,Int.reduceLE,Int.reduceLT,Int.reduceSub,Int.reduceAdd,aU,ah]
 all_goals(cases ho0:(op==0)<;>cases ht:(t==[])<;>cases hy:(o==[])<;>cases b0<;>simp_all<;>intros<;>constructor<;>intros<;>first|omega|exact gJ ‹_›|exact iT ‹_›|(rw[aG (n:=op+1) (by omega) (by omega)] at *;omega)|(simp_all<;>omega))
def aIg(op:Int)(t o:aC)(kids:au)(h:M.ay 5 op t o kids=some true):Cnt 5 op o kids.length:=by
 simp only[M.ay,M.aB,M.aN,M.aH,M.aS,M.aP,M.aO,M.aI,aT,aJ,dH,bf,Int.reduceBEq,Int.reduceLE,Int.reduceLT,Int.reduceSub,Int.reduceAdd,aU,ah] at h;revert h;cases hn0:M.gW t with
 |none=>cases op==0<;>simp
 |some b0=>_
 all_goals try simp only[Int.reduceBEq,Int.reduceLE,Int.reduceLT,Int.reduceSub,Int.reduceAdd,aU,ah]
 all_goals(cases ho0:(op==0)<;>cases ht:(t==[])<;>cases hy:(o==[])<;>cases b0<;>simp_all<;>intros<;>constructor<;>intros<;>first|omega|exact gJ ‹_›|exact iT ‹_›|(rw[aG (n:=op+1) (by omega) (by omega)] at *;omega)|(simp_all<;>omega))
def aIh(op:Int)(t o:aC)(kids:au)(h:M.ay 6 op t o kids=some true):Cnt 6 op o kids.length:=by
 simp only[M.ay,M.aB,M.aN,M.aH,M.aS,M.aP,M.aO,M.aI,aT,aJ,dH,bf,Int.reduceBEq,Int.reduceLE,Int.reduceLT,Int.reduceSub,Int.reduceAdd,aU,ah] at h;revert h
 all_goals try simp only[Int.reduceBEq,Int.reduceLE,Int.reduceLT,Int.reduceSub,Int.reduceAdd,aU,ah]
 all_goals(cases ho0:(op==0)<;>cases ht:(t==[])<;>cases hy:(o==[])<;>simp_all<;>intros<;>constructor<;>intros<;>first|omega|exact gJ ‹_›|exact iT ‹_›|(rw[aG (n:=op+1) (by omega) (by omega)] at *;omega)|(simp_all<;>omega))
def aIi(op:Int)(t o:aC)(kids:au)(h:M.ay 7 op t o kids=some true):Cnt 7 op o kids.length:=by
 simp only[M.ay,M.aB,M.aN,M.aH,M.aS,M.aP,M.aO,M.aI,aT,aJ,dH,bf,Int.reduceBEq,Int.reduceLE,Int.reduceLT,Int.reduceSub,Int.reduceAdd,aU,ah] at h;revert h;cases hn0:M.gW t with
 |none=>cases op==0<;>simp
 |some b0=>_
 all_goals try simp only[Int.reduceBEq,Int.reduceLE,Int.reduceLT,Int.reduceSub,Int.reduceAdd,aU,ah]
 all_goals(cases ho0:(op==0)<;>cases ht:(t==[])<;>cases hy:(o==[])<;>cases b0<;>simp_all<;>intros<;>constructor<;>intros<;>first|omega|exact gJ ‹_›|exact iT ‹_›|(rw[aG (n:=op+1) (by omega) (by omega)] at *;omega)|(simp_all<;>omega))
def aIj(op:Int)(t o:aC)(kids:au)(h:M.ay 8 op t o kids=some true):Cnt 8 op o kids.length:=by
 simp only[M.ay,M.aB,M.aN,M.aH,M.aS,M.aP,M.aO,M.aI,aT,aJ,dH,bf,Int.reduceBEq,Int.reduceLE,Int.reduceLT,Int.reduceSub,Int.reduceAdd,aU,ah] at h;revert h;cases hn0:M.jU t with
 |none=>cases op==0<;>simp
 |some b0=>_
 all_goals try simp only[Int.reduceBEq,Int.reduceLE,Int.reduceLT,Int.reduceSub,Int.reduceAdd,aU,ah]
 all_goals(cases ho0:(op==0)<;>cases ht:(t==[])<;>cases hy:(o==[])<;>cases b0<;>simp_all<;>intros<;>constructor<;>intros<;>first|omega|exact gJ ‹_›|exact iT ‹_›|(rw[aG (n:=op+1) (by omega) (by omega)] at *;omega)|(simp_all<;>omega))
def aIk(op:Int)(t o:aC)(kids:au)(h:M.ay 9 op t o kids=some true):Cnt 9 op o kids.length:=by
 simp only[M.ay,M.aB,M.aN,M.aH,M.aS,M.aP,M.aO,M.aI,aT,aJ,dH,bf,Int.reduceBEq,Int.reduceLE,Int.reduceLT,Int.reduceSub,Int.reduceAdd,aU,ah] at h;revert h
 all_goals try simp only[Int.reduceBEq,Int.reduceLE,Int.reduceLT,Int.reduceSub,Int.reduceAdd,aU,ah]
 all_goals(cases ho0:(op==51)<;>cases ho1:(op==52)<;>cases ht:(t==[])<;>cases hy:(o==[])<;>simp_all<;>intros<;>constructor<;>intros<;>first|omega|exact gJ ‹_›|exact iT ‹_›|(rw[aG (n:=op+1) (by omega) (by omega)] at *;omega)|(simp_all<;>omega))
def au3(op:Int)(t o:aC)(kids:au)(h:M.ay 10 op t o kids=some true):Cnt 10 op o kids.length:=by
 simp only[M.ay,M.aB,M.aN,M.aH,M.aS,M.aP,M.aO,M.aI,aT,aJ,dH,bf,Int.reduceBEq,Int.reduceLE,Int.reduceLT,Int.reduceSub,Int.reduceAdd,aU,ah] at h;revert h
 all_goals try simp only[Int.reduceBEq,Int.reduceLE,Int.reduceLT,Int.reduceSub,Int.reduceAdd,aU,ah]
 all_goals(cases ho0:(op==51)<;>cases ho1:(op==52)<;>cases ht:(t==[])<;>cases hy:(o==[])<;>simp_all<;>intros<;>constructor<;>intros<;>first|omega|exact gJ ‹_›|exact iT ‹_›|(rw[aG (n:=op+1) (by omega) (by omega)] at *;omega)|(simp_all<;>omega))
def au4(op:Int)(t o:aC)(kids:au)(h:M.ay 11 op t o kids=some true):Cnt 11 op o kids.length:=by
 simp only[M.ay,M.aB,M.aN,M.aH,M.aS,M.aP,M.aO,M.aI,aT,aJ,dH,bf,Int.reduceBEq,Int.reduceLE,Int.reduceLT,Int.reduceSub,Int.reduceAdd,aU,ah] at h;revert h
 all_goals try simp only[Int.reduceBEq,Int.reduceLE,Int.reduceLT,Int.reduceSub,Int.reduceAdd,aU,ah]
 all_goals(cases ho0:(op==55)<;>cases ho1:(op==56)<;>cases ho2:(op==61)<;>cases ht:(t==[])<;>cases hy:(o==[])<;>simp_all<;>intros<;>constructor<;>intros<;>first|omega|exact gJ ‹_›|exact iT ‹_›|(rw[aG (n:=op+1) (by omega) (by omega)] at *;omega)|(simp_all<;>omega))
def au5(op:Int)(t o:aC)(kids:au)(h:M.ay 12 op t o kids=some true):Cnt 12 op o kids.length:=by
 simp only[M.ay,M.aB,M.aN,M.aH,M.aS,M.aP,M.aO,M.aI,aT,aJ,dH,bf,Int.reduceBEq,Int.reduceLE,Int.reduceLT,Int.reduceSub,Int.reduceAdd,aU,ah] at h;revert h
 all_goals try simp only[Int.reduceBEq,Int.reduceLE,Int.reduceLT,Int.reduceSub,Int.reduceAdd,aU,ah]
 all_goals(cases ho0:(abn op)<;>cases ht:(t==[])<;>cases hy:(o==[])<;>simp_all<;>intros<;>constructor<;>intros<;>first|omega|exact gJ ‹_›|exact iT ‹_›|(rw[aG (n:=op+1) (by omega) (by omega)] at *;omega)|(simp_all<;>omega))
def au6(op:Int)(t o:aC)(kids:au)(h:M.ay 13 op t o kids=some true):Cnt 13 op o kids.length:=by
 simp only[M.ay,M.aB,M.aN,M.aH,M.aS,M.aP,M.aO,M.aI,aT,aJ,dH,bf,Int.reduceBEq,Int.reduceLE,Int.reduceLT,Int.reduceSub,Int.reduceAdd,aU,ah] at h;revert h;cases hn0:M.gW t with
 |none=>cases op==0<;>simp
 |some b0=>_
 all_goals try simp only[Int.reduceBEq,Int.reduceLE,Int.reduceLT,Int.reduceSub,Int.reduceAdd,aU,ah]
 all_goals(cases ho0:(op==0)<;>cases ht:(t==[])<;>cases hy:(o==[])<;>cases b0<;>simp_all<;>intros<;>constructor<;>intros<;>first|omega|exact gJ ‹_›|exact iT ‹_›|(rw[aG (n:=op+1) (by omega) (by omega)] at *;omega)|(simp_all<;>omega))
def au7(op:Int)(t o:aC)(kids:au)(h:M.ay 14 op t o kids=some true):Cnt 14 op o kids.length:=by
 simp only[M.ay,M.aB,M.aN,M.aH,M.aS,M.aP,M.aO,M.aI,aT,aJ,dH,bf,Int.reduceBEq,Int.reduceLE,Int.reduceLT,Int.reduceSub,Int.reduceAdd,aU,ah] at h;revert h
 all_goals try simp only[Int.reduceBEq,Int.reduceLE,Int.reduceLT,Int.reduceSub,Int.reduceAdd,aU,ah]
 all_goals(cases ho0:(op==0)<;>cases ht:(t==[])<;>cases hy:(o==[])<;>simp_all<;>intros<;>constructor<;>intros<;>first|omega|exact gJ ‹_›|exact iT ‹_›|(rw[aG (n:=op+1) (by omega) (by omega)] at *;omega)|(simp_all<;>omega))
def au8(op:Int)(t o:aC)(kids:au)(h:M.ay 15 op t o kids=some true):Cnt 15 op o kids.length:=by
 simp only[M.ay,M.aB,M.aN,M.aH,M.aS,M.aP,M.aO,M.aI,aT,aJ,dH,bf,Int.reduceBEq,Int.reduceLE,Int.reduceLT,Int.reduceSub,Int.reduceAdd,aU,ah] at h;revert h
 all_goals try simp only[Int.reduceBEq,Int.reduceLE,Int.reduceLT,Int.reduceSub,Int.reduceAdd,aU,ah]
 all_goals(cases ho0:(abo op)<;>cases ht:(t==[])<;>cases hy:(o==[])<;>simp_all<;>intros<;>constructor<;>intros<;>first|omega|exact gJ ‹_›|exact iT ‹_›|(rw[aG (n:=op+1) (by omega) (by omega)] at *;omega)|(simp_all<;>omega))
def au9(op:Int)(t o:aC)(kids:au)(h:M.ay 16 op t o kids=some true):Cnt 16 op o kids.length:=by
 simp only[M.ay,M.aB,M.aN,M.aH,M.aS,M.aP,M.aO,M.aI,aT,aJ,dH,bf,Int.reduceBEq,Int.reduceLE,Int.reduceLT,Int.reduceSub,Int.reduceAdd,aU,ah] at h;revert h
 all_goals try simp only[Int.reduceBEq,Int.reduceLE,Int.reduceLT,Int.reduceSub,Int.reduceAdd,aU,ah]
 all_goals(cases ho0:(op==0)<;>cases ht:(t==[])<;>cases hy:(o==[])<;>simp_all<;>intros<;>constructor<;>intros<;>first|omega|exact gJ ‹_›|exact iT ‹_›|(rw[aG (n:=op+1) (by omega) (by omega)] at *;omega)|(simp_all<;>omega))
def ava(op:Int)(t o:aC)(kids:au)(h:M.ay 20 op t o kids=some true):Cnt 20 op o kids.length:=by
 simp only[M.ay,M.aB,M.aN,M.aH,M.aS,M.aP,M.aO,M.aI,aT,aJ,dH,bf,Int.reduceBEq,Int.reduceLE,Int.reduceLT,Int.reduceSub,Int.reduceAdd,aU,ah] at h;revert h
 all_goals try simp only[Int.reduceBEq,Int.reduceLE,Int.reduceLT,Int.reduceSub,Int.reduceAdd,aU,ah]
 all_goals(cases ho0:(op==0)<;>cases ht:(t==[])<;>cases hy:(o==[])<;>simp_all<;>intros<;>constructor<;>intros<;>first|omega|exact gJ ‹_›|exact iT ‹_›|(rw[aG (n:=op+1) (by omega) (by omega)] at *;omega)|(simp_all<;>omega))
def avb(op:Int)(t o:aC)(kids:au)(h:M.ay 21 op t o kids=some true):Cnt 21 op o kids.length:=by
 simp only[M.ay,M.aB,M.aN,M.aH,M.aS,M.aP,M.aO,M.aI,aT,aJ,dH,bf,Int.reduceBEq,Int.reduceLE,Int.reduceLT,Int.reduceSub,Int.reduceAdd,aU,ah] at h;revert h
 all_goals try simp only[Int.reduceBEq,Int.reduceLE,Int.reduceLT,Int.reduceSub,Int.reduceAdd,aU,ah]
 all_goals(cases ho0:(decide (0<=op))<;>cases ho1:(decide (op<=1))<;>cases ht:(t==[])<;>cases hy:(o==[])<;>cases h1:(o==[62])<;>cases h2:(o==[62,62])<;>cases h3:(o==[124])<;>simp_all<;>intros<;>constructor<;>intros<;>first|omega|exact gJ ‹_›|exact iT ‹_›|(rw[aG (n:=op+1) (by omega) (by omega)] at *;omega)|(simp_all<;>omega))
def avc(op:Int)(t o:aC)(kids:au)(h:M.ay 22 op t o kids=some true):Cnt 22 op o kids.length:=by
 simp only[M.ay,M.aB,M.aN,M.aH,M.aS,M.aP,M.aO,M.aI,aT,aJ,dH,bf,Int.reduceBEq,Int.reduceLE,Int.reduceLT,Int.reduceSub,Int.reduceAdd,aU,ah] at h;revert h
 all_goals try simp only[Int.reduceBEq,Int.reduceLE,Int.reduceLT,Int.reduceSub,Int.reduceAdd,aU,ah]
 all_goals(cases ho0:(op==0)<;>cases ht:(t==[])<;>cases hy:(o==[])<;>simp_all<;>intros<;>constructor<;>intros<;>first|omega|exact gJ ‹_›|exact iT ‹_›|(rw[aG (n:=op+1) (by omega) (by omega)] at *;omega)|(simp_all<;>omega))
def avd(op:Int)(t o:aC)(kids:au)(h:M.ay 23 op t o kids=some true):Cnt 23 op o kids.length:=by
 simp only[M.ay,M.aB,M.aN,M.aH,M.aS,M.aP,M.aO,M.aI,aT,aJ,dH,bf,Int.reduceBEq,Int.reduceLE,Int.reduceLT,Int.reduceSub,Int.reduceAdd,aU,ah] at h;revert h
 all_goals try simp only[Int.reduceBEq,Int.reduceLE,Int.reduceLT,Int.reduceSub,Int.reduceAdd,aU,ah]
 all_goals(cases ho0:(op==0)<;>cases ht:(t==[])<;>cases hy:(o==[])<;>simp_all<;>intros<;>constructor<;>intros<;>first|omega|exact gJ ‹_›|exact iT ‹_›|(rw[aG (n:=op+1) (by omega) (by omega)] at *;omega)|(simp_all<;>omega))
def ave(op:Int)(t o:aC)(kids:au)(h:M.ay 24 op t o kids=some true):Cnt 24 op o kids.length:=by
 simp only[M.ay,M.aB,M.aN,M.aH,M.aS,M.aP,M.aO,M.aI,aT,aJ,dH,bf,Int.reduceBEq,Int.reduceLE,Int.reduceLT,Int.reduceSub,Int.reduceAdd,aU,ah] at h;revert h
 all_goals try simp only[Int.reduceBEq,Int.reduceLE,Int.reduceLT,Int.reduceSub,Int.reduceAdd,aU,ah]
 all_goals(cases ho0:(op==0)<;>cases ht:(t==[])<;>cases hy:(o==[])<;>simp_all<;>intros<;>constructor<;>intros<;>first|omega|exact gJ ‹_›|exact iT ‹_›|(rw[aG (n:=op+1) (by omega) (by omega)] at *;omega)|(simp_all<;>omega))
def avf(op:Int)(t o:aC)(kids:au)(h:M.ay 25 op t o kids=some true):Cnt 25 op o kids.length:=by
 simp only[M.ay,M.aB,M.aN,M.aH,M.aS,M.aP,M.aO,M.aI,aT,aJ,dH,bf,Int.reduceBEq,Int.reduceLE,Int.reduceLT,Int.reduceSub,Int.reduceAdd,aU,ah] at h;revert h
 all_goals try simp only[Int.reduceBEq,Int.reduceLE,Int.reduceLT,Int.reduceSub,Int.reduceAdd,aU,ah]
 all_goals(cases ho0:(op==0)<;>cases ht:(t==[])<;>cases hy:(o==[])<;>simp_all<;>intros<;>constructor<;>intros<;>first|omega|exact gJ ‹_›|exact iT ‹_›|(rw[aG (n:=op+1) (by omega) (by omega)] at *;omega)|(simp_all<;>omega))
def avg(op:Int)(t o:aC)(kids:au)(h:M.ay 26 op t o kids=some true):Cnt 26 op o kids.length:=by
 simp only[M.ay,M.aB,M.aN,M.aH,M.aS,M.aP,M.aO,M.aI,aT,aJ,dH,bf,Int.reduceBEq,Int.reduceLE,Int.reduceLT,Int.reduceSub,Int.reduceAdd,aU,ah] at h;revert h
 all_goals try simp only[Int.reduceBEq,Int.reduceLE,Int.reduceLT,Int.reduceSub,Int.reduceAdd,aU,ah]
 all_goals(cases ho0:(op==0)<;>cases ht:(t==[])<;>cases hy:(o==[])<;>simp_all<;>intros<;>constructor<;>intros<;>first|omega|exact gJ ‹_›|exact iT ‹_›|(rw[aG (n:=op+1) (by omega) (by omega)] at *;omega)|(simp_all<;>omega))
def avh(op:Int)(t o:aC)(kids:au)(h:M.ay 27 op t o kids=some true):Cnt 27 op o kids.length:=by
 simp only[M.ay,M.aB,M.aN,M.aH,M.aS,M.aP,M.aO,M.aI,aT,aJ,dH,bf,Int.reduceBEq,Int.reduceLE,Int.reduceLT,Int.reduceSub,Int.reduceAdd,aU,ah] at h;revert h;cases hn0:M.gW t with
 |none=>cases op==0<;>simp
 |some b0=>_
 all_goals try simp only[Int.reduceBEq,Int.reduceLE,Int.reduceLT,Int.reduceSub,Int.reduceAdd,aU,ah]
 all_goals(cases ho0:(op==0)<;>cases ht:(t==[])<;>cases hy:(o==[])<;>cases b0<;>simp_all<;>intros<;>constructor<;>intros<;>first|omega|exact gJ ‹_›|exact iT ‹_›|(rw[aG (n:=op+1) (by omega) (by omega)] at *;omega)|(simp_all<;>omega))
def avi(op:Int)(t o:aC)(kids:au)(h:M.ay 28 op t o kids=some true):Cnt 28 op o kids.length:=by
 simp only[M.ay,M.aB,M.aN,M.aH,M.aS,M.aP,M.aO,M.aI,aT,aJ,dH,bf,Int.reduceBEq,Int.reduceLE,Int.reduceLT,Int.reduceSub,Int.reduceAdd,aU,ah] at h;revert h
 all_goals try simp only[Int.reduceBEq,Int.reduceLE,Int.reduceLT,Int.reduceSub,Int.reduceAdd,aU,ah]
 all_goals(cases ho0:(op==0)<;>cases ht:(t==[])<;>cases hy:(o==[])<;>simp_all<;>intros<;>constructor<;>intros<;>first|omega|exact gJ ‹_›|exact iT ‹_›|(rw[aG (n:=op+1) (by omega) (by omega)] at *;omega)|(simp_all<;>omega))
def avj(op:Int)(t o:aC)(kids:au)(h:M.ay 29 op t o kids=some true):Cnt 29 op o kids.length:=by
 simp only[M.ay,M.aB,M.aN,M.aH,M.aS,M.aP,M.aO,M.aI,aT,aJ,dH,bf,Int.reduceBEq,Int.reduceLE,Int.reduceLT,Int.reduceSub,Int.reduceAdd,aU,ah] at h;revert h
 all_goals try simp only[Int.reduceBEq,Int.reduceLE,Int.reduceLT,Int.reduceSub,Int.reduceAdd,aU,ah]
 all_goals(cases ho0:(op==0)<;>cases ht:(t==[])<;>cases hy:(o==[])<;>simp_all<;>intros<;>constructor<;>intros<;>first|omega|exact gJ ‹_›|exact iT ‹_›|(rw[aG (n:=op+1) (by omega) (by omega)] at *;omega)|(simp_all<;>omega))
def avk(op:Int)(t o:aC)(kids:au)(h:M.ay 30 op t o kids=some true):Cnt 30 op o kids.length:=by
 simp only[M.ay,M.aB,M.aN,M.aH,M.aS,M.aP,M.aO,M.aI,aT,aJ,dH,bf,Int.reduceBEq,Int.reduceLE,Int.reduceLT,Int.reduceSub,Int.reduceAdd,aU,ah] at h;revert h
 all_goals try simp only[Int.reduceBEq,Int.reduceLE,Int.reduceLT,Int.reduceSub,Int.reduceAdd,aU,ah]
 all_goals(cases ho0:(op==0)<;>cases ht:(t==[])<;>cases hy:(o==[])<;>simp_all<;>intros<;>constructor<;>intros<;>first|omega|exact gJ ‹_›|exact iT ‹_›|(rw[aG (n:=op+1) (by omega) (by omega)] at *;omega)|(simp_all<;>omega))
def avl(op:Int)(t o:aC)(kids:au)(h:M.ay 31 op t o kids=some true):Cnt 31 op o kids.length:=by
 simp only[M.ay,M.aB,M.aN,M.aH,M.aS,M.aP,M.aO,M.aI,aT,aJ,dH,bf,Int.reduceBEq,Int.reduceLE,Int.reduceLT,Int.reduceSub,Int.reduceAdd,aU,ah] at h;revert h
 all_goals try simp only[Int.reduceBEq,Int.reduceLE,Int.reduceLT,Int.reduceSub,Int.reduceAdd,aU,ah]
 all_goals(cases ho0:(op==0)<;>cases ht:(t==[])<;>cases hy:(o==[])<;>simp_all<;>intros<;>constructor<;>intros<;>first|omega|exact gJ ‹_›|exact iT ‹_›|(rw[aG (n:=op+1) (by omega) (by omega)] at *;omega)|(simp_all<;>omega))
def avm(op:Int)(t o:aC)(kids:au)(h:M.ay 32 op t o kids=some true):Cnt 32 op o kids.length:=by
 simp only[M.ay,M.aB,M.aN,M.aH,M.aS,M.aP,M.aO,M.aI,aT,aJ,dH,bf,Int.reduceBEq,Int.reduceLE,Int.reduceLT,Int.reduceSub,Int.reduceAdd,aU,ah] at h;revert h;cases hn0:M.gW t with
 |none=>cases op==0<;>simp
 |some b0=>_
 cases hn1:M.gW o with
 |none=>cases b0<;>cases op==0<;>simp
 |some b1=>_
 all_goals try simp only[Int.reduceBEq,Int.reduceLE,Int.reduceLT,Int.reduceSub,Int.reduceAdd,aU,ah]
 all_goals(cases ho0:(op==0)<;>cases ht:(t==[])<;>cases hy:(o==[])<;>cases b0<;>cases b1<;>simp_all<;>intros<;>constructor<;>intros<;>first|omega|exact gJ ‹_›|exact iT ‹_›|(rw[aG (n:=op+1) (by omega) (by omega)] at *;omega)|(simp_all<;>omega))
def avn(op:Int)(t o:aC)(kids:au)(h:M.ay 33 op t o kids=some true):Cnt 33 op o kids.length:=by
 simp only[M.ay,M.aB,M.aN,M.aH,M.aS,M.aP,M.aO,M.aI,aT,aJ,dH,bf,Int.reduceBEq,Int.reduceLE,Int.reduceLT,Int.reduceSub,Int.reduceAdd,aU,ah] at h;revert h
 all_goals try simp only[Int.reduceBEq,Int.reduceLE,Int.reduceLT,Int.reduceSub,Int.reduceAdd,aU,ah]
 all_goals(cases ho0:(op==0)<;>cases ht:(t==[])<;>cases hy:(o==[])<;>simp_all<;>intros<;>constructor<;>intros<;>first|omega|exact gJ ‹_›|exact iT ‹_›|(rw[aG (n:=op+1) (by omega) (by omega)] at *;omega)|(simp_all<;>omega))
def avo(op:Int)(t o:aC)(kids:au)(h:M.ay 34 op t o kids=some true):Cnt 34 op o kids.length:=by
 simp only[M.ay,M.aB,M.aN,M.aH,M.aS,M.aP,M.aO,M.aI,aT,aJ,dH,bf,Int.reduceBEq,Int.reduceLE,Int.reduceLT,Int.reduceSub,Int.reduceAdd,aU,ah] at h;revert h;cases hn0:M.kL 2 t 0 with
 |none=>cases op==0<;>simp
 |some b0=>_
 all_goals try simp only[Int.reduceBEq,Int.reduceLE,Int.reduceLT,Int.reduceSub,Int.reduceAdd,aU,ah]
 all_goals(cases ho0:(op==0)<;>cases ht:(t==[])<;>cases hy:(o==[])<;>cases b0<;>simp_all<;>intros<;>constructor<;>intros<;>first|omega|exact gJ ‹_›|exact iT ‹_›|(rw[aG (n:=op+1) (by omega) (by omega)] at *;omega)|(simp_all<;>omega))
def avp(op:Int)(t o:aC)(kids:au)(h:M.ay 40 op t o kids=some true):Cnt 40 op o kids.length:=by
 simp only[M.ay,M.aB,M.aN,M.aH,M.aS,M.aP,M.aO,M.aI,aT,aJ,dH,bf,Int.reduceBEq,Int.reduceLE,Int.reduceLT,Int.reduceSub,Int.reduceAdd,aU,ah] at h;revert h
 all_goals try simp only[Int.reduceBEq,Int.reduceLE,Int.reduceLT,Int.reduceSub,Int.reduceAdd,aU,ah]
 all_goals(cases ho0:(op==0)<;>cases ht:(t==[])<;>cases hy:(o==[])<;>simp_all<;>intros<;>constructor<;>intros<;>first|omega|exact gJ ‹_›|exact iT ‹_›|(rw[aG (n:=op+1) (by omega) (by omega)] at *;omega)|(simp_all<;>omega))
def avq(op:Int)(t o:aC)(kids:au)(h:M.ay 41 op t o kids=some true):Cnt 41 op o kids.length:=by
 simp only[M.ay,M.aB,M.aN,M.aH,M.aS,M.aP,M.aO,M.aI,aT,aJ,dH,bf,Int.reduceBEq,Int.reduceLE,Int.reduceLT,Int.reduceSub,Int.reduceAdd,aU,ah] at h;revert h
 all_goals try simp only[Int.reduceBEq,Int.reduceLE,Int.reduceLT,Int.reduceSub,Int.reduceAdd,aU,ah]
 all_goals(cases ho0:(op==0)<;>cases ht:(t==[])<;>cases hy:(o==[])<;>simp_all<;>intros<;>constructor<;>intros<;>first|omega|exact gJ ‹_›|exact iT ‹_›|(rw[aG (n:=op+1) (by omega) (by omega)] at *;omega)|(simp_all<;>omega))
def avr(op:Int)(t o:aC)(kids:au)(h:M.ay 42 op t o kids=some true):Cnt 42 op o kids.length:=by have hc:=aeU h;have hr:=hc.rule rfl;constructor<;>intros<;>omega
def avs(op:Int)(t o:aC)(kids:au)(h:M.ay 43 op t o kids=some true):Cnt 43 op o kids.length:=by have hc:=aeU h;have hr:=hc.range rfl;constructor<;>intros<;>omega
def avt(op:Int)(t o:aC)(kids:au)(h:M.ay 44 op t o kids=some true):Cnt 44 op o kids.length:=by
 simp only[M.ay,M.aB,M.aN,M.aH,M.aS,M.aP,M.aO,M.aI,aT,aJ,dH,bf,Int.reduceBEq,Int.reduceLE,Int.reduceLT,Int.reduceSub,Int.reduceAdd,aU,ah] at h;revert h;cases hn0:M.gW t with
 |none=>cases op==0<;>simp
 |some b0=>_
 all_goals try simp only[Int.reduceBEq,Int.reduceLE,Int.reduceLT,Int.reduceSub,Int.reduceAdd,aU,ah]
 all_goals(cases ho0:(op==0)<;>cases ht:(t==[])<;>cases hy:(o==[])<;>cases b0<;>simp_all<;>intros<;>constructor<;>intros<;>first|omega|exact gJ ‹_›|exact iT ‹_›|(rw[aG (n:=op+1) (by omega) (by omega)] at *;omega)|(simp_all<;>omega))
def avu(op:Int)(t o:aC)(kids:au)(h:M.ay 45 op t o kids=some true):Cnt 45 op o kids.length:=by
 simp only[M.ay,M.aB,M.aN,M.aH,M.aS,M.aP,M.aO,M.aI,aT,aJ,dH,bf,Int.reduceBEq,Int.reduceLE,Int.reduceLT,Int.reduceSub,Int.reduceAdd,aU,ah] at h;revert h
 all_goals try simp only[Int.reduceBEq,Int.reduceLE,Int.reduceLT,Int.reduceSub,Int.reduceAdd,aU,ah]
 all_goals(cases ho0:(op==0)<;>cases ht:(t==[])<;>cases hy:(o==[])<;>simp_all<;>intros<;>constructor<;>intros<;>first|omega|exact gJ ‹_›|exact iT ‹_›|(rw[aG (n:=op+1) (by omega) (by omega)] at *;omega)|(simp_all<;>omega))
def aIl(op:Int)(t o:aC)(kids:au)(j:Nat)(d:Int)(hj:j<kids.length)(hl:kids.length<=400)(hc:Cnt 1 op o kids.length)(h:M.aF 1 op t o kids (j:Int) d=some true):iC (cls 1 op kids.length j) d:=by
 have hw:i64.wrap ((kids.length:Int) - 1)=(kids.length:Int) - 1:=aG (by omega) (by omega);simp only[M.aF,M.aK,aZ,bg,bn,aQ,aT,aJ,Int.reduceBEq,Int.reduceLE,Int.reduceLT,Int.reduceSub,Int.reduceAdd,aU,ah] at h
 try rw[hw] at h
 have:=hc.non (by omega);omega
def aIm(op:Int)(t o:aC)(kids:au)(j:Nat)(d:Int)(hj:j<kids.length)(hl:kids.length<=400)(hc:Cnt 2 op o kids.length)(h:M.aF 2 op t o kids (j:Int) d=some true):iC (cls 2 op kids.length j) d:=by
 have hw:i64.wrap ((kids.length:Int) - 1)=(kids.length:Int) - 1:=aG (by omega) (by omega);simp only[M.aF,M.aK,aZ,bg,bn,aQ,aT,aJ,Int.reduceBEq,Int.reduceLE,Int.reduceLT,Int.reduceSub,Int.reduceAdd,aU,ah] at h
 try rw[hw] at h
 have:=hc.non (by omega);omega
def aIn(op:Int)(t o:aC)(kids:au)(j:Nat)(d:Int)(hj:j<kids.length)(hl:kids.length<=400)(hc:Cnt 3 op o kids.length)(h:M.aF 3 op t o kids (j:Int) d=some true):iC (cls 3 op kids.length j) d:=by
 have hw:i64.wrap ((kids.length:Int) - 1)=(kids.length:Int) - 1:=aG (by omega) (by omega);simp only[M.aF,M.aK,aZ,bg,bn,aQ,aT,aJ,Int.reduceBEq,Int.reduceLE,Int.reduceLT,Int.reduceSub,Int.reduceAdd,aU,ah] at h
 try rw[hw] at h
 have:=hc.non (by omega);omega
def aIo(op:Int)(t o:aC)(kids:au)(j:Nat)(d:Int)(hj:j<kids.length)(hl:kids.length<=400)(hc:Cnt 4 op o kids.length)(h:M.aF 4 op t o kids (j:Int) d=some true):iC (cls 4 op kids.length j) d:=by
 have hw:i64.wrap ((kids.length:Int) - 1)=(kids.length:Int) - 1:=aG (by omega) (by omega);simp only[M.aF,M.aK,aZ,bg,bn,aQ,aT,aJ,Int.reduceBEq,Int.reduceLE,Int.reduceLT,Int.reduceSub,Int.reduceAdd,aU,ah] at h
 try rw[hw] at h
 have:=hc.non (by omega);omega
def aIp(op:Int)(t o:aC)(kids:au)(j:Nat)(d:Int)(hj:j<kids.length)(hl:kids.length<=400)(hc:Cnt 5 op o kids.length)(h:M.aF 5 op t o kids (j:Int) d=some true):iC (cls 5 op kids.length j) d:=by
 have hw:i64.wrap ((kids.length:Int) - 1)=(kids.length:Int) - 1:=aG (by omega) (by omega);simp only[M.aF,M.aK,aZ,bg,bn,aQ,aT,aJ,Int.reduceBEq,Int.reduceLE,Int.reduceLT,Int.reduceSub,Int.reduceAdd,aU,ah] at h
 try rw[hw] at h
 simp[cls,iC,kT,zA,Ew,isIt,Bool.cond_eq_ite] at h⊢
 all_goals first|omega|((repeat' split at h)<;>simp_all<;>omega)
def aIq(op:Int)(t o:aC)(kids:au)(j:Nat)(d:Int)(hj:j<kids.length)(hl:kids.length<=400)(hc:Cnt 6 op o kids.length)(h:M.aF 6 op t o kids (j:Int) d=some true):iC (cls 6 op kids.length j) d:=by
 have hw:i64.wrap ((kids.length:Int) - 1)=(kids.length:Int) - 1:=aG (by omega) (by omega);simp only[M.aF,M.aK,aZ,bg,bn,aQ,aT,aJ,Int.reduceBEq,Int.reduceLE,Int.reduceLT,Int.reduceSub,Int.reduceAdd,aU,ah] at h
 try rw[hw] at h
 simp[cls,iC,kT,zA,Ew,isIt,Bool.cond_eq_ite] at h⊢
 all_goals first|omega|((repeat' split at h)<;>simp_all<;>omega)
def aIr(op:Int)(t o:aC)(kids:au)(j:Nat)(d:Int)(hj:j<kids.length)(hl:kids.length<=400)(hc:Cnt 7 op o kids.length)(h:M.aF 7 op t o kids (j:Int) d=some true):iC (cls 7 op kids.length j) d:=by
 have hw:i64.wrap ((kids.length:Int) - 1)=(kids.length:Int) - 1:=aG (by omega) (by omega);simp only[M.aF,M.aK,aZ,bg,bn,aQ,aT,aJ,Int.reduceBEq,Int.reduceLE,Int.reduceLT,Int.reduceSub,Int.reduceAdd,aU,ah] at h
 try rw[hw] at h
 simp[cls,iC,kT,zA,Ew,isIt,Bool.cond_eq_ite] at h⊢
 all_goals first|omega|((repeat' split at h)<;>simp_all<;>omega)
def aIs(op:Int)(t o:aC)(kids:au)(j:Nat)(d:Int)(hj:j<kids.length)(hl:kids.length<=400)(hc:Cnt 8 op o kids.length)(h:M.aF 8 op t o kids (j:Int) d=some true):iC (cls 8 op kids.length j) d:=by
 have hw:i64.wrap ((kids.length:Int) - 1)=(kids.length:Int) - 1:=aG (by omega) (by omega);simp only[M.aF,M.aK,aZ,bg,bn,aQ,aT,aJ,Int.reduceBEq,Int.reduceLE,Int.reduceLT,Int.reduceSub,Int.reduceAdd,aU,ah] at h
 try rw[hw] at h
 simp[cls,iC,kT,zA,Ew,isIt,Bool.cond_eq_ite] at h⊢
 all_goals first|omega|((repeat' split at h)<;>simp_all<;>omega)
def aIt(op:Int)(t o:aC)(kids:au)(j:Nat)(d:Int)(hj:j<kids.length)(hl:kids.length<=400)(hc:Cnt 9 op o kids.length)(h:M.aF 9 op t o kids (j:Int) d=some true):iC (cls 9 op kids.length j) d:=by
 have hw:i64.wrap ((kids.length:Int) - 1)=(kids.length:Int) - 1:=aG (by omega) (by omega);simp only[M.aF,M.aK,aZ,bg,bn,aQ,aT,aJ,Int.reduceBEq,Int.reduceLE,Int.reduceLT,Int.reduceSub,Int.reduceAdd,aU,ah] at h
 try rw[hw] at h
 have hn:=hc.one (by omega);obtain rfl:j=0:=by omega
 all_goals(simp[cls,iC,kT,zA,Ew,isIt,Bool.cond_eq_ite] at h⊢<;>first|omega|(repeat' split at h)<;>simp_all<;>omega)
def avv(op:Int)(t o:aC)(kids:au)(j:Nat)(d:Int)(hj:j<kids.length)(hl:kids.length<=400)(hc:Cnt 10 op o kids.length)(h:M.aF 10 op t o kids (j:Int) d=some true):iC (cls 10 op kids.length j) d:=by
 have hw:i64.wrap ((kids.length:Int) - 1)=(kids.length:Int) - 1:=aG (by omega) (by omega);simp only[M.aF,M.aK,aZ,bg,bn,aQ,aT,aJ,Int.reduceBEq,Int.reduceLE,Int.reduceLT,Int.reduceSub,Int.reduceAdd,aU,ah] at h
 try rw[hw] at h
 have hn:=hc.one (by omega);obtain rfl:j=0:=by omega
 all_goals(simp[cls,iC,kT,zA,Ew,isIt,Bool.cond_eq_ite] at h⊢<;>first|omega|(repeat' split at h)<;>simp_all<;>omega)
def avw(op:Int)(t o:aC)(kids:au)(j:Nat)(d:Int)(hj:j<kids.length)(hl:kids.length<=400)(hc:Cnt 11 op o kids.length)(h:M.aF 11 op t o kids (j:Int) d=some true):iC (cls 11 op kids.length j) d:=by
 have hw:i64.wrap ((kids.length:Int) - 1)=(kids.length:Int) - 1:=aG (by omega) (by omega);simp only[M.aF,M.aK,aZ,bg,bn,aQ,aT,aJ,Int.reduceBEq,Int.reduceLE,Int.reduceLT,Int.reduceSub,Int.reduceAdd,aU,ah] at h
 try rw[hw] at h
 simp[cls,iC,kT,zA,Ew,isIt,Bool.cond_eq_ite] at h⊢
 all_goals first|omega|((repeat' split at h)<;>simp_all<;>omega)
def avx(op:Int)(t o:aC)(kids:au)(j:Nat)(d:Int)(hj:j<kids.length)(hl:kids.length<=400)(hc:Cnt 12 op o kids.length)(h:M.aF 12 op t o kids (j:Int) d=some true):iC (cls 12 op kids.length j) d:=by
 have hw:i64.wrap ((kids.length:Int) - 1)=(kids.length:Int) - 1:=aG (by omega) (by omega);simp only[M.aF,M.aK,aZ,bg,bn,aQ,aT,aJ,Int.reduceBEq,Int.reduceLE,Int.reduceLT,Int.reduceSub,Int.reduceAdd,aU,ah] at h
 try rw[hw] at h
 simp[cls,iC,kT,zA,Ew,isIt,Bool.cond_eq_ite] at h⊢
 all_goals first|omega|((repeat' split at h)<;>simp_all<;>omega)
def avy(op:Int)(t o:aC)(kids:au)(j:Nat)(d:Int)(hj:j<kids.length)(hl:kids.length<=400)(hc:Cnt 13 op o kids.length)(h:M.aF 13 op t o kids (j:Int) d=some true):iC (cls 13 op kids.length j) d:=by
 have hw:i64.wrap ((kids.length:Int) - 1)=(kids.length:Int) - 1:=aG (by omega) (by omega);simp only[M.aF,M.aK,aZ,bg,bn,aQ,aT,aJ,Int.reduceBEq,Int.reduceLE,Int.reduceLT,Int.reduceSub,Int.reduceAdd,aU,ah] at h
 try rw[hw] at h
 simp[cls,iC,kT,zA,Ew,isIt,Bool.cond_eq_ite] at h⊢
 all_goals first|omega|((repeat' split at h)<;>simp_all<;>omega)
def avz(op:Int)(t o:aC)(kids:au)(j:Nat)(d:Int)(hj:j<kids.length)(hl:kids.length<=400)(hc:Cnt 14 op o kids.length)(h:M.aF 14 op t o kids (j:Int) d=some true):iC (cls 14 op kids.length j) d:=by
 have hw:i64.wrap ((kids.length:Int) - 1)=(kids.length:Int) - 1:=aG (by omega) (by omega);simp only[M.aF,M.aK,aZ,bg,bn,aQ,aT,aJ,Int.reduceBEq,Int.reduceLE,Int.reduceLT,Int.reduceSub,Int.reduceAdd,aU,ah] at h
 try rw[hw] at h
 simp[cls,iC,kT,zA,Ew,isIt,Bool.cond_eq_ite] at h⊢
 all_goals first|omega|((repeat' split at h)<;>simp_all<;>omega)
def avA(op:Int)(t o:aC)(kids:au)(j:Nat)(d:Int)(hj:j<kids.length)(hl:kids.length<=400)(hc:Cnt 15 op o kids.length)(h:M.aF 15 op t o kids (j:Int) d=some true):iC (cls 15 op kids.length j) d:=by
 have hw:i64.wrap ((kids.length:Int) - 1)=(kids.length:Int) - 1:=aG (by omega) (by omega);simp only[M.aF,M.aK,aZ,bg,bn,aQ,aT,aJ,Int.reduceBEq,Int.reduceLE,Int.reduceLT,Int.reduceSub,Int.reduceAdd,aU,ah] at h
 try rw[hw] at h
 have hn:=hc.two (by omega);obtain rfl|rfl:j=0∨j=1:=by omega
 all_goals(simp[cls,iC,kT,zA,Ew,isIt,Bool.cond_eq_ite] at h⊢<;>first|omega|(repeat' split at h)<;>simp_all<;>omega)
def avC(op:Int)(t o:aC)(kids:au)(j:Nat)(d:Int)(hj:j<kids.length)(hl:kids.length<=400)(hc:Cnt 16 op o kids.length)(h:M.aF 16 op t o kids (j:Int) d=some true):iC (cls 16 op kids.length j) d:=by
 have hw:i64.wrap ((kids.length:Int) - 1)=(kids.length:Int) - 1:=aG (by omega) (by omega);simp only[M.aF,M.aK,aZ,bg,bn,aQ,aT,aJ,Int.reduceBEq,Int.reduceLE,Int.reduceLT,Int.reduceSub,Int.reduceAdd,aU,ah] at h
 try rw[hw] at h
 have:=hc.non (by omega);omega
def avD(op:Int)(t o:aC)(kids:au)(j:Nat)(d:Int)(hj:j<kids.length)(hl:kids.length<=400)(hc:Cnt 20 op o kids.length)(h:M.aF 20 op t o kids (j:Int) d=some true):iC (cls 20 op kids.length j) d:=by
 have hw:i64.wrap ((kids.length:Int) - 1)=(kids.length:Int) - 1:=aG (by omega) (by omega);simp only[M.aF,M.aK,aZ,bg,bn,aQ,aT,aJ,Int.reduceBEq,Int.reduceLE,Int.reduceLT,Int.reduceSub,Int.reduceAdd,aU,ah] at h
 try rw[hw] at h
 simp[cls,iC,kT,zA,Ew,isIt,Bool.cond_eq_ite] at h⊢
 all_goals first|omega|((repeat' split at h)<;>simp_all<;>omega)
def avE(op:Int)(t o:aC)(kids:au)(j:Nat)(d:Int)(hj:j<kids.length)(hl:kids.length<=400)(hc:Cnt 21 op o kids.length)(h:M.aF 21 op t o kids (j:Int) d=some true):iC (cls 21 op kids.length j) d:=by
 have hw:i64.wrap ((kids.length:Int) - 1)=(kids.length:Int) - 1:=aG (by omega) (by omega);simp only[M.aF,M.aK,aZ,bg,bn,aQ,aT,aJ,Int.reduceBEq,Int.reduceLE,Int.reduceLT,Int.reduceSub,Int.reduceAdd,aU,ah] at h
 try rw[hw] at h
 simp[cls,iC,kT,zA,Ew,isIt,Bool.cond_eq_ite] at h⊢
 all_goals first|omega|((repeat' split at h)<;>simp_all<;>omega)
def avF(op:Int)(t o:aC)(kids:au)(j:Nat)(d:Int)(hj:j<kids.length)(hl:kids.length<=400)(hc:Cnt 22 op o kids.length)(h:M.aF 22 op t o kids (j:Int) d=some true):iC (cls 22 op kids.length j) d:=by
 have hw:i64.wrap ((kids.length:Int) - 1)=(kids.length:Int) - 1:=aG (by omega) (by omega);simp only[M.aF,M.aK,aZ,bg,bn,aQ,aT,aJ,Int.reduceBEq,Int.reduceLE,Int.reduceLT,Int.reduceSub,Int.reduceAdd,aU,ah] at h
 try rw[hw] at h
 have:=hc.non (by omega);omega
def avG(op:Int)(t o:aC)(kids:au)(j:Nat)(d:Int)(hj:j<kids.length)(hl:kids.length<=400)(hc:Cnt 23 op o kids.length)(h:M.aF 23 op t o kids (j:Int) d=some true):iC (cls 23 op kids.length j) d:=by
 have hw:i64.wrap ((kids.length:Int) - 1)=(kids.length:Int) - 1:=aG (by omega) (by omega);simp only[M.aF,M.aK,aZ,bg,bn,aQ,aT,aJ,Int.reduceBEq,Int.reduceLE,Int.reduceLT,Int.reduceSub,Int.reduceAdd,aU,ah] at h
 try rw[hw] at h
 simp[cls,iC,kT,zA,Ew,isIt,Bool.cond_eq_ite] at h⊢
 all_goals first|omega|((repeat' split at h)<;>simp_all<;>omega)
def avH(op:Int)(t o:aC)(kids:au)(j:Nat)(d:Int)(hj:j<kids.length)(hl:kids.length<=400)(hc:Cnt 24 op o kids.length)(h:M.aF 24 op t o kids (j:Int) d=some true):iC (cls 24 op kids.length j) d:=by
 have hw:i64.wrap ((kids.length:Int) - 1)=(kids.length:Int) - 1:=aG (by omega) (by omega);simp only[M.aF,M.aK,aZ,bg,bn,aQ,aT,aJ,Int.reduceBEq,Int.reduceLE,Int.reduceLT,Int.reduceSub,Int.reduceAdd,aU,ah] at h
 try rw[hw] at h
 simp[cls,iC,kT,zA,Ew,isIt,Bool.cond_eq_ite] at h⊢
 all_goals first|omega|((repeat' split at h)<;>simp_all<;>omega)
def avI(op:Int)(t o:aC)(kids:au)(j:Nat)(d:Int)(hj:j<kids.length)(hl:kids.length<=400)(hc:Cnt 25 op o kids.length)(h:M.aF 25 op t o kids (j:Int) d=some true):iC (cls 25 op kids.length j) d:=by
 have hw:i64.wrap ((kids.length:Int) - 1)=(kids.length:Int) - 1:=aG (by omega) (by omega);simp only[M.aF,M.aK,aZ,bg,bn,aQ,aT,aJ,Int.reduceBEq,Int.reduceLE,Int.reduceLT,Int.reduceSub,Int.reduceAdd,aU,ah] at h
 try rw[hw] at h
 have:=hc.non (by omega);omega
def avJ(op:Int)(t o:aC)(kids:au)(j:Nat)(d:Int)(hj:j<kids.length)(hl:kids.length<=400)(hc:Cnt 26 op o kids.length)(h:M.aF 26 op t o kids (j:Int) d=some true):iC (cls 26 op kids.length j) d:=by
 have hw:i64.wrap ((kids.length:Int) - 1)=(kids.length:Int) - 1:=aG (by omega) (by omega);simp only[M.aF,M.aK,aZ,bg,bn,aQ,aT,aJ,Int.reduceBEq,Int.reduceLE,Int.reduceLT,Int.reduceSub,Int.reduceAdd,aU,ah] at h
 try rw[hw] at h
 have:=hc.non (by omega);omega
def avK(op:Int)(t o:aC)(kids:au)(j:Nat)(d:Int)(hj:j<kids.length)(hl:kids.length<=400)(hc:Cnt 27 op o kids.length)(h:M.aF 27 op t o kids (j:Int) d=some true):iC (cls 27 op kids.length j) d:=by
 have hw:i64.wrap ((kids.length:Int) - 1)=(kids.length:Int) - 1:=aG (by omega) (by omega);simp only[M.aF,M.aK,aZ,bg,bn,aQ,aT,aJ,Int.reduceBEq,Int.reduceLE,Int.reduceLT,Int.reduceSub,Int.reduceAdd,aU,ah] at h
 try rw[hw] at h
 simp[cls,iC,kT,zA,Ew,isIt,Bool.cond_eq_ite] at h⊢
 all_goals first|omega|((repeat' split at h)<;>simp_all<;>omega)
def avL(op:Int)(t o:aC)(kids:au)(j:Nat)(d:Int)(hj:j<kids.length)(hl:kids.length<=400)(hc:Cnt 28 op o kids.length)(h:M.aF 28 op t o kids (j:Int) d=some true):iC (cls 28 op kids.length j) d:=by
 have hw:i64.wrap ((kids.length:Int) - 1)=(kids.length:Int) - 1:=aG (by omega) (by omega);simp only[M.aF,M.aK,aZ,bg,bn,aQ,aT,aJ,Int.reduceBEq,Int.reduceLE,Int.reduceLT,Int.reduceSub,Int.reduceAdd,aU,ah] at h
 try rw[hw] at h
 have hn:=hc.cnd (by omega);obtain rfl|rfl|rfl:j=0∨j=1∨j=2:=by omega
 all_goals(simp[cls,iC,kT,zA,Ew,isIt,Bool.cond_eq_ite] at h⊢<;>first|omega|(repeat' split at h)<;>simp_all<;>omega)
def avM(op:Int)(t o:aC)(kids:au)(j:Nat)(d:Int)(hj:j<kids.length)(hl:kids.length<=400)(hc:Cnt 29 op o kids.length)(h:M.aF 29 op t o kids (j:Int) d=some true):iC (cls 29 op kids.length j) d:=by
 have hw:i64.wrap ((kids.length:Int) - 1)=(kids.length:Int) - 1:=aG (by omega) (by omega);simp only[M.aF,M.aK,aZ,bg,bn,aQ,aT,aJ,Int.reduceBEq,Int.reduceLE,Int.reduceLT,Int.reduceSub,Int.reduceAdd,aU,ah] at h
 try rw[hw] at h
 have hn:=hc.two (by omega);obtain rfl|rfl:j=0∨j=1:=by omega
 all_goals(simp[cls,iC,kT,zA,Ew,isIt,Bool.cond_eq_ite] at h⊢<;>first|omega|(repeat' split at h)<;>simp_all<;>omega)
def avN(op:Int)(t o:aC)(kids:au)(j:Nat)(d:Int)(hj:j<kids.length)(hl:kids.length<=400)(hc:Cnt 30 op o kids.length)(h:M.aF 30 op t o kids (j:Int) d=some true):iC (cls 30 op kids.length j) d:=by
 have hw:i64.wrap ((kids.length:Int) - 1)=(kids.length:Int) - 1:=aG (by omega) (by omega);simp only[M.aF,M.aK,aZ,bg,bn,aQ,aT,aJ,Int.reduceBEq,Int.reduceLE,Int.reduceLT,Int.reduceSub,Int.reduceAdd,aU,ah] at h
 try rw[hw] at h
 have hn:=hc.two (by omega);obtain rfl|rfl:j=0∨j=1:=by omega
 all_goals(simp[cls,iC,kT,zA,Ew,isIt,Bool.cond_eq_ite] at h⊢<;>first|omega|(repeat' split at h)<;>simp_all<;>omega)
def avO(op:Int)(t o:aC)(kids:au)(j:Nat)(d:Int)(hj:j<kids.length)(hl:kids.length<=400)(hc:Cnt 31 op o kids.length)(h:M.aF 31 op t o kids (j:Int) d=some true):iC (cls 31 op kids.length j) d:=by
 have hw:i64.wrap ((kids.length:Int) - 1)=(kids.length:Int) - 1:=aG (by omega) (by omega);simp only[M.aF,M.aK,aZ,bg,bn,aQ,aT,aJ,Int.reduceBEq,Int.reduceLE,Int.reduceLT,Int.reduceSub,Int.reduceAdd,aU,ah] at h
 try rw[hw] at h
 have hn:=hc.four (by omega);obtain rfl|rfl|rfl|rfl:j=0∨j=1∨j=2∨j=3:=by omega
 all_goals(simp[cls,iC,kT,zA,Ew,isIt,Bool.cond_eq_ite] at h⊢<;>first|omega|(repeat' split at h)<;>simp_all<;>omega)
def avP(op:Int)(t o:aC)(kids:au)(j:Nat)(d:Int)(hj:j<kids.length)(hl:kids.length<=400)(hc:Cnt 32 op o kids.length)(h:M.aF 32 op t o kids (j:Int) d=some true):iC (cls 32 op kids.length j) d:=by
 have hw:i64.wrap ((kids.length:Int) - 1)=(kids.length:Int) - 1:=aG (by omega) (by omega);simp only[M.aF,M.aK,aZ,bg,bn,aQ,aT,aJ,Int.reduceBEq,Int.reduceLE,Int.reduceLT,Int.reduceSub,Int.reduceAdd,aU,ah] at h
 try rw[hw] at h
 simp[cls,iC,kT,zA,Ew,isIt,Bool.cond_eq_ite] at h⊢
 all_goals first|omega|((repeat' split at h)<;>simp_all<;>omega)
def avQ(op:Int)(t o:aC)(kids:au)(j:Nat)(d:Int)(hj:j<kids.length)(hl:kids.length<=400)(hc:Cnt 33 op o kids.length)(h:M.aF 33 op t o kids (j:Int) d=some true):iC (cls 33 op kids.length j) d:=by
 have hw:i64.wrap ((kids.length:Int) - 1)=(kids.length:Int) - 1:=aG (by omega) (by omega);simp only[M.aF,M.aK,aZ,bg,bn,aQ,aT,aJ,Int.reduceBEq,Int.reduceLE,Int.reduceLT,Int.reduceSub,Int.reduceAdd,aU,ah] at h
 try rw[hw] at h
 simp[cls,iC,kT,zA,Ew,isIt,Bool.cond_eq_ite] at h⊢
 all_goals first|omega|((repeat' split at h)<;>simp_all<;>omega)
def avR(op:Int)(t o:aC)(kids:au)(j:Nat)(d:Int)(hj:j<kids.length)(hl:kids.length<=400)(hc:Cnt 34 op o kids.length)(h:M.aF 34 op t o kids (j:Int) d=some true):iC (cls 34 op kids.length j) d:=by
 have hw:i64.wrap ((kids.length:Int) - 1)=(kids.length:Int) - 1:=aG (by omega) (by omega);simp only[M.aF,M.aK,aZ,bg,bn,aQ,aT,aJ,Int.reduceBEq,Int.reduceLE,Int.reduceLT,Int.reduceSub,Int.reduceAdd,aU,ah] at h
 try rw[hw] at h
 have:=hc.non (by omega);omega
def avS(op:Int)(t o:aC)(kids:au)(j:Nat)(d:Int)(hj:j<kids.length)(hl:kids.length<=400)(hc:Cnt 40 op o kids.length)(h:M.aF 40 op t o kids (j:Int) d=some true):iC (cls 40 op kids.length j) d:=by
 have hw:i64.wrap ((kids.length:Int) - 1)=(kids.length:Int) - 1:=aG (by omega) (by omega);simp only[M.aF,M.aK,aZ,bg,bn,aQ,aT,aJ,Int.reduceBEq,Int.reduceLE,Int.reduceLT,Int.reduceSub,Int.reduceAdd,aU,ah] at h
 try rw[hw] at h
 simp[cls,iC,kT,zA,Ew,isIt,Bool.cond_eq_ite] at h⊢
 all_goals first|omega|((repeat' split at h)<;>simp_all<;>omega)
def avT(op:Int)(t o:aC)(kids:au)(j:Nat)(d:Int)(hj:j<kids.length)(hl:kids.length<=400)(hc:Cnt 41 op o kids.length)(h:M.aF 41 op t o kids (j:Int) d=some true):iC (cls 41 op kids.length j) d:=by
 have hw:i64.wrap ((kids.length:Int) - 1)=(kids.length:Int) - 1:=aG (by omega) (by omega);simp only[M.aF,M.aK,aZ,bg,bn,aQ,aT,aJ,Int.reduceBEq,Int.reduceLE,Int.reduceLT,Int.reduceSub,Int.reduceAdd,aU,ah] at h
 try rw[hw] at h
 simp[cls,iC,kT,zA,Ew,isIt,Bool.cond_eq_ite] at h⊢
 all_goals first|omega|((repeat' split at h)<;>simp_all<;>omega)
def avU(op:Int)(t o:aC)(kids:au)(j:Nat)(d:Int)(hj:j<kids.length)(hl:kids.length<=400)(hc:Cnt 42 op o kids.length)(h:M.aF 42 op t o kids (j:Int) d=some true):iC (cls 42 op kids.length j) d:=by
 have hw:i64.wrap ((kids.length:Int) - 1)=(kids.length:Int) - 1:=aG (by omega) (by omega);simp only[M.aF,M.aK,aZ,bg,bn,aQ,aT,aJ,Int.reduceBEq,Int.reduceLE,Int.reduceLT,Int.reduceSub,Int.reduceAdd,aU,ah] at h
 try rw[hw] at h
 rcases hc.rule rfl with⟨rfl,h1⟩|⟨rfl,h1⟩|⟨rfl,h1⟩
 ·obtain rfl:j=0:=by omega
  all_goals(simp[cls,iC,kT,zA,Ew,isIt,Bool.cond_eq_ite,h1] at h⊢<;>first|omega|(repeat' split at h)<;>simp_all<;>omega)
 ·obtain rfl:j=0:=by omega
  all_goals(simp[cls,iC,kT,zA,Ew,isIt,Bool.cond_eq_ite,h1] at h⊢<;>first|omega|(repeat' split at h)<;>simp_all<;>omega)
 ·obtain rfl|rfl:j=0∨j=1:=by omega
  all_goals(simp[cls,iC,kT,zA,Ew,isIt,Bool.cond_eq_ite,h1] at h⊢<;>first|omega|(repeat' split at h)<;>simp_all<;>omega)
def avV(op:Int)(t o:aC)(kids:au)(j:Nat)(d:Int)(hj:j<kids.length)(hl:kids.length<=400)(hc:Cnt 43 op o kids.length)(h:M.aF 43 op t o kids (j:Int) d=some true):iC (cls 43 op kids.length j) d:=by
 have hw:i64.wrap ((kids.length:Int) - 1)=(kids.length:Int) - 1:=aG (by omega) (by omega);simp only[M.aF,M.aK,aZ,bg,bn,aQ,aT,aJ,Int.reduceBEq,Int.reduceLE,Int.reduceLT,Int.reduceSub,Int.reduceAdd,aU,ah] at h
 try rw[hw] at h
 rcases hc.range rfl with⟨rfl,h1⟩|⟨rfl,h1⟩
 ·obtain rfl|rfl:j=0∨j=1:=by omega
  all_goals(simp[cls,iC,kT,zA,Ew,isIt,Bool.cond_eq_ite,h1] at h⊢<;>first|omega|(repeat' split at h)<;>simp_all<;>omega)
 ·obtain rfl|rfl|rfl:j=0∨j=1∨j=2:=by omega
  all_goals(simp[cls,iC,kT,zA,Ew,isIt,Bool.cond_eq_ite,h1] at h⊢<;>first|omega|(repeat' split at h)<;>simp_all<;>omega)
def avW(op:Int)(t o:aC)(kids:au)(j:Nat)(d:Int)(hj:j<kids.length)(hl:kids.length<=400)(hc:Cnt 44 op o kids.length)(h:M.aF 44 op t o kids (j:Int) d=some true):iC (cls 44 op kids.length j) d:=by
 have hw:i64.wrap ((kids.length:Int) - 1)=(kids.length:Int) - 1:=aG (by omega) (by omega);simp only[M.aF,M.aK,aZ,bg,bn,aQ,aT,aJ,Int.reduceBEq,Int.reduceLE,Int.reduceLT,Int.reduceSub,Int.reduceAdd,aU,ah] at h
 try rw[hw] at h
 by_cases h1:j+1=kids.length
 ·have e:((j:Int)==(kids.length:Int) - 1)=true:=by rw[beq_iff_eq];omega
  rw[e] at h;simp[cls,iC,h1,Bool.cond_eq_ite] at h⊢
  first|omega|skip
 ·have e:((j:Int)==(kids.length:Int) - 1)=false:=by rw[Nw];omega
  rw[e] at h;simp[cls,iC,h1,Bool.cond_eq_ite] at h⊢
  first|omega|skip
def avX(op:Int)(t o:aC)(kids:au)(j:Nat)(d:Int)(hj:j<kids.length)(hl:kids.length<=400)(hc:Cnt 45 op o kids.length)(h:M.aF 45 op t o kids (j:Int) d=some true):iC (cls 45 op kids.length j) d:=by
 have hw:i64.wrap ((kids.length:Int) - 1)=(kids.length:Int) - 1:=aG (by omega) (by omega);simp only[M.aF,M.aK,aZ,bg,bn,aQ,aT,aJ,Int.reduceBEq,Int.reduceLE,Int.reduceLT,Int.reduceSub,Int.reduceAdd,aU,ah] at h
 try rw[hw] at h
 simp[cls,iC,kT,zA,Ew,isIt,Bool.cond_eq_ite] at h⊢
 all_goals first|omega|((repeat' split at h)<;>simp_all<;>omega)
def aif{k op:Int}{t o:aC}{kids:au}(h:M.ay k op t o kids=some true):XB k:=by
 by_cases hk:XB k
 ·exact hk
 ·exfalso;have e1:(decide (k>=1) && decide (k<=16))=false:=by
   cases hq:(decide (k>=1) && decide (k<=16)) with
   |false=>rfl
   |true=>rw[AL,decide_eq_true_eq,decide_eq_true_eq] at hq;exact absurd (Or.inl hq) hk
  have e2:(decide (k>=20) && decide (k<=34))=false:=by
   cases hq:(decide (k>=20) && decide (k<=34)) with
   |false=>rfl
   |true=>rw[AL,decide_eq_true_eq,decide_eq_true_eq] at hq;exact absurd (Or.inr (Or.inl hq)) hk
  have e3:(decide (k>=40) && decide (k<=45))=false:=by
   cases hq:(decide (k>=40) && decide (k<=45)) with
   |false=>rfl
   |true=>rw[AL,decide_eq_true_eq,decide_eq_true_eq] at hq;exact absurd (Or.inr (Or.inr hq)) hk
  simp only[M.ay,M.aB,aT,e1,e2,e3,ah,dP] at h;cases hm:M.aN k op t o kids with
  |none=>rw[hm] at h;cases h
  |some r=>rw[hm,ah] at h;cases h
def avY{k op:Int}{t o:aC}{kids:au}(h:M.ay k op t o kids=some true):Cnt k op o kids.length:=by
 have hk:k=1∨k=2∨k=3∨k=4∨k=5∨k=6∨k=7∨k=8∨k=9∨k=10∨k=11∨k=12∨k=13∨k=14∨k=15∨k=16∨k=20∨k=21∨k=22∨k=23∨k=24∨k=25∨k=26∨k=27∨k=28∨k=29∨k=30∨k=31∨k=32∨k=33∨k=34∨k=40∨k=41∨k=42∨k=43∨k=44∨k=45:=by have:=aif h;unfold XB at this;omega
 rcases hk with rfl|rfl|rfl|rfl|rfl|rfl|rfl|rfl|rfl|rfl|rfl|rfl|rfl|rfl|rfl|rfl|rfl|rfl|rfl|rfl|rfl|rfl|rfl|rfl|rfl|rfl|rfl|rfl|rfl|rfl|rfl|rfl|rfl|rfl|rfl|rfl|rfl
 ·exact aIc _ _ _ _ h
 ·exact aId _ _ _ _ h
 ·exact aIe _ _ _ _ h
 ·exact aIf _ _ _ _ h
 ·exact aIg _ _ _ _ h
 ·exact aIh _ _ _ _ h
 ·exact aIi _ _ _ _ h
 ·exact aIj _ _ _ _ h
 ·exact aIk _ _ _ _ h
 ·exact au3 _ _ _ _ h
 ·exact au4 _ _ _ _ h
 ·exact au5 _ _ _ _ h
 ·exact au6 _ _ _ _ h
 ·exact au7 _ _ _ _ h
 ·exact au8 _ _ _ _ h
 ·exact au9 _ _ _ _ h
 ·exact ava _ _ _ _ h
 ·exact avb _ _ _ _ h
 ·exact avc _ _ _ _ h
 ·exact avd _ _ _ _ h
 ·exact ave _ _ _ _ h
 ·exact avf _ _ _ _ h
 ·exact avg _ _ _ _ h
 ·exact avh _ _ _ _ h
 ·exact avi _ _ _ _ h
 ·exact avj _ _ _ _ h
 ·exact avk _ _ _ _ h
 ·exact avl _ _ _ _ h
 ·exact avm _ _ _ _ h
 ·exact avn _ _ _ _ h
 ·exact avo _ _ _ _ h
 ·exact avp _ _ _ _ h
 ·exact avq _ _ _ _ h
 ·exact avr _ _ _ _ h
 ·exact avs _ _ _ _ h
 ·exact avt _ _ _ _ h
 ·exact avu _ _ _ _ h
def avZ{k op:Int}{t o:aC}{kids:au}{j:Nat}{d:Int}(hk:XB k)(hj:j<kids.length)(hl:kids.length<=400)(hc:Cnt k op o kids.length)(h:M.aF k op t o kids (j:Int) d=some true):iC (cls k op kids.length j) d:=by
 have hk:k=1∨k=2∨k=3∨k=4∨k=5∨k=6∨k=7∨k=8∨k=9∨k=10∨k=11∨k=12∨k=13∨k=14∨k=15∨k=16∨k=20∨k=21∨k=22∨k=23∨k=24∨k=25∨k=26∨k=27∨k=28∨k=29∨k=30∨k=31∨k=32∨k=33∨k=34∨k=40∨k=41∨k=42∨k=43∨k=44∨k=45:=by unfold XB at hk;omega
 rcases hk with rfl|rfl|rfl|rfl|rfl|rfl|rfl|rfl|rfl|rfl|rfl|rfl|rfl|rfl|rfl|rfl|rfl|rfl|rfl|rfl|rfl|rfl|rfl|rfl|rfl|rfl|rfl|rfl|rfl|rfl|rfl|rfl|rfl|rfl|rfl|rfl|rfl
 ·exact aIl _ _ _ _ _ _ hj hl hc h
 ·exact aIm _ _ _ _ _ _ hj hl hc h
 ·exact aIn _ _ _ _ _ _ hj hl hc h
 ·exact aIo _ _ _ _ _ _ hj hl hc h
 ·exact aIp _ _ _ _ _ _ hj hl hc h
 ·exact aIq _ _ _ _ _ _ hj hl hc h
 ·exact aIr _ _ _ _ _ _ hj hl hc h
 ·exact aIs _ _ _ _ _ _ hj hl hc h
 ·exact aIt _ _ _ _ _ _ hj hl hc h
 ·exact avv _ _ _ _ _ _ hj hl hc h
 ·exact avw _ _ _ _ _ _ hj hl hc h
 ·exact avx _ _ _ _ _ _ hj hl hc h
 ·exact avy _ _ _ _ _ _ hj hl hc h
 ·exact avz _ _ _ _ _ _ hj hl hc h
 ·exact avA _ _ _ _ _ _ hj hl hc h
 ·exact avC _ _ _ _ _ _ hj hl hc h
 ·exact avD _ _ _ _ _ _ hj hl hc h
 ·exact avE _ _ _ _ _ _ hj hl hc h
 ·exact avF _ _ _ _ _ _ hj hl hc h
 ·exact avG _ _ _ _ _ _ hj hl hc h
 ·exact avH _ _ _ _ _ _ hj hl hc h
 ·exact avI _ _ _ _ _ _ hj hl hc h
 ·exact avJ _ _ _ _ _ _ hj hl hc h
 ·exact avK _ _ _ _ _ _ hj hl hc h
 ·exact avL _ _ _ _ _ _ hj hl hc h
 ·exact avM _ _ _ _ _ _ hj hl hc h
 ·exact avN _ _ _ _ _ _ hj hl hc h
 ·exact avO _ _ _ _ _ _ hj hl hc h
 ·exact avP _ _ _ _ _ _ hj hl hc h
 ·exact avQ _ _ _ _ _ _ hj hl hc h
 ·exact avR _ _ _ _ _ _ hj hl hc h
 ·exact avS _ _ _ _ _ _ hj hl hc h
 ·exact avT _ _ _ _ _ _ hj hl hc h
 ·exact avU _ _ _ _ _ _ hj hl hc h
 ·exact avV _ _ _ _ _ _ hj hl hc h
 ·exact avW _ _ _ _ _ _ hj hl hc h
 ·exact avX _ _ _ _ _ _ hj hl hc h
def abI{α:Type}{p:Nat->α->Bool}:∀{l:List α} {i j:Nat} {x:α},O5 p l i=true->l[j]? =some x->p (i+j) x=true
 |[],_,j,_,_,h=>by simp at h
 |y::l,i,0,x,h,e=>by rw[O5,AL] at h;cases e;exact h.1
 |y::l,i,j+1,x,h,e=>by
  rw[O5,AL] at h;rw[List.getElem?_cons_succ] at e;have:=abI h.2 e
  rwa [show i+1+j=i+(j+1) by omega] at this
def ao9{k op:Int}{n:Nat}:∀{ks:List Tn} {j:Nat},(∀i t,ks[i]? =some t->iC (cls k op n (j+i)) t.kind∧GU t)->oks k op n ks j
 |[],_,_=>by rw[oks];trivial
 |t::ts,j,h=>by
  rw[oks];have h0:=h 0 t rfl;refine⟨h0.1,h0.2,ao9 λi u hu=> ?_⟩;have:=h (i+1) u (by rw[List.getElem?_cons_succ];exact hu)
  rwa [show j+(i+1)=j+1+i by omega] at this
def ara{l:List Nd}(hall:O5 (np l) l 0=true)(hsm:∀n,n∈l->Small n)(hkl:∀n,n∈l->n.kids.length<=400)(t:Tn):∀b,Lies l b t->GU t:=by
 refine Tn.ind (P:=λt=>∀b,Lies l b t->GU t) ?_ t;intro k op x y ks ih b h;have hr:=h.root;have hm:=Lu hr;have hn:=abI hall hr;unfold np at hn;rw[AL] at hn;have hf:=(aeY (hsm _ hm) (hkl _ hm)).1;rw[hn.1] at hf;have hc:=avY hf;rw[dn,iQ] at hc;have hkn:=aif hf;rw[GU];refine⟨hkn,hc,ao9 λi u hu=>⟨?_,ih u (Lu hu) _ (Lies.P9 h hu)⟩⟩;have he:=Qa (b:=b) hu;have hlt:=(Je.1 hu).1;have hk:=abI hn.2 he;have hroot:=Lies.root' (Lies.P9 h hu);unfold kp at hk;rw[O9] at hk;have hnd:(SQ l (b+sizes (ks.take i)+sizes u.kids)).kind=u.kind:=by rw[SQ,hroot]
 rw[hnd] at hk;have hko:=(aju (hsm _ hm) (hkl _ hm) hn.1 (0+i) (by rw[iQ];omega) u.kind).1;rw[hk] at hko;have:=avZ (j:=0+i) hkn (by rw[dn,iQ];omega) (by rw[dn];exact hkl _ hm) (by rw[dn,iQ];exact hc) hko;rw[dn,iQ] at this;exact this
def ajx{t:Tn}(h:P8 (t.flat 0)=true)(hsm:∀n,n∈t.flat 0->Small n):GU t:=by unfold P8 at h;rw[AL,AL] at h;obtain⟨r,hv⟩:=aeW h.1;exact ara h.2.2 hsm hv.abx t 0 (Lies.whole t)
def wK:List Nd->Nat
 |[]=>0
 |n::l=>4+n.kids.length+wK l
structure Ok(l:List Nd):Prop where
 len:l.length<=1048576
 kids:∀n,n∈l->n.kids.length<=1048576∧∀e,e∈n.kids->I64 e
 sm:∀n,n∈l->Small n
 w:wK l<=10000000
def Ok.k{l:List Nd}(h:Ok l):∀n,n∈l->n.kids.length<=1048576:=λn hn=>by have:=(h.kids n hn).1;omega
def ae0{l:List Nd}(h:P8 l=true):CW l=true:=by unfold P8 at h;rw[AL] at h;exact h.1
def aIu{l:List Nd}(hs:(l.length+wNs l:Int)<=1048576)(hf:∀n,n∈l->Fit n)(hl:l.length<=1048576)(hk:∀n,n∈l->n.kids.length<=1048576):Ok l:=by
 have hw:∀l:List Nd,wK l<=4 * l.length+wNs l:=by
  intro l;induction l with
  |nil=>exact Nat.le_refl _
  |cons n l ih=>rw[wK,wNs,wN,vX];omega
 have:=hw l;exact⟨hl,λn hn=>⟨hk n hn,(hf n hn).kid⟩,λn hn=>by have h1:=akC hn;have h2:wN n=n.text.length+n.other.length+n.kids.length:=rfl;exact⟨by omega,by omega⟩,by omega⟩
def Zf(o:Bool)(n:Nd):Row:=[.int .i64 n.kind,.int .i64 n.op,.str n.text,.sl o 1 (encI n.kids)]
def dW(o:Bool)(l:List Nd):au:=l.map (Zf o)
section
variable (o:Bool) (n:Nd) (l:List Nd) (i:Int)
@[simp] theorem iM:(dW o l).length=l.length:=by simp[dW]
@[simp] theorem awr:idx (dW o l) i=(idx l i).map (Zf o):=Zv _ _ _
@[simp] theorem qN(j:Nat):(dW o l)[j]? =(l[j]?).map (Zf o):=by simp[dW]
@[simp] theorem cD0:eu .i64 (Zf o n) 0=some n.kind:=rfl
@[simp] theorem cD1:eu .i64 (Zf o n) 1=some n.op:=rfl
@[simp] theorem cD2:cStr (Zf o n) 2=some n.text:=rfl
@[simp] theorem cD3:LC 1 (Zf o n) 3=some (encI n.kids):=rfl
@[simp] theorem aii:dI (dW o l)=dW false l:=by
 induction l with
 |nil=>rfl
 |cons x l ih=>simp only[dW,JI,dI] at ih⊢;rw[ih];simp[Zf,ql,D.fz,akd]
end
def I9(o:Bool)(a b:List Nd):dW o (a++b)=dW o a++dW o b:=by simp[dW]
def abJ:∀l:List Nd,EO (dW true l)=true
 |[]=>rfl
 |n::l=>by have:dW true (n::l)=Zf true n::dW true l:=rfl;rw[this,EO,abJ l];simp[Zf,jk,D.pure]
def alU(l:List Nd):[[D.sl true 4 (dW true l)]].all jk=true:=by simp[jk,D.pure,abJ]
def len_eq(n c:Nat):((n:Int)==(c:Int))=Nat.beq n c:=by rw[Bool.eq_iff_iff,beq_iff_eq,Nat.beq_eq];omega
def asx(n:Nat):((n:Int)==0)=Nat.beq n 0:=len_eq n 0
def asy(n:Nat):((n:Int)==1)=Nat.beq n 1:=len_eq n 1
def V7{P:Int->Prop}(h1:P 1)(h2:P 2)(h3:P 3)(h4:P 4)(h5:P 5)(h6:P 6)(h:∀k,k≠1->k≠2->k≠3->k≠4->k≠5->k≠6->P k)(k:Int):P k:=by
 by_cases e1:k=1
 ·rwa [e1]
 by_cases e2:k=2
 ·rwa [e2]
 by_cases e3:k=3
 ·rwa [e3]
 by_cases e4:k=4
 ·rwa [e4]
 by_cases e5:k=5
 ·rwa [e5]
 by_cases e6:k=6
 ·rwa [e6]
 exact h k e1 e2 e3 e4 e5 e6
def V8(k n:Int)(x:aC)(rows:au):M.rZ k n x rows=some (Qd k n x rows.length):=by
 simp only[M.rZ,M.Eo,M.strings_Contains,adJ,ah,I8,Qd,asx,asy];generalize hasB 10 x=hb;generalize (x==[])=xe;generalize Nat.beq rows.length 0=c0;generalize Nat.beq rows.length 1=c1;generalize (decide (0<=n) && decide (n<=40))=r
 by_cases hn:n=0
 ·subst hn;revert k;refine V7 ?_ ?_ ?_ ?_ ?_ ?_ (λk e1 e2 e3 e4 e5 e6=> ?_)
  case refine_7=>rw[<-bne_iff_ne] at e1 e4;simp only[Nw.2 e2,Nw.2 e3,Nw.2 e5,Nw.2 e6,e1,e4,Nw.2 (bne_iff_ne.1 e1),Nw.2 (bne_iff_ne.1 e4)];cases xe<;>rfl
  all_goals cases xe<;>cases hb<;>cases r<;>rfl
 ·have hn':(n==0)=false:=Nw.2 hn;have hn2:(n !=0)=true:=bne_iff_ne.2 hn;revert k;refine V7 ?_ ?_ ?_ ?_ ?_ ?_ (λk e1 e2 e3 e4 e5 e6=> ?_)
  case refine_7=>rw[<-bne_iff_ne] at e1 e4;simp only[hn',hn2,Nw.2 e2,Nw.2 e3,Nw.2 e5,Nw.2 e6,e1,e4,Nw.2 (bne_iff_ne.1 e1),Nw.2 (bne_iff_ne.1 e4)];cases xe<;>rfl
  all_goals simp only[hn',hn2];cases xe<;>cases hb<;>cases r<;>rfl
def Zg(k n:Int)(x:aC)(rows:au)(hx:x.length<=1000000000):M.xQ k n x rows=some (Qd k n x rows.length):=by
 simp only[M.xQ,M.IJ,ah0 x hx,ah,I7,Qd,asx,asy];generalize hasB 10 x=hb;generalize (x==[])=xe;generalize Nat.beq rows.length 0=c0;generalize Nat.beq rows.length 1=c1;generalize (decide (0<=n) && decide (n<=40))=r
 by_cases hn:n=0
 ·subst hn;revert k;refine V7 ?_ ?_ ?_ ?_ ?_ ?_ (λk e1 e2 e3 e4 e5 e6=> ?_)
  case refine_7=>rw[<-bne_iff_ne] at e1 e4;simp only[Nw.2 e2,Nw.2 e3,Nw.2 e5,Nw.2 e6,e1,e4,Nw.2 (bne_iff_ne.1 e1),Nw.2 (bne_iff_ne.1 e4)];cases xe<;>rfl
  all_goals cases xe<;>cases hb<;>cases r<;>rfl
 ·have hn':(n==0)=false:=Nw.2 hn;have hn2:(n !=0)=true:=bne_iff_ne.2 hn;revert k;refine V7 ?_ ?_ ?_ ?_ ?_ ?_ (λk e1 e2 e3 e4 e5 e6=> ?_)
  case refine_7=>rw[<-bne_iff_ne] at e1 e4;simp only[hn',hn2,Nw.2 e2,Nw.2 e3,Nw.2 e5,Nw.2 e6,e1,e4,Nw.2 (bne_iff_ne.1 e1),Nw.2 (bne_iff_ne.1 e4)];cases xe<;>rfl
  all_goals simp only[hn',hn2];cases xe<;>cases hb<;>cases r<;>rfl
def Rw(l:List Nd)(o:Bool){i:Nat}{n:Nd}{st:List Int}(hi:l[i]? =some n)(hl:l.length<=90000000)(hst:Qr st)(hs:st.length=i):
  ∀(j:Nat) (a:Int),j<=n.kids.length->n.kids.length<=90000000->0<=a->a<=i->M.o7 (dW o l) (i:Int) (encI st) (a,(j:Int) - 1)=some (match eH st (n.kids.take j).reverse (a - 1) with
   |none=> .inl ()
   |some r=> .inr (r+1, -1))
 |0,a,hj,hk,h0,h1=>by rw[M.o7];apply dD;simp only[M.yJ,M.tY];rw[uh (by omega),dP,List.take_zero,List.reverse_nil,eH];simp
 |j+1,a,hj,hkl,h0,h1=>by
  have hlt:i<l.length:=(Je.1 hi).1;obtain⟨k,hk⟩:∃k,n.kids[j]? =some k:=⟨n.kids[j]'(by omega),by simp⟩
  have ht:(n.kids.take (j+1)).reverse=k::(n.kids.take j).reverse:=by rw[List.take_add_one,hk,Option.toList_some,List.reverse_append];rfl
  rw[ht,eH];have e1:(((j+1:Nat):Int) - 1)=(j:Int):=by omega
  rw[e1];have hstep:M.yJ (dW o l) (i:Int) (encI st) (a,(j:Int))=if a - 1<0∨k≠a - 1 then some (.inr (.inl ())) else some (.inl (st[k.toNat]?.getD 0,(j:Int) - 1)):=by
   simp only[M.yJ,M.tY,dF,qN,hi,Jf,ah,cD3,jS,hk,LQ];rw[zdt (by omega),bW,aG (n:=a - 1) (by omega) (by omega)]
   by_cases h2:k=a - 1
   ·have:(k !=a - 1)=false:=by simp[h2]
    rw[this,dP]
    by_cases h3:a=0
    ·have:(a==0)=true:=by simp[h3]
     rw[this,bW,if_pos (.inl (by omega))]
    ·have:(a==0)=false:=by simp[h3]
     rw[this,dP,if_neg (by omega)];obtain⟨d,hd⟩:∃d:Nat,a - 1=(d:Int):=⟨(a - 1).toNat,by omega⟩
     have hdl:d<st.length:=by omega
     rw[h2,hd];simp only[aaL,dF,jS,O9];rw[List.getElem?_eq_getElem hdl];simp only[Jf,ah,LQ,Option.getD_some];rw[aG (by omega) (by omega)]
   ·have:(k !=a - 1)=true:=by simp[h2]
    rw[this,bW,if_pos (.inr h2)]
  by_cases hc:a - 1<0∨k≠a - 1
  ·rw[if_pos hc];rw[if_pos hc] at hstep;exact dD hstep
  ·rw[if_neg hc];rw[if_neg hc] at hstep;rw[M.o7,eF hstep];have hz:=Hw hst k.toNat;have:=Rw l o hi hl hst hs j (st[k.toNat]?.getD 0) (by omega) hkl hz.1 (by omega);rw[M.o7] at this;exact this
def Qo(l:List Nd)(o:Bool)(hl:l.length<=90000000)(hk:∀n,n∈l->n.kids.length<=90000000):∀(rest:List Nd) (i:Nat) (st:List Int),l.drop i=rest->st.length=i->i<=l.length->Qr st->
  M.o8 (dW o l) ((i:Int),encI st)=some (match fG st (ks rest) with
   |none=> .inl ()
   |some r=> .inr ((l.length:Int),encI r))
 |[],i,st,hd,hs,hi,hst=>by
  have:l.length<=i:=List.drop_eq_nil_iff.1 hd;rw[M.o8];apply dD;simp only[lJ,M.yK,M.tZ,iM];rw[uh (by omega),dP];have:i=l.length:=by omega
  subst this;rfl
 |n::rest,i,st,hd,hs,hi,hst=>by
  have hn:l[i]? =some n:=by
   have:(l.drop i)[0]? =some n:=by rw[hd];rfl
   simpa using this
  have hlt:i<l.length:=(Je.1 hn).1;have hd':l.drop (i+1)=rest:=by rw[<-List.drop_drop,hd];rfl
  have hkn:=hk n (Lu hn);have hin:=Rw l o hn hl hst hs n.kids.length (i:Int) (Nat.le_refl _) hkn (by omega) (by omega);rw[List.take_length] at hin;have hks:ks (n::rest)=n.kids::ks rest:=rfl;rw[hks,fG,hs];have hstep:M.yK (dW o l) ((i:Int),encI st)=some (match eH st n.kids.reverse ((i:Int) - 1) with
    |none=> .inr (.inl ())
    |some a=> .inl (((i+1:Nat):Int),encI (st++[a+1]))):=by
   simp only[lJ,M.yK,M.tZ,iM,dF,qN,hn,Jf,ah,cD3,dn];rw[zdt (by omega),bW,aG (n:=(n.kids.length:Int) - 1) (by omega) (by omega),hin];cases hw:eH st n.kids.reverse ((i:Int) - 1) with
   |none=>rfl
   |some a=>simp only[ah,nX,letE,GX];rw[dN (by omega),bW,dN (by omega),bW,aG (by omega) (by omega)];simp[encI]
  cases hw:eH st n.kids.reverse ((i:Int) - 1) with
  |none=>rw[hw] at hstep;exact dD hstep
  |some a=>rw[hw] at hstep;rw[M.o8,eF hstep];have hr:=yc hst _ _ _ (by omega) (by omega) hw;have:=Qo l o hl hk rest (i+1) (st++[a+1]) hd' (by simp[hs]) hlt (Mc hst hr.1 hr.2);rw[M.o8] at this;exact this
def alV(st:List Int)(m i:Nat)(h:i<st.length):(st++List.replicate m 0)[i]? =some (st[i]?.getD 0):=by rw[List.getElem?_append_left h,List.getElem?_eq_getElem h];rfl
def Rx(v0 v1:au)(v2 v3:Int)(k1 k2:Int)(x:aC){kids st:List Int}(m:Nat)(hk:kids.length<=90000000)(hl:st.length<=90000000)(hst:Qr st):
  ∀(j:Nat) (a:Int),j<=kids.length-> -1<=a->a<st.length->M.o9 v0 v2 v1 v3 v2 (encI (st++List.replicate m 0)) k1 k2 x (encI kids) (a,(j:Int) - 1)=some (match eH st (kids.take j).reverse a with
   |none=> .inl ()
   |some r=> .inr (r, -1))
 |0,a,hj,h0,h1=>by rw[M.o9];apply dD;simp only[M.yL,M.uf];rw[uh (by omega),dP,List.take_zero,List.reverse_nil,eH];simp
 |j+1,a,hj,h0,h1=>by
  obtain⟨k,hkj⟩:∃k,kids[j]? =some k:=⟨kids[j]'(by omega),by simp⟩
  have ht:(kids.take (j+1)).reverse=k::(kids.take j).reverse:=by rw[List.take_add_one,hkj,Option.toList_some,List.reverse_append];rfl
  rw[ht,eH];have e1:(((j+1:Nat):Int) - 1)=(j:Int):=by omega
  rw[e1];have hstep:M.yL v0 v2 v1 v3 v2 (encI (st++List.replicate m 0)) k1 k2 x (encI kids) (a,(j:Int))=if a<0∨k≠a then some (.inr (.inl ())) else some (.inl (st[k.toNat]?.getD 0 - 1,(j:Int) - 1)):=by
   simp only[M.yL,M.uf];rw[zdt (by omega),bW]
   by_cases ha:a<0
   ·rw[zdt ha,bW,if_pos (.inl ha)]
   ·rw[uh ha,dP];simp only[dF,jS,hkj,Jf,ah,LQ]
    by_cases h2:k=a
    ·have:(k !=a)=false:=by simp[h2]
     obtain⟨d,rfl⟩:∃d:Nat,a=(d:Int):=⟨a.toNat,by omega⟩
     rw[this,dP,if_neg (by omega)];have hz:=Hw hst d;simp only[dF,O9,jS,alV st m d (by omega),Jf,ah,LQ];rw[aG (by omega) (by omega),aG (by omega) (by omega),h2,O9]
    ·have:(k !=a)=true:=by simp[h2]
     rw[this,bW,if_pos (.inr h2)]
  by_cases hc:a<0∨k≠a
  ·rw[if_pos hc];rw[if_pos hc] at hstep;exact dD hstep
  ·rw[if_neg hc];rw[if_neg hc] at hstep;rw[M.o9,eF hstep];have hz:=Hw hst k.toNat;have:=Rx v0 v1 v2 v3 k1 k2 x m hk hl hst j (st[k.toNat]?.getD 0 - 1) (by omega) (by omega) (by omega);rw[M.o9] at this;exact this
def Qp(l:List Nd)(o:Bool)(hl:l.length<=90000000)(hk:∀n,n∈l->n.kids.length<=90000000):∀(rest:List Nd) (i:Nat) (st:List Int),l.drop i=rest->st.length=i->i<=l.length->Qr st->
  M.pq (dW o l) (dW o l) (l.length:Int) ((i:Int),encI (st++List.replicate (l.length - i) 0))=some (match fG st (ks rest) with
   |none=> .inl ()
   |some r=> .inr ((l.length:Int),encI r))
 |[],i,st,hd,hs,hi,hst=>by
  have:l.length<=i:=List.drop_eq_nil_iff.1 hd;rw[M.pq];apply dD;simp only[M.yM,M.ug];rw[uh (by omega),dP];have:i=l.length:=by omega
  subst this;rw[Nat.sub_self,List.replicate_zero,List.append_nil];rfl
 |n::rest,i,st,hd,hs,hi,hst=>by
  have hn:l[i]? =some n:=by
   have:(l.drop i)[0]? =some n:=by rw[hd];rfl
   simpa using this
  have hlt:i<l.length:=(Je.1 hn).1;have hd':l.drop (i+1)=rest:=by rw[<-List.drop_drop,hd];rfl
  have hkn:=hk n (Lu hn);have hin:=Rx (dW o l) (dW o l) (i:Int) (l.length:Int) n.kind n.op n.text (kids:=n.kids) (l.length - i) hkn (by omega) hst n.kids.length ((i:Int) - 1) (Nat.le_refl _) (by omega) (by omega);rw[List.take_length] at hin;have hks:ks (n::rest)=n.kids::ks rest:=rfl;rw[hks,fG,hs];have hstep:M.yM (dW o l) (dW o l) (l.length:Int) ((i:Int),encI (st++List.replicate (l.length - i) 0))=some (match eH st n.kids.reverse ((i:Int) - 1) with
    |none=> .inr (.inl ())
    |some a=> .inl (((i+1:Nat):Int),encI ((st++[a+1])++List.replicate (l.length - (i+1)) 0))):=by
   simp only[M.yM,M.ug,dF,qN,hn,Jf,ah,cD0,cD1,cD2,cD3,dn];rw[zdt (by omega),bW,aG (n:=(n.kids.length:Int) - 1) (by omega) (by omega),aG (n:=(i:Int) - 1) (by omega) (by omega),hin];cases hw:eH st n.kids.reverse ((i:Int) - 1) with
   |none=>rfl
   |some a=>
    have hr:=yc hst _ _ _ (by omega) (by omega) hw;have hg:(encI (st++List.replicate (l.length - i) 0))[i]? =some [D.int .i64 0]:=by rw[jS,List.getElem?_append_right (by omega),hs,Nat.sub_self,List.getElem?_replicate,if_pos (by omega)];rfl
    have hsp:splice [D.int .i64 0] 0 [D.int .i64 (i64.wrap (a+1))]=[D.int .i64 (a+1)]:=by rw[aG (by omega) (by omega)];rfl
    simp only[ah,nX,letE,O9,hg,hsp];rw[aG (by omega) (by omega),am6,List.set_append_right i (a+1) (by omega),hs,Nat.sub_self];obtain⟨q,hq⟩:∃q,l.length - i=q+1:=⟨l.length - i - 1,by omega⟩
    rw[hq,List.replicate_succ,List.set_cons_zero,show l.length - (i+1)=q by omega,AB,List.singleton_append];rfl
  cases hw:eH st n.kids.reverse ((i:Int) - 1) with
  |none=>rw[hw] at hstep;exact dD hstep
  |some a=>rw[hw] at hstep;rw[M.pq,eF hstep];have hr:=yc hst _ _ _ (by omega) (by omega) hw;have:=Qp l o hl hk rest (i+1) (st++[a+1]) hd' (by simp[hs]) hlt (Mc hst hr.1 hr.2);rw[M.pq] at this;exact this
mutual
def txs:Tn->Nat
 | .mk _ _ x _ ks=>x.length+qB ks
def qB:List Tn->Nat
 |[]=>0
 |t::ts=>txs t+qB ts
end
def KQ:∀a b:List Tn,qB (a++b)=qB a+qB b
 |[],b=>by simp[qB]
 |t::a,b=>by rw[SS,qB,qB,KQ a b];omega
def aij:∀{ks:List Tn} {t:Tn},t∈ks->txs t<=qB ks
 |[],_,h=>by cases h
 |u::us,t,h=>by
  rw[qB];rcases List.mem_cons.1 h with rfl|h
  ·omega
  ·have:=aij h;omega
mutual
def ajy(X:Nat):∀(t:Tn) (b:Nat),(∀n,n∈t.flat b->n.text.length<=X)->txs t<=X * t.size
 | .mk k o x y ks,b,h=>by
  rw[Tn.flat] at h;have h1:=akF X ks b λn hn=>h n (List.mem_append_left _ hn)
  have h2:x.length<=X:=h ⟨k,o,x,y,ends ks b⟩ (by simp);rw[txs,Tn.size,Nat.mul_add,Nat.mul_one];omega
def akF(X:Nat):∀(ks:List Tn) (b:Nat),(∀n,n∈jC ks b->n.text.length<=X)->qB ks<=X * sizes ks
 |[],b,_=>by simp[qB]
 |t::ts,b,h=>by
  rw[jC] at h;have h1:=ajy X t b λn hn=>h n (List.mem_append_left _ hn)
  have h2:=akF X ts _ λn hn=>h n (List.mem_append_right _ hn)
  rw[qB,sizes,Nat.mul_add];omega
end
def apa(n:Nd):Bool:=Qd n.kind n.op n.text n.kids.length
mutual
def abK:∀(t:Tn) (b:Nat),(t.flat b).all apa=(dOk t)
 | .mk k o x y ks,b=>by rw[Tn.flat,List.all_append,adQ ks b,dOk];simp[apa,iQ]
def adQ:∀(ks:List Tn) (b:Nat),(jC ks b).all apa=aie ks
 |[],_=>rfl
 |t::ts,b=>by rw[jC,List.all_append,abK t b,adQ ts _,aie]
end
def abL{α:Type}(f:α->Bool):∀(l:List α) (i:Nat),O5 (λ_ x=>f x) l i=l.all f
 |[],_=>rfl
 |x::l,i=>by rw[O5,abL f l,List.all_cons]
section
variable {t:Tn} {o:Bool} (h:t.size<=90000000)
include h
theorem Qe:(t.flat 0).length<=90000000∧∀n,n∈t.flat 0->n.kids.length<=90000000:=
 ⟨by rw[t.flat_length];exact h,λn hn=>by have:=(XA t 0 n hn).1;omega⟩
theorem aik:∃q:Nat,(t.size:Int) - 1=(q:Int)∧(t.sts 0)[q]? =some 0:=by obtain⟨u,hu,hul⟩:=t.aaR 0;have hp:=t.size_pos;refine⟨u.length,by omega, ?_⟩;rw[hu,List.getElem?_append_right (Nat.le_refl _),Nat.sub_self];rfl
theorem V9:(M.mX (dW o (t.flat 0))).map (·.2)=some (decide (t.size<=4000)):=by
 have hp:=t.size_pos;obtain⟨h1,h2⟩:=Qe h;have hout:=Qp (t.flat 0) o h1 h2 (t.flat 0) 0 [] rfl rfl (Nat.zero_le _) MP;simp only[M.mX,M.zo,I8,ah,iM,t.flat_length]
 by_cases hs:t.size<=4000
 ·have e0:encI ([]++List.replicate ((t.flat 0).length - 0) 0)=List.replicate ((t.size:Int)).toNat [D.int .i64 0]:=by simp[encI,t.flat_length]
  rw[e0,rE,QU,t.flat_length] at hout;rw[zdt (show(1:Int)<=t.size by omega),zdt (show(t.size:Int)<=4000 by omega),Bool.true_and,Bool.not_true,dP,hout];have hg:(decide (0<=(t.size:Int)) && decide ((t.size:Int)<=(t.size:Int)) && decide ((t.size:Int) * 8<=140737488355328) && decide ((t.size:Int)<=140737488355328))=true:=by simp;omega
  obtain⟨q,hq1,hq2⟩:=aik h;simp only[hg,bW,ah,nX,letE];rw[aG (by omega) (by omega),hq1];simp only[dF,jS,hq2,Jf,ah,LQ,O9,GH,bW];rw[zdt hs];rfl
 ·rw[uh (show¬(t.size:Int)<=4000 by omega),Bool.and_false,Bool.not_false,bW,uh hs];rfl
theorem acJ:M.yA (dW o (t.flat 0))=some ((dOk t) && decide (t.size<=4000)):=by
 have hl:=O6 (t.flat 0) (λ_ n=>apa n) (b:=M.F6 (dW o (t.flat 0)) (dW o (t.flat 0)) ((t.flat 0).length:Int))
  (λi n hi=>by have hil:=(Je.1 hi).1;rw[t.flat_length] at hil;simp only[M.F6,M.Bc,t.flat_length,dF,qN,hi,Jf,ah,cD0,cD1,cD2,cD3,V8,dn];rw[zdt (by omega),bW,aG (by omega) (by omega)];change _=some (bif Qd n.kind n.op n.text n.kids.length then _ else _);cases Qd n.kind n.op n.text n.kids.length<;>rfl)
  (by simp only[M.F6,M.Bc];rw[uh (by omega),dP])
 rw[abL,abK] at hl;have hs:=V9 (o:=o) h;simp only[M.yA,M.IX,M.Bv,iM,hl,ah];cases hd:(dOk t) with
 |false=>rfl
 |true=>
  cases hx:M.mX (dW o (t.flat 0)) with
  |none=>rw[hx] at hs;cases hs
  |some r=>rw[hx] at hs;simp only[Jf,gQ] at hs;simp only[bW,nX,letE,ah,hs,Bool.true_and]
theorem Wh:M.rW (dW o (t.flat 0))=some (encI (t.sts 0),true):=by obtain⟨h1,h2⟩:=Qe h;have hout:=Qo (t.flat 0) o h1 h2 (t.flat 0) 0 [] rfl rfl (Nat.zero_le _) MP;rw[rE,QU] at hout;have e0:encI []=[]:=rfl;rw[e0] at hout;simp only[M.rW,M.Ef,hout,ah,nX,letE,GH,bW]
theorem acK(hx:∀n,n∈t.flat 0->n.text.length<=1000000000):M.yx (dW o (t.flat 0))=some ((dOk t) && decide (t.size<=4000)):=by
 have hp:=t.size_pos;simp only[M.yx,M.IK,I7,ah,iM,t.flat_length]
 by_cases hs:t.size<=4000
 ·have hl:=O6 (t.flat 0) (λ_ n=>apa n) (b:=M.FW (dW o (t.flat 0)))
   (λi n hi=>by have hil:=(Je.1 hi).1;have hxn:=hx n (Lu hi);rw[t.flat_length] at hil;simp only[M.FW,M.Ba,iM,t.flat_length,dF,qN,hi,Jf,ah,cD0,cD1,cD2,cD3,Zg _ _ n.text _ (by omega),dn];rw[zdt (by omega),bW,aG (by omega) (by omega)];change _=some (bif Qd n.kind n.op n.text n.kids.length then _ else _);cases Qd n.kind n.op n.text n.kids.length<;>rfl)
   (by simp only[M.FW,M.Ba,iM];rw[uh (by omega),dP])
  rw[abL,abK] at hl;rw[zdt (show(1:Int)<=t.size by omega),zdt (show(t.size:Int)<=4000 by omega),Bool.true_and,Bool.not_true,dP,M.KA,hl,ah,zdt hs,Bool.and_true];cases hd:(dOk t) with
  |false=>rfl
  |true=>obtain⟨q,hq1,hq2⟩:=aik h;simp only[bW,nX,letE,Wh (o:=o) h,ah];rw[aG (by omega) (by omega),hq1];simp only[dF,jS,hq2,Jf,ah,LQ,O9];rfl
 ·rw[uh (show¬(t.size:Int)<=4000 by omega),Bool.and_false,Bool.not_false,bW,uh hs,Bool.and_false]
end
def adR:M.yA []=some false∧M.yx []=some false:=by
 constructor
 ·have:M.Bv [] [] 0 0=some (.inr 0):=by rw[M.Bv];exact dD rfl
  simp only[M.yA,M.IX,EN,rE,this,ah,nX,letE,M.mX,M.zo,I8];rfl
 ·simp only[M.yx,M.IK,I7,ah,EN,rE];rfl
def grp(l:List Nd):Int:=((l.filter (·.kind==5)).length:Int)
def ail(l:List Nd)(o:Bool)(hl:l.length<=90000000):M.uM (dW o l)=some (grp l):=by
 have hg:∀i,((l.take i).filter (·.kind==5)).length<=l.length:=λi=>Nat.le_trans (List.length_filter_le _ _) (by rw[U2];omega)
 have hloop:=kX (b:=M.Ar (dW o l) (l.length:Int)) (t:=(grp l,(l.length:Int))) (λi=>(grp (l.take i),(i:Int))) l.length
  (by
   intro i hi;obtain⟨n,hn⟩:∃n,l[i]? =some n:=⟨l[i],by simp[hi]⟩
   have hgi:=hg i;simp only[M.Ar,M.vJ,dF,qN,hn,Jf,ah,cD0,cD1,cD2,cD3];rw[zdt (by omega),bW,kY hn,grp,grp,List.filter_append];cases hk:n.kind==5 with
   |true=>rw[bW,aG (by omega) (by omega),aG (by omega) (by omega)];simp[hk]
   |false=>rw[dP,aG (by omega) (by omega)];simp[hk])
  (by simp only[M.Ar,M.vJ];rw[uh (by omega),dP,List.take_length]) 0 (Nat.zero_le _)
 have e0:grp (l.take 0)=0:=rfl;rw[e0,rE] at hloop;simp only[M.uM,M.F7,iM,M.Ep,hloop,ah]
mutual
def ain(l:List Nd):Tn->Nat->Row
 | .mk k n x _ ks,b=>[.int .i64 k,.int .i64 n,.str x,.sl true 5 (vK l ks b),.int .i64 (grp (l.take (b+sizes ks)))]
def vK(l:List Nd):List Tn->Nat->au
 |[],_=>[]
 |t::ts,b=>ain l t b::vK l ts (b+t.size)
end
def TN(l:List Nd):∀(a c:List Tn) (b:Nat),vK l (a++c) b=vK l a b++vK l c (b+sizes a)
 |[],c,b=>by simp[vK,sizes]
 |t::a,c,b=>by rw[SS,vK,vK,TN l a c,sizes,SS,Nat.add_assoc]
def aio{l:List Nd}{ks:List Tn}{j:Nat}{t:Tn}{b:Nat}(hj:ks[j]? =some t):vK l (ks.take (j+1)) b=vK l (ks.take j) b++[ain l t (b+sizes (ks.take j))]:=by rw[kY hj,TN];rfl
def TP(l:List Nd):∀(ks:List Tn) (b:Nat),(vK l ks b).length=ks.length
 |[],_=>rfl
 |t::ts,b=>by rw[vK,vX,TP l ts,vX]
def apb(l:List Nd)(t:Tn)(b:Nat):ain l t b=[.int .i64 t.kind,.int .i64 t.op,.str t.text,.sl true 5 (vK l t.kids b),.int .i64 (grp (l.take (b+sizes t.kids)))]:=by cases t;rfl
def apc{l:List Nd}{o:Bool}(hl:l.length<=90000000)(t:Tn):∀(f b:Nat),Lies l b t->t.size<=f->
  M.lX f (dW o l) ((b+sizes t.kids:Nat):Int)=some (t.kind,t.op,t.text,vK l t.kids b,grp (l.take (b+sizes t.kids))):=by
 refine Tn.ind (P:=λt=>∀(f b:Nat),Lies l b t->t.size<=f->M.lX f (dW o l) ((b+sizes t.kids:Nat):Int)=some (t.kind,t.op,t.text,vK l t.kids b,grp (l.take (b+sizes t.kids)))) ?_ t;intro k op x y ks ih f b h hf;cases f with
 |zero=>rw[Tn.size] at hf;omega
 |succ f=>
  have hroot:l[b+sizes ks]? =some ⟨k,op,x,y,ends ks b⟩:=h.root;have hlt:=h.lt;rw[Tn.size] at hf hlt;have hkl:=jT ks;have hcut:cut (dW o l) 0 ((b+sizes ks:Nat):Int)=some (dW o (l.take (b+sizes ks))):=by rw[cut,zdt (Int.le_refl 0),zdt (by omega),zdt (by rw[iM];omega)];simp only[Bool.and_self,bW,Int.toNat_zero,List.drop_zero,O9,Nat.sub_zero,dW,List.map_take]
  have hgr:=ail (l.take (b+sizes ks)) o (by rw[U2];omega);simp only[M.lX,M.IY,dF,qN,Tn.kids,Tn.kind,Tn.op,Tn.text,hroot,Jf,ah,cD0,cD1,cD2,cD3,dn,iQ,hcut,hgr];generalize hG:grp (l.take (b+sizes ks))=gg;have hrec:∀j t,ks[j]? =some t->M.lX f (dW o l) ((b+sizes (ks.take j)+sizes t.kids:Nat):Int)=some (t.kind,t.op,t.text,vK l t.kids (b+sizes (ks.take j)),grp (l.take (b+sizes (ks.take j)+sizes t.kids))):=λj t hj=>ih t (Lu hj) f _ (Lies.P9 h hj) (by have:=Gn hj;omega)
  have hloop:=kX (b:=M.wE (M.lX f))
   (t:=if ks=[] then .inl (dW o l,encI (ends ks b),(ks.length:Int),0,0,0,[],0,k,op,x,gg) else .inr (dW o l,encI (ends ks b),(ks.length:Int),(ks.length:Int),0,0,[],0,k,op,x,gg,vK l ks b))
   (λj=>if j=0 then .inl (dW o l,encI (ends ks b),(ks.length:Int),0,0,0,[],0,k,op,x,gg) else .inr (dW o l,encI (ends ks b),(ks.length:Int),(j:Int),0,0,[],0,k,op,x,gg,vK l (ks.take j) b)) ks.length
   (by
    intro j hj;obtain⟨t,ht⟩:∃t,ks[j]? =some t:=⟨ks[j],by simp⟩
    have hr:=hrec j t ht;have he:=Qa (b:=b) ht;rw[if_neg (show¬j+1=0 by omega),aio ht,apb]
    by_cases h0:j=0
    ·subst h0;rw[if_pos rfl];have hi:idx (encI (ends ks b)) 0=some [D.int .i64 ((b+sizes (ks.take 0)+sizes t.kids:Nat):Int)]:=by have:=dF (encI (ends ks b)) 0;rw[rE] at this;rw[this,jS,he];rfl
     simp only[lJ,M.wE,M.tC,hi,ah,LQ,hr];rw[zdt (by omega),bW];rfl
    ·rw[if_neg h0];simp only[lJ,M.wE,M.tC,dF,jS,he,Jf,ah,LQ,hr,TP,U2,GX];rw[zdt (by omega),bW,dN (by omega),bW,dN (by omega),bW,aG (by omega) (by omega)];rfl)
   (by
    by_cases h0:ks.length=0
    ·have he:ks=[]:=List.length_eq_zero_iff.1 h0;rw[if_pos h0,if_pos he];simp only[lJ,M.wE,M.tC];rw[uh (by omega),dP]
    ·have he:¬ks=[]:=λe=>h0 (by rw[e];rfl)
     rw[if_neg h0,if_neg he,List.take_length];simp only[lJ,M.wE,M.tC];rw[uh (by omega),dP]) 0 (Nat.zero_le _)
  rw[if_pos rfl] at hloop;rw[M.KD,hloop,ah]
  by_cases he:ks=[]
  ·rw[if_pos he,he];rfl
  ·rw[if_neg he];rfl
def apd{t:Tn}{o:Bool}(h:t.size<=90000000):M.Dt (dW o (t.flat 0))=some (t.kind,t.op,t.text,vK (t.flat 0) t.kids 0,grp ((t.flat 0).take (sizes t.kids))):=by have hs:=t.Ju;have h1:=M.acG (apc (o:=o) (Qe h).1 t t.size 0 (Lies.whole t) (Nat.le_refl _));rw[Nat.zero_add] at h1;simp only[M.Dt,M.LZ,iM,t.flat_length];rw[aG (by omega) (by omega),show(t.size:Int) - 1=((sizes t.kids:Nat):Int) by omega,h1,ah]
mutual
def dcR:Tn->Row->Prop
 | .mk k n x _ ks,r=>∃rows g,r=[.int .i64 k,.int .i64 n,.str x,.sl false 5 rows,.int .i64 g]∧Ll ks rows
def Ll:List Tn->au->Prop
 |[],rows=>rows=[]
 |t::ts,rows=>∃r rs,rows=r::rs∧dcR t r∧Ll ts rs
end
def Wi(t:Tn)(r:Row):dcR t r↔∃rows g,r=[.int .i64 t.kind,.int .i64 t.op,.str t.text,.sl false 5 rows,.int .i64 g]∧Ll t.kids rows:=by cases t;rfl
def Dw:∀{ts:List Tn} {rows:au},Ll ts rows->rows.length=ts.length
 |[],_,h=>by rw[Ll] at h;rw[h];rfl
 |t::ts,_,h=>by obtain⟨r,rs,rfl,_,h2⟩:=h;rw[vX,Dw h2,vX]
def YI:∀{a b:List Tn} {ra rb:au},Ll a ra->Ll b rb->Ll (a++b) (ra++rb)
 |[],_,_,_,h,h2=>by rw[Ll] at h;subst h;exact h2
 |t::ts,_,_,_,⟨r,rs,e,h1,h2⟩,h3=>by subst e;exact⟨r,_,rfl,h1,YI h2 h3⟩
def Wj:∀{ts:List Tn} {rows:au} {j:Nat} {t:Tn},Ll ts rows->ts[j]? =some t->∃r,rows[j]? =some r∧dcR t r
 |[],_,_,_,_,h=>by simp at h
 |u::ts,_,0,t,⟨r,rs,rfl,h1,_⟩,h=>by cases h;exact⟨r,rfl,h1⟩
 |u::ts,_,j+1,t,⟨r,rs,rfl,_,h2⟩,h=>by rw[List.getElem?_cons_succ] at h⊢;exact Wj h2 h
mutual
def av1:∀(t:Tn) (r:Row),dcR t r->ql r=r
 | .mk k n x y ks,r,⟨rows,g,e,h⟩=>by subst e;simp only[ql,D.fz,ae1 ks rows h]
def ae1:∀(ts:List Tn) (rows:au),Ll ts rows->dI rows=rows
 |[],_,h=>by rw[Ll] at h;subst h;rfl
 |t::ts,_,⟨r,rs,e,h1,h2⟩=>by subst e;rw[dI,av1 t r h1,ae1 ts rs h2]
end
mutual
def alW(l:List Nd):∀(t:Tn) (b:Nat),dcR t (ql (ain l t b))
 | .mk k n x y ks,b=>⟨dI (vK l ks b),_,rfl,Ry l ks b⟩
def Ry(l:List Nd):∀(ts:List Tn) (b:Nat),Ll ts (dI (vK l ts b))
 |[],_=>rfl
 |t::ts,b=>⟨ql (ain l t b),dI (vK l ts (b+t.size)),rfl,alW l t b,Ry l ts _⟩
end
def bytesOf_map:∀s:aC,bytesOf (s.map byteRow)=some s
 |[]=>rfl
 |c::s=>by
  have h:asByte (byteRow c)=some c:=by simp only[byteRow,asByte];simp
  rw[JI,bytesOf,h,bytesOf_map s]
def Dx(s:aC):aA (s.map byteRow)=true:=by simp only[aA,List.all_map,List.all_eq_true];intro x _;rfl
mutual
def Wn:∀(t:Tn) (s:aC),yD t=some s->s.length<=txs t+t.size
 | .mk k n x y ks,s,h=>by
  rw[yD] at h;rw[txs,Tn.size];cases h1:k==1 with
  |true=>rw[h1,bW] at h;cases h;omega
  |false=>
   rw[h1,dP] at h;cases h2:k==2 with
   |true=>rw[h2,bW] at h;cases h;simp only[GX];omega
   |false=>
    rw[h2,dP] at h;cases h3:k==3 with
    |true=>rw[h3,bW] at h;cases h
    |false=>rw[h3,dP] at h;have:=adS ks s h;omega
def adS:∀(ts:List Tn) (s:aC),vW ts=some s->s.length<=qB ts+sizes ts
 |[],s,h=>by cases h;simp
 |t::ts,s,h=>by
  rw[vW] at h;rw[qB,sizes];cases ha:yD t with
  |none=>rw[ha] at h;cases h
  |some a=>
   rw[ha] at h;cases hb:vW ts with
   |none=>rw[hb] at h;cases h
   |some b=>rw[hb] at h;cases h;have h1:=Wn t a ha;have h2:=adS ts b hb;rw[vS];omega
end
def flR(o:Option (aC)):aC×Bool:=match o with
 |some s=>(s,true)
 |none=>([],false)
def arb(t:Tn):∀(f:Nat) (rows:au) (g:Int),t.size<=f->Ll t.kids rows->txs t+t.size<=20000000000000->
  M.jH f t.kind t.op t.text rows g=some (flR (yD t)):=by
 refine Tn.ind (P:=λt=>∀(f:Nat) (rows:au) (g:Int),t.size<=f->Ll t.kids rows->txs t+t.size<=20000000000000->M.jH f t.kind t.op t.text rows g=some (flR (yD t))) ?_ t;intro k n x y ks ih f rows g hf hr hx;cases f with
 |zero=>rw[Tn.size] at hf;omega
 |succ f=>
  rw[Tn.size] at hf;rw[txs,Tn.size] at hx;simp only[M.jH,M.Bd,Tn.kids,Tn.kind,Tn.op,Tn.text,yD] at hr⊢;cases h1:k==1 with
  |true=>rfl
  |false=>
  cases h2:k==2 with
  |true=>rfl
  |false=>
  cases h3:k==3 with
  |true=>rfl
  |false=>
  simp only[dP];have hrl:=Dw hr;have hkl:=jT ks;have key:∀(ts:List Tn) (j:Nat) (acc:aC),ks.drop j=ts->j<=ks.length->acc.length+(qB ts+sizes ts)<=20000000000000->
    fF (M.qg (M.jH f) rows (rows.length:Int)) ((j:Int),acc.map byteRow)=some (match vW ts with
     |none=> .inl ()
     |some s=> .inr ((rows.length:Int),(acc++s).map byteRow)):=by
   intro ts;induction ts with
   |nil=>
    intro j acc hd hj _;have:ks.length<=j:=List.drop_eq_nil_iff.1 hd;have:j=rows.length:=by omega
    subst this;apply dD;simp only[M.qg,M.pY,vW];rw[uh (by omega),dP,List.append_nil]
   |cons u ts ihl=>
    intro j acc hd hj hl;have hu:ks[j]? =some u:=by
     have:(ks.drop j)[0]? =some u:=by rw[hd];rfl
     simpa using this
    have hlt:j<ks.length:=(Je.1 hu).1;have hd':ks.drop (j+1)=ts:=by rw[<-List.drop_drop,hd];rfl
    obtain⟨r,hrj,hrD⟩:=Wj hr hu;obtain⟨rows',g',rfl,hk'⟩:=(Wi u r).1 hrD;have hmem:=Lu hu;have hsz:=nJ hmem;have htx:=aij hmem;have hfu:=ih u hmem f rows' g' (by omega) hk' (by omega);rw[qB,sizes] at hl;have c0:eu .i64 [D.int .i64 u.kind,.int .i64 u.op,.str u.text,.sl false 5 rows',.int .i64 g'] 0=some u.kind:=rfl;have c1:eu .i64 [D.int .i64 u.kind,.int .i64 u.op,.str u.text,.sl false 5 rows',.int .i64 g'] 1=some u.op:=rfl;have c2:cStr [D.int .i64 u.kind,.int .i64 u.op,.str u.text,.sl false 5 rows',.int .i64 g'] 2=some u.text:=rfl;have c3:LC 5 [D.int .i64 u.kind,.int .i64 u.op,.str u.text,.sl false 5 rows',.int .i64 g'] 3=some rows':=rfl;have c4:eu .i64 [D.int .i64 u.kind,.int .i64 u.op,.str u.text,.sl false 5 rows',.int .i64 g'] 4=some g':=rfl;rw[vW];cases hfx:yD u with
    |none=>apply dD;simp only[M.qg,M.pY,dF,hrj,ah,c0,c1,c2,c3,c4,hfu,hfx,flR,Bool.not_false,bW];rw[zdt (by omega),bW]
    |some a=>
     have hal:=Wn u a hfx;have hs:M.qg (M.jH f) rows (rows.length:Int) ((j:Int),acc.map byteRow)=some (.inl (((j+1:Nat):Int),(acc++a).map byteRow)):=by simp only[M.qg,M.pY,dF,hrj,ah,c0,c1,c2,c3,c4,hfu,hfx,flR,Bool.not_true,dP,List.length_map];rw[zdt (by omega),bW,dN (by omega),bW,dN (by omega),bW,aG (by omega) (by omega),List.map_append];rfl
     rw[eF hs,ihl (j+1) (acc++a) hd' hlt (by rw[vS];omega)];cases vW ts with
     |none=>rfl
     |some b=>simp only[AB]
  have h0:=key ks 0 [] rfl (Nat.zero_le _) (by simp only[EN];omega);have e0:([]:aC).map byteRow=[]:=rfl;rw[rE,e0] at h0;rw[M.Ci,h0];cases vW ks with
  |none=>rfl
  |some s=>simp only[ah,nX,letE,List.nil_append,bytesOf_map,flR]
def abM:∀a b:List Tn,Ns (a++b)=bif(Ns a).2 then Ns a else((Ns a).1+(Ns b).1,(Ns b).2)
 |[],b=>by simp[Ns]
 |t::a,b=>by
  rw[SS,Ns,Ns,abM a b];cases h:(bh t).2 with
  |true=>simp[h]
  |false=>simp only[dP];cases h2:(Ns a).2<;>simp[Nat.add_assoc,h2]
mutual
def aIv:∀t:Tn,(bh t).1<=txs t
 | .mk k n x y ks=>by
  have:=abN ks;rw[bh,txs];cases k==2||k==3 with
  |true=>simp
  |false=>cases k==1<;>simp<;>omega
def abN:∀ts:List Tn,(Ns ts).1<=qB ts
 |[]=>by simp[Ns]
 |t::ts=>by have h1:=aIv t;have h2:=abN ts;rw[Ns,qB];cases(bh t).2<;>simp<;>omega
end
def ZH{α:Type}(a:List α)(x:α):(a.reverse++[x])[a.length]? =some x:=by rw[List.getElem?_append_right (by simp)];simp
def aip(w:Row)(c i k n:Int)(x:aC)(g:Int){ks:List Tn}{rows:au}(hr:Ll ks rows)(hk:ks.length<=2000000000)(st:au)(hl:st.length<=2000000000):
  M.kQ w c i k n x rows g ((rows.length:Int) - 1,st)=some (-1,st++rows.reverse):=by
 have hrl:=Dw hr;have key:∀(j:Nat),j<=ks.length->fF (M.rD w c i k n x rows g) ((j:Int) - 1,st++(rows.drop j).reverse)=some (-1,st++rows.reverse):=by
  intro j;induction j with
  |zero=>intro _;apply dD;simp only[lJ,M.rD,M.mY];rw[uh (by omega),dP];rfl
  |succ j ihj=>
   intro hj;obtain⟨u,hu⟩:∃u,ks[j]? =some u:=⟨ks[j],by simp⟩
   obtain⟨r,hrj,hrD⟩:=Wj hr hu;obtain⟨rows',g',rfl,hk'⟩:=(Wi u r).1 hrD;have c0:eu .i64 [D.int .i64 u.kind,.int .i64 u.op,.str u.text,.sl false 5 rows',.int .i64 g'] 0=some u.kind:=rfl;have c1:eu .i64 [D.int .i64 u.kind,.int .i64 u.op,.str u.text,.sl false 5 rows',.int .i64 g'] 1=some u.op:=rfl;have c2:cStr [D.int .i64 u.kind,.int .i64 u.op,.str u.text,.sl false 5 rows',.int .i64 g'] 2=some u.text:=rfl;have c3:LC 5 [D.int .i64 u.kind,.int .i64 u.op,.str u.text,.sl false 5 rows',.int .i64 g'] 3=some rows':=rfl;have c4:eu .i64 [D.int .i64 u.kind,.int .i64 u.op,.str u.text,.sl false 5 rows',.int .i64 g'] 4=some g':=rfl;have hlen:(st++(rows.drop (j+1)).reverse).length<=4000000000:=by simp;omega
   have hdr:rows.drop j=[D.int .i64 u.kind,.int .i64 u.op,.str u.text,.sl false 5 rows',.int .i64 g']::rows.drop (j+1):=by obtain⟨h1,h2⟩:=Je.1 hrj;rw[List.drop_eq_getElem_cons h1,h2]
   rw[show(((j+1:Nat):Int) - 1)=(j:Int) by omega,<-ihj (by omega),hdr,List.reverse_cons,<-AB];refine eF ?_;simp only[lJ,M.rD,M.mY,dF,hrj,ah,c0,c1,c2,c3,c4,GX];rw[zdt (by omega),bW,dN (by omega),bW,dN (by omega),bW,aG (by omega) (by omega)]
 have:=key rows.length (by omega);rw[List.drop_length,List.reverse_nil,List.append_nil] at this;exact this
def S6(w:Row)(c i:Int)(st:au)(s:(Row×Int×Int×au)⊕(Row×Int×Int×Int×Bool×au×Int×Int×aC×au×Int)):Prop:=
 s=.inl (w,c,i,st)∨∃a b d e f g h,s=.inr (w,c,i,a,b,st,d,e,f,g,h)
def alX(w:Row)(i:Int):∀(m:Nat) (us:List Tn) (rows:au) (c:Nat) (s:_),sizes us<=m->m<=1000000000->Ll us rows->c+qB us<=20000000000000->S6 w c i rows.reverse s->
  fF M.gI s=some (bif(Ns us).2 then .inl ((c+(Ns us).1:Nat):Int) else .inr (w,((c+(Ns us).1:Nat):Int),i,[])):=by
 intro m;induction m with
 |zero=>
  intro us rows c s hm hmb hr hc hs;cases us with
  |cons u us=>have:=u.size_pos;rw[sizes] at hm;omega
  |nil=>
   rw[Ll] at hr;subst hr;apply dD;rcases hs with rfl|⟨a,b,d,e,f,g,h,rfl⟩
   ·simp only[M.gI,M.gG,List.reverse_nil,EN,Ns];rfl
   ·simp only[M.gI,M.gG,List.reverse_nil,EN,Ns];rfl
 |succ m ih=>
  intro us rows c s hm hmb hr hc hs;cases us with
  |nil=>
   rw[Ll] at hr;subst hr;apply dD;rcases hs with rfl|⟨a,b,d,e,f,g,h,rfl⟩
   ·simp only[M.gI,M.gG,List.reverse_nil,EN,Ns];rfl
   ·simp only[M.gI,M.gG,List.reverse_nil,EN,Ns];rfl
  |cons u us=>
   obtain⟨k,n,x,y,ks⟩:=u;obtain⟨r,rs,rfl,hD,hDs⟩:=hr;obtain⟨rows',g',rfl,hk'⟩:=hD;have hrl:=Dw hDs;have hkl:=Dw hk';have hs1:=jT us;have hs2:=jT ks;rw[sizes,Tn.size] at hm;rw[qB,txs] at hc;generalize hR:[D.int .i64 k,.int .i64 n,.str x,.sl false 5 rows',.int .i64 g']=R at hs;have c0:eu .i64 R 0=some k:=by rw[<-hR];rfl
   have c1:eu .i64 R 1=some n:=by rw[<-hR];rfl
   have c2:cStr R 2=some x:=by rw[<-hR];rfl
   have c3:cRo 5 R 3=some rows':=by rw[<-hR];rfl
   have c4:eu .i64 R 4=some g':=by rw[<-hR];rfl
   have hlen:((R::rs).reverse.length:Int)=(rs.length:Int)+1:=by simp
   have hw1:i64.wrap ((rs.length:Int)+1 - 1)=(rs.length:Int):=(aG (by omega) (by omega)).trans (by omega);have hget:(R::rs).reverse[rs.length]? =some R:=by rw[List.reverse_cons];exact ZH rs R
   have htk:(R::rs).reverse.take rs.length=rs.reverse:=by rw[List.reverse_cons];exact List.take_left' (by simp)
   have hd:(decide ((0:Int)<=(rs.length:Int)) && decide ((rs.length:Int)<=(rs.length:Int)+1))=true:=by simp;omega
   have hkids:=fun(cc:Int)=>aip w cc i k n x g' hk' (by omega) rs.reverse (by rw[List.length_reverse];omega)
   have hw2:i64.wrap ((rows'.length:Int) - 1)=(rows'.length:Int) - 1:=aG (by omega) (by omega);have hgo:rs.reverse++rows'.reverse=(rows'++rs).reverse:=by rw[List.reverse_append]
   have hDk:Ll (ks++us) (rows'++rs):=YI hk' hDs;rw[Ns,bh];cases h2:k==2 with
   |true=>
    apply dD;have e2:k=2:=by simpa using h2
    have h1:(k==1)=false:=by rw[e2];rfl
    rcases hs with rfl|⟨a,b,d,e,f,g,h,rfl⟩<;>
    ·simp only[M.gI,M.gG,hlen,hw1,dF,O9,hget,ah,c0,c1,c2,c3,c4,hd,bW,h1,h2,dP];rw[zdt (by omega),bW];simp
   |false=>
   cases h3:k==3 with
   |true=>
    apply dD;have e3:k=3:=by simpa using h3
    have h1:(k==1)=false:=by rw[e3];rfl
    rcases hs with rfl|⟨a,b,d,e,f,g,h,rfl⟩<;>
    ·simp only[M.gI,M.gG,hlen,hw1,dF,O9,hget,ah,c0,c1,c2,c3,c4,hd,bW,h1,h2,h3,dP];rw[zdt (by omega),bW];simp
   |false=>
    generalize ape:(bif k==1 then x.length else 0)=tx;have htx:tx<=x.length:=by rw[<-ape];cases k==1<;>simp
    have hstep:∃s',M.gI s=some (.inl s')∧S6 w ((c+tx:Nat):Int) i (rows'++rs).reverse s':=by
     cases h1:k==1 with
     |true=>
      rw[h1,bW] at ape;subst ape;have hw3:i64.wrap ((c:Int)+(x.length:Int))=((c+x.length:Nat):Int):=(aG (by omega) (by omega)).trans (by omega);rcases hs with rfl|⟨a,b,d,e,f,g,h,rfl⟩<;>
      ·refine⟨_, ?_,.inr ⟨-1,false,k,n,x,rows',g',rfl⟩⟩
       ·simp only[M.gI,M.gG,hlen,hw1,dF,O9,hget,ah,c0,c1,c2,c3,c4,hd,bW,h1,htk,hw2,hkids,hw3,hgo];rw[zdt (by omega),bW]
     |false=>
      rw[h1,dP] at ape;subst ape;rcases hs with rfl|⟨a,b,d,e,f,g,h,rfl⟩<;>
      ·refine⟨_, ?_,.inr ⟨-1,false,k,n,x,rows',g',rfl⟩⟩
       ·simp only[M.gI,M.gG,hlen,hw1,dF,O9,hget,ah,c0,c1,c2,c3,c4,hd,bW,dP,h1,h2,h3,htk,hw2,hkids,hgo,Nat.add_zero];rw[zdt (by omega),bW]
    obtain⟨s',hb,hS⟩:=hstep;rw[eF hb,ih (ks++us) (rows'++rs) (c+tx) s' (by rw[kK];omega) (by omega) hDk (by rw[KQ];omega) hS,abM];simp only[Bool.or_self,dP];cases hb2:(Ns ks).2 with
    |true=>simp[hb2,Nat.add_assoc]
    |false=>simp only[dP];cases(Ns us).2<;>simp[Nat.add_assoc]
end Go.Proofs.YtbpldgeajbfgnaaGreatDoor
